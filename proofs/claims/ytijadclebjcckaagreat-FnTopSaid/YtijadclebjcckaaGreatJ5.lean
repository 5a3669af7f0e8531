/-
  A part of the proof of FnTop (texts of one proof, joined).
-/
import Derived.Test.YtijadclebjcckaaGreatJ4
namespace Go.Proofs.YtijadclebjcckaaGreat
set_option linter.all false
set_option maxRecDepth 100000
set_option maxHeartbeats 16000000
section
open Go.RowKit Go.Maps Go.WideMaps Go.WideElems Go.MapKept Go.ChangeMaps Go.ChangeShapes
def monoK (xs e : List Int) : Nat→Int
 | 0=>1
 | n+1=>monoK xs e n * xs.getD n 0 ^ (e.getD n 0).toNat
def mono (xs e : List Int) : Int:=monoK xs e 7
def pick (ws ys : List Int) (i : Nat) : Int:=if i < ws.length then ys.getD (ws.getD i 0).toNat 0 else 0
def pickL (ws ys : List Int) : List Int:=(List.range 7).map (pick ws ys)
theorem pickL_getD (ws ys : List Int) {i : Nat} (h : i < 7) : (pickL ws ys).getD i 0=pick ws ys i:=by
 unfold pickL
 rw [List.getD_eq_getElem?_getD,List.getElem?_map,List.getElem?_range h];rfl
def GV (D : DU) (P : Pl) (m : List Int→Int) (left : Lit→Bool) (S : Int) : Prop:=Cg (S+SmK D left fun l=>m (unkl l)) (Ev P m)
theorem GV.start {w : World} {b n d : Nat} {D : DU} {P : Pl} (m : List Int→Int) (h : OwnMp w b n D) (hp : PolM d D P) : GV D P m (has D) 0:=by
 have:=Gath.start (T:=fun g=>g) h hp m
 simpa [GV,Ev] using this
theorem GV.step {d : Nat} {D : DU} {P : Pl} {m : List Int→Int} {left : Lit→Bool} {S : Int} (h : GV D P m left S) (ht : Tidy D) {e : List Int} (he : K7 d e) (hd : d≤1000000) (hl : left (kl e)=true) {c : Int}
 (hat : D.atKey (kl e) (.lit (.int .i64 0))=.lit (.int .i64 c)) {S' : Int} (hS : Cg S' (S+c * m e)) : GV D P m (fun z=>left z && !z.sameKey (kl e)) S':=by
 unfold GV at h ⊢
 rw [SmK_step ht (kl_lit e) hl,hat] at h
 simp only [coef,unkl_kl he hd] at h
 refine (hS.add (Cg.refl _)).trans ?_
 rw [Int.add_assoc]
 exact h
theorem GV.end {D : DU} {P : Pl} {m : List Int→Int} {left : Lit→Bool} {S : Int} (h : GV D P m left S) (hl : ∀ l,left l=false) : Cg S (Ev P m):=by
 unfold GV at h
 rw [SmK_none hl] at h
 simpa using h
theorem wrap_of_cg {S X : Int} (h : Cg S X) (h1 : -9223372036854775808≤S) (h2 : S≤9223372036854775807) : S=wrap64 X:=by
 obtain ⟨m,rfl⟩:=h
 unfold wrap64 M64 at *
 omega
theorem wrap_in (x : Int) : -9223372036854775808≤wrap64 x∧wrap64 x≤9223372036854775807:=by unfold wrap64;omega
theorem wpList_index_run {P : Program} (w : World) {ops : Array Oper} {rest : List Oper} {o : Oper} {a : Act} {Q : Exit→Act→World→Prop} (hg : o.guard=none) (m x : Operand) (t : TypeId) (hop : o.op=Op.index t m x)
 (vm vx r : Value) (hm : a.eval m=vm) (hx : a.eval x=vx) (hrun : (Instr.index t vm vx).run P w=.ok r w) (hK : wpList P ops Q rest (a.put o.dst r) w) : wpList P ops Q (o :: rest) a w:=by
 refine wpList_plain hg fun K' hK'=> ?_
 unfold Oper.wp
 simp [execOp,hop,hm,hx,hrun,Result.andThen]
 exact hK' _ _ hK
theorem idx7_0 (a0 a1 a2 a3 a4 a5 a6 : Int) (W : World) : (Instr.index 107 (.agg #[.int .i64 a0,.int .i64 a1,.int .i64 a2,.int .i64 a3,.int .i64 a4,.int .i64 a5,.int .i64 a6]) (.int .i64 0)).run Tryz.prog W=.ok (.int .i64 a0) W:=by kernel_rfl
theorem idx7_1 (a0 a1 a2 a3 a4 a5 a6 : Int) (W : World) : (Instr.index 107 (.agg #[.int .i64 a0,.int .i64 a1,.int .i64 a2,.int .i64 a3,.int .i64 a4,.int .i64 a5,.int .i64 a6]) (.int .i64 1)).run Tryz.prog W=.ok (.int .i64 a1) W:=by kernel_rfl
theorem idx7_2 (a0 a1 a2 a3 a4 a5 a6 : Int) (W : World) : (Instr.index 107 (.agg #[.int .i64 a0,.int .i64 a1,.int .i64 a2,.int .i64 a3,.int .i64 a4,.int .i64 a5,.int .i64 a6]) (.int .i64 2)).run Tryz.prog W=.ok (.int .i64 a2) W:=by kernel_rfl
theorem idx7_3 (a0 a1 a2 a3 a4 a5 a6 : Int) (W : World) : (Instr.index 107 (.agg #[.int .i64 a0,.int .i64 a1,.int .i64 a2,.int .i64 a3,.int .i64 a4,.int .i64 a5,.int .i64 a6]) (.int .i64 3)).run Tryz.prog W=.ok (.int .i64 a3) W:=by kernel_rfl
theorem idx7_4 (a0 a1 a2 a3 a4 a5 a6 : Int) (W : World) : (Instr.index 107 (.agg #[.int .i64 a0,.int .i64 a1,.int .i64 a2,.int .i64 a3,.int .i64 a4,.int .i64 a5,.int .i64 a6]) (.int .i64 4)).run Tryz.prog W=.ok (.int .i64 a4) W:=by kernel_rfl
theorem idx7_5 (a0 a1 a2 a3 a4 a5 a6 : Int) (W : World) : (Instr.index 107 (.agg #[.int .i64 a0,.int .i64 a1,.int .i64 a2,.int .i64 a3,.int .i64 a4,.int .i64 a5,.int .i64 a6]) (.int .i64 5)).run Tryz.prog W=.ok (.int .i64 a5) W:=by kernel_rfl
theorem idx7_6 (a0 a1 a2 a3 a4 a5 a6 : Int) (W : World) : (Instr.index 107 (.agg #[.int .i64 a0,.int .i64 a1,.int .i64 a2,.int .i64 a3,.int .i64 a4,.int .i64 a5,.int .i64 a6]) (.int .i64 6)).run Tryz.prog W=.ok (.int .i64 a6) W:=by kernel_rfl
theorem valueAt_any (u vw vy : Value) (d nf : Nat) (P : Pl) (ws ys : List Int) (w : World) (hf : PolV w u d nf P) (hd : d < 1000000) (hw : Ints w vw ws) (hy : Ints w vy ys) (hwl : ws.length≤7)
 (hws : ∀ i,i < ws.length → ∃ m : Nat,ws.getD i 0=(m : Int)∧m < ys.length) :
 Calls Tryz.prog 108 #[u,vw,vy] w fun e w'=>e=.returned (.int .i64 (wrap64 (Ev P (mono (pickL ws ys)))))∧Below w.heap.size w w':=by
 obtain ⟨bf,Df,rfl,hf1,hf2⟩:=hf
 have hblf:=hf1.lt
 have HF2:=Lib.hid hf2
 have Hws:=Lib.hid hws
 obtain ⟨pw,cw,rfl,⟨hw1,hw2⟩,hwc⟩:=hw
 obtain ⟨py,cy,rfl,⟨hy1,hy2⟩,hyc⟩:=hy
 unfold maxLen at hw2 hy2
 obtain ⟨m,hm⟩ : ∃ m,m=mono (pickL ws ys):=⟨_,rfl⟩
 have Hm:=Lib.hid hm
 have hG0:=Lib.hid (GV.start m hf1 hf2)
 obtain ⟨B,hB⟩ : ∃ B,B=w.heap.size:=⟨_,rfl⟩
 have HB:=Lib.hid hB
 have Hwc:=Lib.hid hwc
 have Hyc:=Lib.hid hyc
 rw [← hm]
 clear hf2 hws hm hwc hyc
 go_enter Tryz.func108,Tryz.ntmps108
 go_wp2_with (first
  | (at_range;refine wpList_range_own _ rfl _ 102 rfl 107 3 klaw und41 _ bf nf _ rfl hf1 ?_;intro w0 hrg0 hg0 hs0)
  | fail)
 go_frame
 have hbel0 : Below w.heap.size w w0:=(Below.refl _ _).grown hg0 (Nat.le_refl _) (fun j hj=>by cases hj)
 rw [← hB] at hrg0 hs0 hbel0 hblf ⊢
 have Hbel0:=Lib.hid hbel0
 clear hbel0 hg0 hB
 go_loopg [7,8,9,10,11] (Maps.size Df) (fun g s7 s8 s9 s10 s11 wr=> ∃ (left : Lit→Bool) (S : Int),s7=.int .i64 S∧RanP wr bf B nf Df left g∧(∀ l,left l=true→has Df l=true) ∧
  Hid (-9223372036854775808≤S∧S≤9223372036854775807)∧Hid (GV Df P m left S)∧Hid (Below B w wr))
 case atStart=>exact ⟨_,0,rfl,hrg0,fun _ h=>h,Lib.hid (by omega),hG0,Hbel0⟩
 case round =>
  obtain ⟨left,S,rfl,hrg,hleft,hS,hgv,hbel⟩:=hrel
  obtain ⟨wx,rfl⟩ : ∃ x : World,x=wr:=⟨_,rfl⟩
  go_wp2_with (first
   | (at_next;refine wpList_next_poly _ rfl _ rfl bf B nf d Df P left gk rfl hrg HF2.out (by omega) hleft ?_ ?_)
   | fail)
  ·intro hc0 hl0
   have hend:=wrap_of_cg (hgv.out.end hl0) hS.out.1 hS.out.2
   have Hend:=Lib.hid hend
   clear hend
   go_wp2_with fail
   go_ret
   exact ⟨by rw [← Hend.out];rfl,HB.out ▸ hbel.out⟩
  ·intro a0 a1 a2 a3 a4 a5 a6 c w1 cnt1 hK hlx hwf hat hrg1 hlt hgr1 hs1 hen
   have Hat:=Lib.hid hat
   have Hgr1:=Lib.hid hgr1
   have HK:=Lib.hid hK
   have hBr:=hrg.lt
   have Hbel1:=Lib.hid ((hbel.out.grown Hgr1.out (by omega) (fun j hj=>by cases hj;omega)).alloc (by omega) (.cells #[.int .i64 a0,.int .i64 a1,.int .i64 a2,.int .i64 a3,.int .i64 a4,.int .i64 a5,.int .i64 a6] 107))
   have hrgU : RanP (w1.alloc (.cells #[.int .i64 a0,.int .i64 a1,.int .i64 a2,.int .i64 a3,.int .i64 a4,.int .i64 a5,.int .i64 a6] 107)) bf B nf Df (fun z=>left z && !z.sameKey (kl [a0,a1,a2,a3,a4,a5,a6])) cnt1:=hrg1.alloc _
   have b0:=hK.2 a0 (by simp)
   have b1:=hK.2 a1 (by simp)
   have b2:=hK.2 a2 (by simp)
   have b3:=hK.2 a3 (by simp)
   have b4:=hK.2 a4 (by simp)
   have b5:=hK.2 a5 (by simp)
   have b6:=hK.2 a6 (by simp)
   clear hat hgr1 hK hrg hbel hrg1
   go_wp2_with fail
   clear hen
   obtain ⟨U,hU⟩ : ∃ U,U=w1.alloc (.cells #[.int .i64 a0,.int .i64 a1,.int .i64 a2,.int .i64 a3,.int .i64 a4,.int .i64 a5,.int .i64 a6] 107):=⟨_,rfl⟩
   rw [← hU] at hrgU Hbel1 ⊢
   clear hU
   go_loopg [9,10,11,20] 7 (fun g s9 s10 s11 s20 wr=> ∃ (t : Nat) (C : Int),t≤7∧g=7 - t∧s9=.int .i64 C∧s20=.int .i64 (t : Int)∧U=wr ∧
    Hid (Cg C (c * monoK (pickL ws ys) [a0,a1,a2,a3,a4,a5,a6] t)))
   case atStart=>exact ⟨0,c,by omega,rfl,rfl,rfl,rfl,Lib.hid (Cg.of _ _ (by simp [monoK]))⟩
   case round =>
    obtain ⟨t,C,ht,rfl,rfl,rfl,rfl,hC⟩:=hrel
    by_cases ht7 : t < 7
    ·have ht7i : (t : Int) < 7:=by omega
     obtain ⟨x,hx⟩ : ∃ x,x=pick ws ys t:=⟨_,rfl⟩
     have hxe : (pickL ws ys).getD t 0=x:=by rw [pickL_getD ws ys ht7,hx]
     have Hxe:=Lib.hid hxe
     have Hx:=Lib.hid hx
     have Hbel:=Hbel1
     clear hxe hx
     have t7 : t=0 ∨ t=1 ∨ t=2 ∨ t=3 ∨ t=4 ∨ t=5 ∨ t=6:=by omega
     rcases t7 with h0 | h0 | h0 | h0 | h0 | h0 | h0
     ·subst h0
      have hidx:=idx7_0 a0 a1 a2 a3 a4 a5 a6 U
      obtain ⟨ek,hek⟩:=Int.eq_ofNat_of_zero_le b0.1
      have Hek:=Lib.hid hek
      clear hek
      go_wp2_with (first | (refine wpList_index_run _ rfl _ _ _ rfl _ _ _ rfl rfl hidx ?_) | fail)
      clear hidx
      go_loopg [9,25] ek (fun g s9 s25 wr=> ∃ (q : Nat) (C2 : Int),q≤ek∧g=ek - q∧s9=.int .i64 C2∧s25=.int .i64 (q : Int)∧U=wr∧Hid (Cg C2 (C * x ^ q)))
      case atStart=>exact ⟨0,C,by omega,rfl,rfl,rfl,rfl,Lib.hid (Cg.of _ _ (by simp))⟩
      case round =>
       obtain ⟨q,C2,hq,rfl,rfl,rfl,rfl,hC2⟩:=hrel
       by_cases hqe : q < ek
       ·have hqi : (q : Int) < a0:=by have:=Hek.out;omega
        have hstep : ∀ z,Cg z (C2 * x)→Cg z (C * x ^ (q+1)):=fun z hz=>hz.trans (by rw [Int.pow_succ,← Int.mul_assoc];exact hC2.out.mul (Cg.refl _))
        have Hstep:=Lib.hid hstep
        clear hstep
        by_cases hlw : 0 < ws.length
        ·have hlwi : (0 : Int) < (ws.length : Int):=by omega
         obtain ⟨mm,hmm,hmy⟩:=Hws.out 0 hlw
         obtain ⟨bw,ow,rfl,hcw⟩:=Hwc.out (by omega)
         obtain ⟨bY,oy,rfl,hcy⟩:=Hyc.out (by omega)
         have c1:=cell_below (HB.out ▸ Hbel1.out) (hcw 0 hlw)
         have c2:=cell_below (HB.out ▸ Hbel1.out) (hcy mm hmy)
         unfold iv at c1 c2
         rw [hmm,Nat.add_zero] at c1
         have hxx : ys.getD mm 0=x:=by rw [Hx.out];unfold pick;rw [if_pos hlw,hmm];rfl
         rw [hxx] at c2
         have hmi : (mm : Int) < (ys.length : Int):=by omega
         clear hcw hcy hmm hxx
         go_wp2_with fail
         go_roundg (ek - (q+1))
         case measure=>omega
         case rel=>exact ⟨q+1,_,by omega,rfl,rfl,by go_num,rfl,Lib.hid (Hstep.out _ (cg_wrap _))⟩
        ·have hlwi : ¬ (0 : Int) < (ws.length : Int):=by omega
         have hx0 : x=0:=by rw [Hx.out];unfold pick;rw [if_neg hlw]
         have Hx0:=Lib.hid hx0
         clear hx0
         go_wp2_with fail
         go_roundg (ek - (q+1))
         case measure=>omega
         case rel=>exact ⟨q+1,_,by omega,rfl,rfl,by go_num,rfl,Lib.hid (Hstep.out _ (Cg.of _ _ (by rw [Hx0.out];simp)))⟩
       ·have hqi : ¬ (q : Int) < a0:=by have:=Hek.out;omega
        obtain rfl : q=ek:=by omega
        go_wp2_with fail
        go_roundg (7 - (0+1))
        case measure=>omega
        case rel =>
         refine ⟨0+1,C2,by omega,rfl,rfl,by go_num,rfl,Lib.hid ?_⟩
         refine hC2.out.trans ?_
         show Cg _ (c * (monoK (pickL ws ys) [a0,a1,a2,a3,a4,a5,a6] 0 * (pickL ws ys).getD 0 0 ^ (a0).toNat))
         rw [Hxe.out,Hek.out,Int.toNat_natCast,← Int.mul_assoc]
         exact hC.out.mul (Cg.refl _)
     ·subst h0
      have hidx:=idx7_1 a0 a1 a2 a3 a4 a5 a6 U
      obtain ⟨ek,hek⟩:=Int.eq_ofNat_of_zero_le b1.1
      have Hek:=Lib.hid hek
      clear hek
      go_wp2_with (first | (refine wpList_index_run _ rfl _ _ _ rfl _ _ _ rfl rfl hidx ?_) | fail)
      clear hidx
      go_loopg [9,25] ek (fun g s9 s25 wr=> ∃ (q : Nat) (C2 : Int),q≤ek∧g=ek - q∧s9=.int .i64 C2∧s25=.int .i64 (q : Int)∧U=wr∧Hid (Cg C2 (C * x ^ q)))
      case atStart=>exact ⟨0,C,by omega,rfl,rfl,rfl,rfl,Lib.hid (Cg.of _ _ (by simp))⟩
      case round =>
       obtain ⟨q,C2,hq,rfl,rfl,rfl,rfl,hC2⟩:=hrel
       by_cases hqe : q < ek
       ·have hqi : (q : Int) < a1:=by have:=Hek.out;omega
        have hstep : ∀ z,Cg z (C2 * x)→Cg z (C * x ^ (q+1)):=fun z hz=>hz.trans (by rw [Int.pow_succ,← Int.mul_assoc];exact hC2.out.mul (Cg.refl _))
        have Hstep:=Lib.hid hstep
        clear hstep
        by_cases hlw : 1 < ws.length
        ·have hlwi : (1 : Int) < (ws.length : Int):=by omega
         obtain ⟨mm,hmm,hmy⟩:=Hws.out 1 hlw
         obtain ⟨bw,ow,rfl,hcw⟩:=Hwc.out (by omega)
         obtain ⟨bY,oy,rfl,hcy⟩:=Hyc.out (by omega)
         have c1:=cell_below (HB.out ▸ Hbel1.out) (hcw 1 hlw)
         have c2:=cell_below (HB.out ▸ Hbel1.out) (hcy mm hmy)
         unfold iv at c1 c2
         rw [hmm] at c1
         have hxx : ys.getD mm 0=x:=by rw [Hx.out];unfold pick;rw [if_pos hlw,hmm];rfl
         rw [hxx] at c2
         have hmi : (mm : Int) < (ys.length : Int):=by omega
         clear hcw hcy hmm hxx
         go_wp2_with fail
         go_roundg (ek - (q+1))
         case measure=>omega
         case rel=>exact ⟨q+1,_,by omega,rfl,rfl,by go_num,rfl,Lib.hid (Hstep.out _ (cg_wrap _))⟩
        ·have hlwi : ¬ (1 : Int) < (ws.length : Int):=by omega
         have hx0 : x=0:=by rw [Hx.out];unfold pick;rw [if_neg hlw]
         have Hx0:=Lib.hid hx0
         clear hx0
         go_wp2_with fail
         go_roundg (ek - (q+1))
         case measure=>omega
         case rel=>exact ⟨q+1,_,by omega,rfl,rfl,by go_num,rfl,Lib.hid (Hstep.out _ (Cg.of _ _ (by rw [Hx0.out];simp)))⟩
       ·have hqi : ¬ (q : Int) < a1:=by have:=Hek.out;omega
        obtain rfl : q=ek:=by omega
        go_wp2_with fail
        go_roundg (7 - (1+1))
        case measure=>omega
        case rel =>
         refine ⟨1+1,C2,by omega,rfl,rfl,by go_num,rfl,Lib.hid ?_⟩
         refine hC2.out.trans ?_
         show Cg _ (c * (monoK (pickL ws ys) [a0,a1,a2,a3,a4,a5,a6] 1 * (pickL ws ys).getD 1 0 ^ (a1).toNat))
         rw [Hxe.out,Hek.out,Int.toNat_natCast,← Int.mul_assoc]
         exact hC.out.mul (Cg.refl _)
     ·subst h0
      have hidx:=idx7_2 a0 a1 a2 a3 a4 a5 a6 U
      obtain ⟨ek,hek⟩:=Int.eq_ofNat_of_zero_le b2.1
      have Hek:=Lib.hid hek
      clear hek
      go_wp2_with (first | (refine wpList_index_run _ rfl _ _ _ rfl _ _ _ rfl rfl hidx ?_) | fail)
      clear hidx
      go_loopg [9,25] ek (fun g s9 s25 wr=> ∃ (q : Nat) (C2 : Int),q≤ek∧g=ek - q∧s9=.int .i64 C2∧s25=.int .i64 (q : Int)∧U=wr∧Hid (Cg C2 (C * x ^ q)))
      case atStart=>exact ⟨0,C,by omega,rfl,rfl,rfl,rfl,Lib.hid (Cg.of _ _ (by simp))⟩
      case round =>
       obtain ⟨q,C2,hq,rfl,rfl,rfl,rfl,hC2⟩:=hrel
       by_cases hqe : q < ek
       ·have hqi : (q : Int) < a2:=by have:=Hek.out;omega
        have hstep : ∀ z,Cg z (C2 * x)→Cg z (C * x ^ (q+1)):=fun z hz=>hz.trans (by rw [Int.pow_succ,← Int.mul_assoc];exact hC2.out.mul (Cg.refl _))
        have Hstep:=Lib.hid hstep
        clear hstep
        by_cases hlw : 2 < ws.length
        ·have hlwi : (2 : Int) < (ws.length : Int):=by omega
         obtain ⟨mm,hmm,hmy⟩:=Hws.out 2 hlw
         obtain ⟨bw,ow,rfl,hcw⟩:=Hwc.out (by omega)
         obtain ⟨bY,oy,rfl,hcy⟩:=Hyc.out (by omega)
         have c1:=cell_below (HB.out ▸ Hbel1.out) (hcw 2 hlw)
         have c2:=cell_below (HB.out ▸ Hbel1.out) (hcy mm hmy)
         unfold iv at c1 c2
         rw [hmm] at c1
         have hxx : ys.getD mm 0=x:=by rw [Hx.out];unfold pick;rw [if_pos hlw,hmm];rfl
         rw [hxx] at c2
         have hmi : (mm : Int) < (ys.length : Int):=by omega
         clear hcw hcy hmm hxx
         go_wp2_with fail
         go_roundg (ek - (q+1))
         case measure=>omega
         case rel=>exact ⟨q+1,_,by omega,rfl,rfl,by go_num,rfl,Lib.hid (Hstep.out _ (cg_wrap _))⟩
        ·have hlwi : ¬ (2 : Int) < (ws.length : Int):=by omega
         have hx0 : x=0:=by rw [Hx.out];unfold pick;rw [if_neg hlw]
         have Hx0:=Lib.hid hx0
         clear hx0
         go_wp2_with fail
         go_roundg (ek - (q+1))
         case measure=>omega
         case rel=>exact ⟨q+1,_,by omega,rfl,rfl,by go_num,rfl,Lib.hid (Hstep.out _ (Cg.of _ _ (by rw [Hx0.out];simp)))⟩
       ·have hqi : ¬ (q : Int) < a2:=by have:=Hek.out;omega
        obtain rfl : q=ek:=by omega
        go_wp2_with fail
        go_roundg (7 - (2+1))
        case measure=>omega
        case rel =>
         refine ⟨2+1,C2,by omega,rfl,rfl,by go_num,rfl,Lib.hid ?_⟩
         refine hC2.out.trans ?_
         show Cg _ (c * (monoK (pickL ws ys) [a0,a1,a2,a3,a4,a5,a6] 2 * (pickL ws ys).getD 2 0 ^ (a2).toNat))
         rw [Hxe.out,Hek.out,Int.toNat_natCast,← Int.mul_assoc]
         exact hC.out.mul (Cg.refl _)
     ·subst h0
      have hidx:=idx7_3 a0 a1 a2 a3 a4 a5 a6 U
      obtain ⟨ek,hek⟩:=Int.eq_ofNat_of_zero_le b3.1
      have Hek:=Lib.hid hek
      clear hek
      go_wp2_with (first | (refine wpList_index_run _ rfl _ _ _ rfl _ _ _ rfl rfl hidx ?_) | fail)
      clear hidx
      go_loopg [9,25] ek (fun g s9 s25 wr=> ∃ (q : Nat) (C2 : Int),q≤ek∧g=ek - q∧s9=.int .i64 C2∧s25=.int .i64 (q : Int)∧U=wr∧Hid (Cg C2 (C * x ^ q)))
      case atStart=>exact ⟨0,C,by omega,rfl,rfl,rfl,rfl,Lib.hid (Cg.of _ _ (by simp))⟩
      case round =>
       obtain ⟨q,C2,hq,rfl,rfl,rfl,rfl,hC2⟩:=hrel
       by_cases hqe : q < ek
       ·have hqi : (q : Int) < a3:=by have:=Hek.out;omega
        have hstep : ∀ z,Cg z (C2 * x)→Cg z (C * x ^ (q+1)):=fun z hz=>hz.trans (by rw [Int.pow_succ,← Int.mul_assoc];exact hC2.out.mul (Cg.refl _))
        have Hstep:=Lib.hid hstep
        clear hstep
        by_cases hlw : 3 < ws.length
        ·have hlwi : (3 : Int) < (ws.length : Int):=by omega
         obtain ⟨mm,hmm,hmy⟩:=Hws.out 3 hlw
         obtain ⟨bw,ow,rfl,hcw⟩:=Hwc.out (by omega)
         obtain ⟨bY,oy,rfl,hcy⟩:=Hyc.out (by omega)
         have c1:=cell_below (HB.out ▸ Hbel1.out) (hcw 3 hlw)
         have c2:=cell_below (HB.out ▸ Hbel1.out) (hcy mm hmy)
         unfold iv at c1 c2
         rw [hmm] at c1
         have hxx : ys.getD mm 0=x:=by rw [Hx.out];unfold pick;rw [if_pos hlw,hmm];rfl
         rw [hxx] at c2
         have hmi : (mm : Int) < (ys.length : Int):=by omega
         clear hcw hcy hmm hxx
         go_wp2_with fail
         go_roundg (ek - (q+1))
         case measure=>omega
         case rel=>exact ⟨q+1,_,by omega,rfl,rfl,by go_num,rfl,Lib.hid (Hstep.out _ (cg_wrap _))⟩
        ·have hlwi : ¬ (3 : Int) < (ws.length : Int):=by omega
         have hx0 : x=0:=by rw [Hx.out];unfold pick;rw [if_neg hlw]
         have Hx0:=Lib.hid hx0
         clear hx0
         go_wp2_with fail
         go_roundg (ek - (q+1))
         case measure=>omega
         case rel=>exact ⟨q+1,_,by omega,rfl,rfl,by go_num,rfl,Lib.hid (Hstep.out _ (Cg.of _ _ (by rw [Hx0.out];simp)))⟩
       ·have hqi : ¬ (q : Int) < a3:=by have:=Hek.out;omega
        obtain rfl : q=ek:=by omega
        go_wp2_with fail
        go_roundg (7 - (3+1))
        case measure=>omega
        case rel =>
         refine ⟨3+1,C2,by omega,rfl,rfl,by go_num,rfl,Lib.hid ?_⟩
         refine hC2.out.trans ?_
         show Cg _ (c * (monoK (pickL ws ys) [a0,a1,a2,a3,a4,a5,a6] 3 * (pickL ws ys).getD 3 0 ^ (a3).toNat))
         rw [Hxe.out,Hek.out,Int.toNat_natCast,← Int.mul_assoc]
         exact hC.out.mul (Cg.refl _)
     ·subst h0
      have hidx:=idx7_4 a0 a1 a2 a3 a4 a5 a6 U
      obtain ⟨ek,hek⟩:=Int.eq_ofNat_of_zero_le b4.1
      have Hek:=Lib.hid hek
      clear hek
      go_wp2_with (first | (refine wpList_index_run _ rfl _ _ _ rfl _ _ _ rfl rfl hidx ?_) | fail)
      clear hidx
      go_loopg [9,25] ek (fun g s9 s25 wr=> ∃ (q : Nat) (C2 : Int),q≤ek∧g=ek - q∧s9=.int .i64 C2∧s25=.int .i64 (q : Int)∧U=wr∧Hid (Cg C2 (C * x ^ q)))
      case atStart=>exact ⟨0,C,by omega,rfl,rfl,rfl,rfl,Lib.hid (Cg.of _ _ (by simp))⟩
      case round =>
       obtain ⟨q,C2,hq,rfl,rfl,rfl,rfl,hC2⟩:=hrel
       by_cases hqe : q < ek
       ·have hqi : (q : Int) < a4:=by have:=Hek.out;omega
        have hstep : ∀ z,Cg z (C2 * x)→Cg z (C * x ^ (q+1)):=fun z hz=>hz.trans (by rw [Int.pow_succ,← Int.mul_assoc];exact hC2.out.mul (Cg.refl _))
        have Hstep:=Lib.hid hstep
        clear hstep
        by_cases hlw : 4 < ws.length
        ·have hlwi : (4 : Int) < (ws.length : Int):=by omega
         obtain ⟨mm,hmm,hmy⟩:=Hws.out 4 hlw
         obtain ⟨bw,ow,rfl,hcw⟩:=Hwc.out (by omega)
         obtain ⟨bY,oy,rfl,hcy⟩:=Hyc.out (by omega)
         have c1:=cell_below (HB.out ▸ Hbel1.out) (hcw 4 hlw)
         have c2:=cell_below (HB.out ▸ Hbel1.out) (hcy mm hmy)
         unfold iv at c1 c2
         rw [hmm] at c1
         have hxx : ys.getD mm 0=x:=by rw [Hx.out];unfold pick;rw [if_pos hlw,hmm];rfl
         rw [hxx] at c2
         have hmi : (mm : Int) < (ys.length : Int):=by omega
         clear hcw hcy hmm hxx
         go_wp2_with fail
         go_roundg (ek - (q+1))
         case measure=>omega
         case rel=>exact ⟨q+1,_,by omega,rfl,rfl,by go_num,rfl,Lib.hid (Hstep.out _ (cg_wrap _))⟩
        ·have hlwi : ¬ (4 : Int) < (ws.length : Int):=by omega
         have hx0 : x=0:=by rw [Hx.out];unfold pick;rw [if_neg hlw]
         have Hx0:=Lib.hid hx0
         clear hx0
         go_wp2_with fail
         go_roundg (ek - (q+1))
         case measure=>omega
         case rel=>exact ⟨q+1,_,by omega,rfl,rfl,by go_num,rfl,Lib.hid (Hstep.out _ (Cg.of _ _ (by rw [Hx0.out];simp)))⟩
       ·have hqi : ¬ (q : Int) < a4:=by have:=Hek.out;omega
        obtain rfl : q=ek:=by omega
        go_wp2_with fail
        go_roundg (7 - (4+1))
        case measure=>omega
        case rel =>
         refine ⟨4+1,C2,by omega,rfl,rfl,by go_num,rfl,Lib.hid ?_⟩
         refine hC2.out.trans ?_
         show Cg _ (c * (monoK (pickL ws ys) [a0,a1,a2,a3,a4,a5,a6] 4 * (pickL ws ys).getD 4 0 ^ (a4).toNat))
         rw [Hxe.out,Hek.out,Int.toNat_natCast,← Int.mul_assoc]
         exact hC.out.mul (Cg.refl _)
     ·subst h0
      have hidx:=idx7_5 a0 a1 a2 a3 a4 a5 a6 U
      obtain ⟨ek,hek⟩:=Int.eq_ofNat_of_zero_le b5.1
      have Hek:=Lib.hid hek
      clear hek
      go_wp2_with (first | (refine wpList_index_run _ rfl _ _ _ rfl _ _ _ rfl rfl hidx ?_) | fail)
      clear hidx
      go_loopg [9,25] ek (fun g s9 s25 wr=> ∃ (q : Nat) (C2 : Int),q≤ek∧g=ek - q∧s9=.int .i64 C2∧s25=.int .i64 (q : Int)∧U=wr∧Hid (Cg C2 (C * x ^ q)))
      case atStart=>exact ⟨0,C,by omega,rfl,rfl,rfl,rfl,Lib.hid (Cg.of _ _ (by simp))⟩
      case round =>
       obtain ⟨q,C2,hq,rfl,rfl,rfl,rfl,hC2⟩:=hrel
       by_cases hqe : q < ek
       ·have hqi : (q : Int) < a5:=by have:=Hek.out;omega
        have hstep : ∀ z,Cg z (C2 * x)→Cg z (C * x ^ (q+1)):=fun z hz=>hz.trans (by rw [Int.pow_succ,← Int.mul_assoc];exact hC2.out.mul (Cg.refl _))
        have Hstep:=Lib.hid hstep
        clear hstep
        by_cases hlw : 5 < ws.length
        ·have hlwi : (5 : Int) < (ws.length : Int):=by omega
         obtain ⟨mm,hmm,hmy⟩:=Hws.out 5 hlw
         obtain ⟨bw,ow,rfl,hcw⟩:=Hwc.out (by omega)
         obtain ⟨bY,oy,rfl,hcy⟩:=Hyc.out (by omega)
         have c1:=cell_below (HB.out ▸ Hbel1.out) (hcw 5 hlw)
         have c2:=cell_below (HB.out ▸ Hbel1.out) (hcy mm hmy)
         unfold iv at c1 c2
         rw [hmm] at c1
         have hxx : ys.getD mm 0=x:=by rw [Hx.out];unfold pick;rw [if_pos hlw,hmm];rfl
         rw [hxx] at c2
         have hmi : (mm : Int) < (ys.length : Int):=by omega
         clear hcw hcy hmm hxx
         go_wp2_with fail
         go_roundg (ek - (q+1))
         case measure=>omega
         case rel=>exact ⟨q+1,_,by omega,rfl,rfl,by go_num,rfl,Lib.hid (Hstep.out _ (cg_wrap _))⟩
        ·have hlwi : ¬ (5 : Int) < (ws.length : Int):=by omega
         have hx0 : x=0:=by rw [Hx.out];unfold pick;rw [if_neg hlw]
         have Hx0:=Lib.hid hx0
         clear hx0
         go_wp2_with fail
         go_roundg (ek - (q+1))
         case measure=>omega
         case rel=>exact ⟨q+1,_,by omega,rfl,rfl,by go_num,rfl,Lib.hid (Hstep.out _ (Cg.of _ _ (by rw [Hx0.out];simp)))⟩
       ·have hqi : ¬ (q : Int) < a5:=by have:=Hek.out;omega
        obtain rfl : q=ek:=by omega
        go_wp2_with fail
        go_roundg (7 - (5+1))
        case measure=>omega
        case rel =>
         refine ⟨5+1,C2,by omega,rfl,rfl,by go_num,rfl,Lib.hid ?_⟩
         refine hC2.out.trans ?_
         show Cg _ (c * (monoK (pickL ws ys) [a0,a1,a2,a3,a4,a5,a6] 5 * (pickL ws ys).getD 5 0 ^ (a5).toNat))
         rw [Hxe.out,Hek.out,Int.toNat_natCast,← Int.mul_assoc]
         exact hC.out.mul (Cg.refl _)
     ·subst h0
      have hidx:=idx7_6 a0 a1 a2 a3 a4 a5 a6 U
      obtain ⟨ek,hek⟩:=Int.eq_ofNat_of_zero_le b6.1
      have Hek:=Lib.hid hek
      clear hek
      go_wp2_with (first | (refine wpList_index_run _ rfl _ _ _ rfl _ _ _ rfl rfl hidx ?_) | fail)
      clear hidx
      go_loopg [9,25] ek (fun g s9 s25 wr=> ∃ (q : Nat) (C2 : Int),q≤ek∧g=ek - q∧s9=.int .i64 C2∧s25=.int .i64 (q : Int)∧U=wr∧Hid (Cg C2 (C * x ^ q)))
      case atStart=>exact ⟨0,C,by omega,rfl,rfl,rfl,rfl,Lib.hid (Cg.of _ _ (by simp))⟩
      case round =>
       obtain ⟨q,C2,hq,rfl,rfl,rfl,rfl,hC2⟩:=hrel
       by_cases hqe : q < ek
       ·have hqi : (q : Int) < a6:=by have:=Hek.out;omega
        have hstep : ∀ z,Cg z (C2 * x)→Cg z (C * x ^ (q+1)):=fun z hz=>hz.trans (by rw [Int.pow_succ,← Int.mul_assoc];exact hC2.out.mul (Cg.refl _))
        have Hstep:=Lib.hid hstep
        clear hstep
        by_cases hlw : 6 < ws.length
        ·have hlwi : (6 : Int) < (ws.length : Int):=by omega
         obtain ⟨mm,hmm,hmy⟩:=Hws.out 6 hlw
         obtain ⟨bw,ow,rfl,hcw⟩:=Hwc.out (by omega)
         obtain ⟨bY,oy,rfl,hcy⟩:=Hyc.out (by omega)
         have c1:=cell_below (HB.out ▸ Hbel1.out) (hcw 6 hlw)
         have c2:=cell_below (HB.out ▸ Hbel1.out) (hcy mm hmy)
         unfold iv at c1 c2
         rw [hmm] at c1
         have hxx : ys.getD mm 0=x:=by rw [Hx.out];unfold pick;rw [if_pos hlw,hmm];rfl
         rw [hxx] at c2
         have hmi : (mm : Int) < (ys.length : Int):=by omega
         clear hcw hcy hmm hxx
         go_wp2_with fail
         go_roundg (ek - (q+1))
         case measure=>omega
         case rel=>exact ⟨q+1,_,by omega,rfl,rfl,by go_num,rfl,Lib.hid (Hstep.out _ (cg_wrap _))⟩
        ·have hlwi : ¬ (6 : Int) < (ws.length : Int):=by omega
         have hx0 : x=0:=by rw [Hx.out];unfold pick;rw [if_neg hlw]
         have Hx0:=Lib.hid hx0
         clear hx0
         go_wp2_with fail
         go_roundg (ek - (q+1))
         case measure=>omega
         case rel=>exact ⟨q+1,_,by omega,rfl,rfl,by go_num,rfl,Lib.hid (Hstep.out _ (Cg.of _ _ (by rw [Hx0.out];simp)))⟩
       ·have hqi : ¬ (q : Int) < a6:=by have:=Hek.out;omega
        obtain rfl : q=ek:=by omega
        go_wp2_with fail
        go_roundg (7 - (6+1))
        case measure=>omega
        case rel =>
         refine ⟨6+1,C2,by omega,rfl,rfl,by go_num,rfl,Lib.hid ?_⟩
         refine hC2.out.trans ?_
         show Cg _ (c * (monoK (pickL ws ys) [a0,a1,a2,a3,a4,a5,a6] 6 * (pickL ws ys).getD 6 0 ^ (a6).toNat))
         rw [Hxe.out,Hek.out,Int.toNat_natCast,← Int.mul_assoc]
         exact hC.out.mul (Cg.refl _)
    ·have ht7i : ¬ (t : Int) < 7:=by omega
     obtain rfl : t=7:=by omega
     go_wp2_with fail
     go_roundg cnt1
     case measure=>exact hlt
     case rel =>
      refine ⟨_,_,rfl,hrgU,has_sub hleft,Lib.hid (wrap_in _),Lib.hid (hgv.out.step HF2.out.tidy HK.out (by omega) hlx Hat.out ?_),Hbel1⟩
      rw [Hm.out]
      exact (cg_wrap _).trans ((Cg.refl _).add hC.out)
end
section
open Go.RowKit
def fact : Nat→Nat
 | 0=>1
 | n+1=>(n+1) * fact n
theorem fact_le {a b : Nat} (h : a≤b) : fact a≤fact b:=by
 induction h with
 | refl=>exact Nat.le_refl _
 | step _ ih=>exact Nat.le_trans ih (Nat.le_mul_of_pos_left _ (Nat.succ_pos _))
def decGo (out : List Int) : Nat→Nat→Nat→List Int
 | 0,_,_=>out
 | f+1,v,left=>if (v : Int) ∈ out then decGo out f (v+1) left else if left=0 then out ++ [(v : Int)] else decGo out f (v+1) (left - 1)
def decL (n : Nat) (c : List Nat) : List Int:=c.foldl (fun out left=>decGo out n 0 left) []
def restAt (x : Nat) : Nat→Nat
 | 0=>x
 | j+1=>restAt x j / (j+1)
def digits (n x : Nat) : List Nat:=(List.range n).map fun i=>restAt x (n - 1 - i) % (n - i)
def permsL (n : Nat) : List (List Int):=(List.range (fact n)).map fun x=>decL n (digits n x)
theorem ownII_nil (w : World) (lo hi : Nat) : OwnII 24 3 w lo hi (.slice none 0 0) [] :=
 ⟨fun _=>undef,OwnF.nil _ _ _ _ _,fun i hi=>absurd hi (Nat.not_lt_zero _),fun i j _ hj=>absurd hj (Nat.not_lt_zero _)⟩
def allPermsL (N : Int) : List (List Int):=if 1≤N∧N≤5 then permsL N.toNat else []
def allL (n : Nat) : Nat→List Int→List (List Int)
 | 0,ch=>[ch]
 | f+1,ch=>(List.range n).flatMap fun (x : Nat)=>if (x : Int) ∈ ch then [] else allL n f (ch ++ [(x : Int)])
theorem allL_len (n : Nat) : ∀ f ch,(allL n f ch).length≤n ^ f
 | 0,ch=>by simp [allL]
 | f+1,ch=>by
   rw [allL,Nat.pow_succ,Nat.mul_comm]
   refine flatMap_len _ _ (fun x=> ?_) n
   split
   ·simp
   ·exact allL_len n f _
theorem allL_perms (n : Nat) (h1 : 1≤n) (h5 : n≤5) : allL n n []=permsL n:=by
 have : n=1 ∨ n=2 ∨ n=3 ∨ n=4 ∨ n=5:=by omega
 rcases this with rfl | rfl | rfl | rfl | rfl <;> decide +kernel
def nmOk (N : Int) (y : List Int) : Bool:=decide (1≤N) && decide (N≤5) && decide ((y.length : Int)=N) && decide (∀ x ∈ y,-9≤x∧x≤9)
def shiftB (N : Int) (y : List Int) : Bool:=decide ((y.length : Int)=N) && decide (∀ x ∈ y,-9≤x∧x≤9)
def apOk (N : Int) (y : List Int) : Bool:=nmOk N y && decide (N≤4) && decide y.Nodup
def mostB (vs : List Int) : Bool:=decide (∀ x ∈ vs,-1000000000000≤x∧x≤1000000000000)
def swapL (w : List Int) (i j : Nat) : List Int:=(w.set i (w.getD j 0)).set j (w.getD i 0)
theorem swapL_length (w : List Int) (i j : Nat) : (swapL w i j).length=w.length:=by simp [swapL]
theorem swapL_getD {w : List Int} {i j t : Nat} (hi : i < w.length) (hj : j < w.length) : (swapL w i j).getD t 0=if t=j then w.getD i 0 else if t=i then w.getD j 0 else w.getD t 0:=by
 unfold swapL
 by_cases e1 : t=j
 ·subst e1
  rw [if_pos rfl,List.getD_eq_getElem?_getD,List.getElem?_set_self (by simpa using hj)]
  rfl
 ·rw [if_neg e1,List.getD_eq_getElem?_getD,List.getElem?_set_ne (fun h=>e1 h.symm)]
  by_cases e2 : t=i
  ·subst e2
   rw [if_pos rfl,List.getElem?_set_self hi]
   rfl
  ·rw [if_neg e2,List.getElem?_set_ne (fun h=>e2 h.symm),← List.getD_eq_getElem?_getD]
def cdK (xs : List Int) (i t : Nat) : Nat:=((List.range t).filter fun (s : Nat)=>decide (xs.getD (i+1+s) 0 < xs.getD i 0)).length
def cdA (xs : List Int) (i : Nat) : Nat:=cdK xs i (xs.length - (i+1))
def plA (xs : List Int) : Nat→Nat
 | 0=>0
 | i+1=>plA xs i * (xs.length - i)+cdA xs i
def plN (xs : List Int) : Nat:=plA xs xs.length
def ltL : List Int→List Int→Bool
 | [],[]=>false
 | [],_ :: _=>true
 | _ :: _,[]=>false
 | x :: xs,y :: ys=>if x < y then true else if y < x then false else ltL xs ys
def gkChk (n : Nat) : Bool :=
 (List.range (fact n)).all fun x=>decide (((permsL n).getD x []).length=n) && ((permsL n).getD x []).all (fun v=>decide (0≤v∧v < (n : Int))) && decide (((permsL n).getD x []).Nodup) &&
   (List.range n).all (fun j=>(List.range j).all fun i=>decide (plN (swapL ((permsL n).getD x []) i j) < fact n) && decide ((permsL n).getD (plN (swapL ((permsL n).getD x []) i j)) []=swapL ((permsL n).getD x []) i j)) &&
   (List.range (fact n)).all fun z=>decide (ltL ((permsL n).getD x []) ((permsL n).getD z [])=decide (x < z))
theorem gk_all : gkChk 1=true∧gkChk 2=true∧gkChk 3=true∧gkChk 4=true:=by decide +kernel
structure GkN (n : Nat) : Prop where
 len : ∀ x,x < fact n→((permsL n).getD x []).length=n
 rng : ∀ x t,x < fact n→t < n → ∃ m : Nat,((permsL n).getD x []).getD t 0=(m : Int)∧m < n
 inj : ∀ x s t,x < fact n→s < t→t < n→((permsL n).getD x []).getD s 0 ≠ ((permsL n).getD x []).getD t 0
 plc : ∀ x i j,x < fact n→i < j→j < n→plN (swapL ((permsL n).getD x []) i j) < fact n∧(permsL n).getD (plN (swapL ((permsL n).getD x []) i j)) []=swapL ((permsL n).getD x []) i j
 lt : ∀ x z,x < fact n→z < fact n→ltL ((permsL n).getD x []) ((permsL n).getD z [])=decide (x < z)
theorem gkN {n : Nat} (h1 : 1≤n) (h4 : n≤4) : GkN n:=by
 have hc : gkChk n=true:=by
  have : n=1 ∨ n=2 ∨ n=3 ∨ n=4:=by omega
  rcases this with rfl | rfl | rfl | rfl
  ·exact gk_all.1
  ·exact gk_all.2.1
  ·exact gk_all.2.2.1
  ·exact gk_all.2.2.2
 unfold gkChk at hc
 simp only [List.all_eq_true,List.mem_range,Bool.and_eq_true,decide_eq_true_eq] at hc
 refine ⟨fun x hx=>(hc x hx).1.1.1.1,fun x t hx ht=> ?_,fun x s t hx hs ht e=> ?_,fun x i j hx hi hj=>(hc x hx).1.2 j hj i hi,fun x z hx hz=>(hc x hx).2 z hz⟩
 ·have hl:=(hc x hx).1.1.1.1
  have:=(hc x hx).1.1.1.2 _ (getD_mem (show t < ((permsL n).getD x []).length by omega))
  exact ⟨(((permsL n).getD x []).getD t 0).toNat,by omega,by omega⟩
 ·have hl:=(hc x hx).1.1.1.1
  have hn:=(hc x hx).1.1.2
  have a : s < ((permsL n).getD x []).length:=by omega
  have b : t < ((permsL n).getD x []).length:=by omega
  rw [getD_lt a,getD_lt b] at e
  exact List.pairwise_iff_getElem.1 hn s t a b hs e
def gkAt (n : Nat) (vs y : List Int) (x i j : Nat) : Prop :=
 (vs.getD x 0 - vs.getD (plN (swapL ((permsL n).getD x []) i j)) 0).tmod (y.getD (((permsL n).getD x []).getD i 0).toNat 0 - y.getD (((permsL n).getD x []).getD j 0).toNat 0)=0
def GkIs (N : Int) (vs y : List Int) (b : Bool) : Prop :=
 b=true ↔ apOk N y=true∧vs.length=fact N.toNat∧mostB vs=true ∧ ∀ x i j,x < fact N.toNat→i < j→j < N.toNat→gkAt N.toNat vs y x i j
theorem GkIs.one {N : Int} {vs y : List Int} {b b' : Bool} (h : GkIs N vs y b) (h' : GkIs N vs y b') : b=b':=by
 unfold GkIs at h h'
 have e : b=true ↔ b'=true:=h.trans h'.symm
 cases b <;> cases b' <;> simp_all
theorem GkIs.eps {N : Int} {vs y : List Int} {b : Bool} (h : GkIs N vs y b) : b=Classical.epsilon (GkIs N vs y):=h.one (Classical.epsilon_spec ⟨b,h⟩)
theorem GkIs.no1 {N : Int} {vs y : List Int} (h : apOk N y=false) : GkIs N vs y false:=⟨fun e=>(by cases e),fun e=>by rw [h] at e;cases e.1⟩
theorem GkIs.no2 {N : Int} {vs y : List Int} (h : ¬ vs.length=fact N.toNat) : GkIs N vs y false:=⟨fun e=>(by cases e),fun e=>absurd e.2.1 h⟩
theorem GkIs.no3 {N : Int} {vs y : List Int} (h : mostB vs=false) : GkIs N vs y false:=⟨fun e=>(by cases e),fun e=>by have:=e.2.2.1;rw [h] at this;cases this⟩
theorem GkIs.no4 {N : Int} {vs y : List Int} {x i j : Nat} (h1 : x < fact N.toNat) (h2 : i < j) (h3 : j < N.toNat) (h : ¬ gkAt N.toNat vs y x i j) : GkIs N vs y false:=⟨fun e=>(by cases e),fun e=>absurd (e.2.2.2 x i j h1 h2 h3) h⟩
theorem nm_no1 {N : Int} {y : List Int} (h : ¬ (1≤N∧N≤5)) : nmOk N y=false:=by
 unfold nmOk
 by_cases h1 : 1≤N
 ·rw [decide_eq_false (show ¬ N≤5 by omega)];simp
 ·rw [decide_eq_false h1];simp
theorem all_of_getD {y : List Int} {Q : Int→Prop} (h : ∀ k,k < y.length→Q (y.getD k 0)) : ∀ x ∈ y,Q x:=fun x hx=>by
 obtain ⟨k,hk,rfl⟩:=List.mem_iff_getElem.1 hx
 have:=h k hk
 rwa [getD_lt hk] at this
theorem nm_facts {N : Int} {y : List Int} (h : nmOk N y=true) : ∃ n : Nat,N=n∧1≤n∧n≤5∧y.length=n ∧ ∀ k,k < n → -9≤y.getD k 0∧y.getD k 0≤9:=by
 unfold nmOk at h
 simp only [Bool.and_eq_true,decide_eq_true_eq] at h
 obtain ⟨⟨⟨h1,h2⟩,h3⟩,h4⟩:=h
 exact ⟨y.length,h3.symm,by omega,by omega,rfl,fun k hk=>h4 _ (getD_mem hk)⟩
theorem ints_takeP2 {w : World} {p : Option Addr} {cap : Nat} {xs : List Int} (h : Ints w (.slice p xs.length cap) xs) {i : Nat} (hi : i≤xs.length) : Ints w (.slice p i cap) (xs.take i):=h.take i hi
theorem ap_no1 {N : Int} {y : List Int} (h : nmOk N y=false) : apOk N y=false:=by simp [apOk,h]
theorem ap_no2 {N : Int} {y : List Int} (h : ¬ N≤4) : apOk N y=false:=by simp [apOk,h]
theorem nodup_no {y : List Int} {k : Nat} (hk : k < y.length) (h : y.getD k 0 ∈ y.take k) : ¬ y.Nodup:=fun hn=>by
 obtain ⟨j,hj,e⟩:=List.mem_iff_getElem.1 h
 have hj' : j < k:=by rw [List.length_take] at hj;omega
 rw [List.getElem_take,getD_lt hk] at e
 exact List.pairwise_iff_getElem.1 hn j k (by omega) hk hj' e
theorem nodup_yes {y : List Int} (h : ∀ k,k < y.length → ¬ y.getD k 0 ∈ y.take k) : y.Nodup:=by
 refine List.pairwise_iff_getElem.2 fun i j hi hj hij e=>h j hj ?_
 rw [getD_lt hj,← e]
 exact List.mem_iff_getElem.2 ⟨i,by rw [List.length_take];omega,by rw [List.getElem_take]⟩
theorem ap_no3 {N : Int} {y : List Int} {k : Nat} (hk : k < y.length) (h : y.getD k 0 ∈ y.take k) : apOk N y=false:=by
 unfold apOk
 rw [decide_eq_false (nodup_no hk h)];simp
theorem ap_yes {N : Int} {y : List Int} (h1 : nmOk N y=true) (h2 : N≤4) (h : ∀ k,k < y.length → ¬ y.getD k 0 ∈ y.take k) : apOk N y=true:=by
 unfold apOk
 rw [h1,decide_eq_true h2,decide_eq_true (nodup_yes h)];rfl
theorem ap_facts {N : Int} {y : List Int} (h : apOk N y=true) : ∃ n : Nat,N=n∧1≤n∧n≤4∧y.length=n∧(∀ k,k < n → -9≤y.getD k 0∧y.getD k 0≤9) ∧ ∀ i j,i < n→j < n→i ≠ j→y.getD i 0 ≠ y.getD j 0:=by
 unfold apOk at h
 simp only [Bool.and_eq_true,decide_eq_true_eq] at h
 obtain ⟨⟨h1,h2⟩,h3⟩:=h
 obtain ⟨n,rfl,a,b,c,d⟩:=nm_facts h1
 refine ⟨n,rfl,a,by omega,c,d,fun i j hi hj hij e=> ?_⟩
 rw [getD_lt (show i < y.length by omega),getD_lt (show j < y.length by omega)] at e
 rcases Nat.lt_or_gt_of_ne hij with h | h
 ·exact List.pairwise_iff_getElem.1 h3 i j (by omega) (by omega) h e
 ·exact List.pairwise_iff_getElem.1 h3 j i (by omega) (by omega) h e.symm
theorem most_at {vs : List Int} (h : mostB vs=true) {k : Nat} (hk : k < vs.length) : -1000000000000≤vs.getD k 0∧vs.getD k 0≤1000000000000:=of_decide_eq_true h _ (getD_mem hk)
theorem OwnI.setG {T : TypeId} {w : World} {lo hi g n cap t : Nat} {D : List Int} (h : OwnI T w lo hi (.slice (some ⟨g,0,none⟩) n cap) D) (ht : t < D.length) (x : Int) : OwnI T (w.setCell ⟨g,t,none⟩ (.int .i64 x)) lo hi (.slice (some ⟨g,0,none⟩) n cap) (D.set t x):=by
 refine OwnF.ints ?_
 rw [List.length_set]
 refine (h.fn.set t _).congr fun j hj=> ?_
 unfold iv
 by_cases e : j=t
 ·subst e;simp [List.getD_eq_getElem?_getD,ht]
 ·simp [e,List.getD_eq_getElem?_getD,List.getElem?_set_ne (fun h=>e h.symm)]
theorem exchanged_any (v : Value) (xs : List Int) (i j : Nat) (w : World) (h : Ints w v xs) (hi : i < xs.length) (hj : j < xs.length) (hij : i ≠ j) (hl : xs.length≤1000) :
 Calls Tryz.prog 125 #[v,.int .i64 (i : Int),.int .i64 (j : Int)] w (RetI w (swapL xs i j)):=by
 have Hh:=Lib.hid h
 obtain ⟨p,cap,rfl,⟨hx1,hx⟩,hxc⟩:=h
 unfold maxLen at hx
 clear hxc
 go_enter Tryz.func125,Tryz.ntmps125
 go_wp2_with fail
 refine (clone_any _ xs _ Hh.out (by omega)).mono ?_
 rintro e w1 ⟨u,rfl,ho,hb⟩
 have hofn:=ho.fn
 obtain ⟨pu,ku,rfl,hku,hku2⟩:=ho.shape
 unfold maxLen at hku2
 obtain ⟨g,rfl,hg1,hg2,hg3⟩:=hofn.at_ (by omega)
 obtain ⟨x,hx'⟩ : ∃ x,x=xs.getD i 0:=⟨_,rfl⟩
 obtain ⟨y,hy'⟩ : ∃ y,y=xs.getD j 0:=⟨_,rfl⟩
 have f1:=hofn.frozen i
 have f2:=hofn.frozen j
 have d1:=hofn.cell hi
 have d2:=hofn.cell hj
 unfold iv at d1 d2
 rw [← hx'] at d1
 rw [← hy'] at d2
 obtain ⟨z,d3⟩ : ∃ z,(w1.setCell ⟨g,i,none⟩ (.int .i64 y)).cell? ⟨g,j,none⟩=some z:=⟨_,(hofn.set i (.int .i64 y)).cell hj⟩
 have d3' : (w1.drew.setCell ⟨g,i,none⟩ (.int .i64 y)).cell? ⟨g,j,none⟩=some z:=d3
 obtain ⟨n,hn⟩ : ∃ n,n=xs.length:=⟨_,rfl⟩
 have Hn:=Lib.hid hn
 have Ho:=Lib.hid ho
 have Hb:=Lib.hid hb
 have Hx:=Lib.hid hx'
 have Hy:=Lib.hid hy'
 have hi2 : (i : Int) < (n : Int):=by omega
 have hj2 : (j : Int) < (n : Int):=by omega
 rw [← hn] at hx1 hku hi hj ⊢
 clear hofn ho hb hn hx' hy'
 go_wp2_with fail
 have hji : j ≠ i:=fun e=>hij e.symm
 go_region
 go_wp2_with fail
 go_ret
 refine ⟨_,rfl,?_,((Hb.out.setCell (p:=⟨g,i,none⟩) hg1 _).setCell (p:=⟨g,j,none⟩) hg1 _).drew⟩
 unfold swapL
 rw [← Hx.out,← Hy.out]
 have o1:=(Ho.out.setG (by rw [← Hn.out];exact hi) y).setG (t:=j) (by rw [List.length_set,← Hn.out];exact hj) x
 rw [← Hn.out] at o1
 have:=o1.mono (Nat.le_refl _) (show w1.heap.size≤((w1.setCell ⟨g,i,none⟩ (.int .i64 y)).setCell ⟨g,j,none⟩ (.int .i64 x)).heap.size by simp)
 exact this.below (Below.refl _ _).drew
end
section
open Go.RowKit Go.Maps Go.WideMaps Go.WideElems Go.MapKept Go.ChangeMaps Go.ChangeShapes
def fasc (xs : List Int) : Option Nat:=(List.range (xs.length - 1)).find? fun (k : Nat)=>decide (xs.getD k 0 < xs.getD (k+1) 0)
def lowP : Nat→List Int→Pl→Pl
 | 0,_,P=>P
 | f+1,xs,P=>match fasc xs with
   | none=>P
   | some k=>dvP k (lowP f (swapL xs k (k+1)) P)
def lowOk : Nat→List Int→Bool
 | 0,xs=>(fasc xs).isNone
 | f+1,xs=>match fasc xs with
   | none=>true
   | some k=>lowOk f (swapL xs k (k+1))
theorem fasc_some {xs : List Int} {k : Nat} (hk : k < xs.length - 1) (h : xs.getD k 0 < xs.getD (k+1) 0) (h0 : ∀ j,j < k → ¬ xs.getD j 0 < xs.getD (j+1) 0) : fasc xs=some k:=by
 unfold fasc
 rw [List.find?_range_eq_some]
 refine ⟨by simpa using h,by simpa using hk,fun j hj=>by simpa using h0 j hj⟩
theorem fasc_none {xs : List Int} (h0 : ∀ j,j < xs.length - 1 → ¬ xs.getD j 0 < xs.getD (j+1) 0) : fasc xs=none:=by
 unfold fasc
 rw [List.find?_eq_none]
 intro j hj
 simpa using h0 j (List.mem_range.1 hj)
theorem lowered_any (d : Nat) (P : Pl) (hd : d < 1000000) (hd1 : 1≤d) : ∀ (f : Nat) (xs : List Int) (u vw : Value) (nf : Nat) (w : World),lowOk f xs=true→xs.length≤5→PolV w u d nf P→nf * d ^ f < 1000000000000000→Ints w vw xs →
 Calls Tryz.prog 98 #[vw,u,.func (.func 100) #[] #[]] w fun e w'=> ∃ u',e=.returned u'∧PolV w' u' d (nf * d ^ f) (lowP f xs P)∧Below w.heap.size w w':=by
 intro f
 induction f using Nat.strongRecOn with
 | _ f ih =>
   intro xs u vw nf w hok hl hp hn hw
   have Hp:=Lib.hid hp
   have Hw:=Lib.hid hw
   have hge0 : nf≤nf * d ^ f:=Nat.le_mul_of_pos_right _ (Nat.pow_pos hd1)
   have hasc : ∀ k,fasc xs=some k → ∃ f',f=f'+1∧lowOk f' (swapL xs k (k+1))=true∧lowP f xs P=dvP k (lowP f' (swapL xs k (k+1)) P):=fun k hk=>by
    cases f with
    | zero=>unfold lowOk at hok;rw [hk] at hok;cases hok
    | succ f'=>exact ⟨f',rfl,by unfold lowOk at hok;rw [hk] at hok;exact hok,by rw [lowP,hk]⟩
   have hnone : fasc xs=none→lowP f xs P=P:=fun hk=>by
    cases f with
    | zero=>rfl
    | succ f'=>rw [lowP,hk]
   have Hasc:=Lib.hid hasc
   have Hnone:=Lib.hid hnone
   have Ih:=Lib.hid ih
   have Hn:=Lib.hid hn
   have Hge:=Lib.hid hge0
   obtain ⟨T,hT⟩ : ∃ T,T=nf * d ^ f:=⟨_,rfl⟩
   have HT:=Lib.hid hT
   rw [← hT]
   obtain ⟨pw,cw,rfl,⟨hw1,hw2⟩,hwc⟩:=hw
   obtain ⟨bf,Df,rfl,hf1,hf2⟩:=hp
   unfold maxLen at hw2
   have Hwc:=Lib.hid hwc
   obtain ⟨R,hR⟩ : ∃ R,R=lowP f xs P:=⟨_,rfl⟩
   have HR:=Lib.hid hR
   rw [← hR]
   clear hwc hf1 hf2 hok ih hT hasc hnone hn hge0 hR
   go_enter Tryz.func98,Tryz.ntmps98
   go_wp2_with fail
   go_loopg [7,11] xs.length (fun g s7 s11 wr=> ∃ k : Nat,k≤xs.length∧g=xs.length - k∧s11=.int .i64 (k : Int)∧Qt w wr∧Hid (∀ j,j < k → ¬ xs.getD j 0 < xs.getD (j+1) 0))
   case atStart=>exact ⟨0,by omega,rfl,rfl,Qt.refl _,Lib.hid fun j hj=>absurd hj (Nat.not_lt_zero _)⟩
   case round =>
    obtain ⟨k,hk,rfl,rfl,hq,hpre⟩:=hrel
    obtain ⟨wx,rfl⟩ : ∃ x : World,x=wr:=⟨_,rfl⟩
    by_cases hkl : k+1 < xs.length
    ·have hki : (k : Int) < (xs.length : Int) - 1:=by omega
     obtain ⟨bw,ow,rfl,hc⟩:=Hwc.out (by omega)
     have c1:=hq.cell (hc k (by omega))
     have c2:=hq.cell (hc (k+1) hkl)
     unfold iv at c1 c2
     obtain ⟨x,hx⟩ : ∃ x,x=xs.getD k 0:=⟨_,rfl⟩
     obtain ⟨y,hy⟩ : ∃ y,y=xs.getD (k+1) 0:=⟨_,rfl⟩
     rw [← hx] at c1
     rw [← hy] at c2
     have Hx:=Lib.hid hx
     have Hy:=Lib.hid hy
     have HQ:=Lib.hid hq
     have hk1 : (k : Int) < (xs.length : Int):=by omega
     have hk2 : (k : Int)+1 < (xs.length : Int):=by omega
     clear hx hy hc hq
     by_cases hxy : x < y
     ·go_wp2_with fail
      go_quiet (fail)
      have HQ1:=Lib.hid (HQ.out.drewN nq)
      go_wp2_with fail
      obtain ⟨f',hf',hok',hlow⟩:=Hasc.out k (fasc_some (by omega) (by rw [← Hx.out,← Hy.out];exact hxy) fun j hj=>Int.not_lt.2 (by have:=hpre.out j hj;omega))
      have Hlow:=Lib.hid hlow
      have Hok':=Lib.hid hok'
      have Hf':=Lib.hid hf'
      clear hlow hok' hf'
      refine (exchanged_any _ xs k (k+1) _ (Hw.out.qt HQ1.out) (by omega) hkl (by omega) (by omega)).mono ?_
      rintro e w1 ⟨ue,rfl,hoe,hbe⟩
      have Hoe:=Lib.hid hoe.ints
      obtain ⟨pe,ke,rfl,_,_⟩:=hoe.shape
      have Hb1:=Lib.hid ((HQ1.out.below w.heap.size).trans (hbe.mono (Nat.le_of_eq HQ1.out.size.symm)))
      clear hoe hbe
      go_wp2_with fail
      have hT0 : nf * d ^ f' * d=T:=by rw [HT.out,Hf'.out,Nat.pow_succ,Nat.mul_assoc]
      have hT1 : nf * d ^ f'≤T:=by rw [← hT0];exact Nat.le_mul_of_pos_right _ (by omega)
      have HT0:=Lib.hid hT0
      clear hT0
      refine (Ih.out f' (by have:=Hf'.out;omega) (swapL xs k (k+1)) _ _ nf _ Hok'.out (by rw [swapL_length];exact hl) (Hp.out.below Hb1.out) (by have:=Hn.out;have:=HT.out;omega) Hoe.out).mono ?_
      rintro e w2 ⟨u2,rfl,hp2,hb2⟩
      have Hp2:=Lib.hid hp2
      obtain ⟨b2,D2,rfl,_,_⟩:=hp2
      have Hb2:=Lib.hid (Hb1.out.trans (hb2.mono Hb1.out.size))
      clear hb2
      go_wp2_with fail
      refine (divided_any _ k d (nf * d ^ f') _ _ Hp2.out (by omega) hd (by rw [HT0.out];have:=Hn.out;have:=HT.out;omega)).mono ?_
      rintro e w3 ⟨u3,rfl,hp3,hb3⟩
      have Hp3:=Lib.hid hp3
      have Hb3:=Lib.hid (Hb2.out.trans (hb3.mono Hb2.out.size))
      obtain ⟨b3,D3,rfl,_,_⟩:=hp3
      clear hb3
      go_wp2_with fail
      go_ret
      refine ⟨_,rfl,?_,Hb3.out⟩
      rw [HR.out,Hlow.out,← HT0.out]
      exact Hp3.out
     ·go_wp2_with fail
      go_quiet (fail)
      have HQ1:=Lib.hid (HQ.out.drewN nq)
      go_wp2_with fail
      go_roundg (xs.length - (k+1))
      case measure=>omega
      case rel =>
       refine ⟨k+1,by omega,rfl,by go_num,HQ1.out,Lib.hid fun j hj=> ?_⟩
       by_cases e : j=k
       ·subst e;rw [← Hx.out,← Hy.out];omega
       ·exact hpre.out j (by omega)
    ·have hki : ¬ (k : Int) < (xs.length : Int) - 1:=by omega
     go_wp2_with fail
     go_ret
     refine ⟨_,rfl,?_,hq.below _⟩
     rw [HR.out,Hnone.out (fasc_none fun j hj=>Int.not_lt.2 (by have:=hpre.out j (by omega);omega))]
     exact (Hp.out.below (hq.below _)).mono (Nat.le_refl _) (by rw [HT.out];exact Hge.out)
theorem wpList_insert_own {w : World} {ops : Array Oper} {rest : List Oper} {o : Oper} {a : Act} {Q : Exit→Act→World→Prop}
 (hg : o.guard=none) (m x v : Operand) (hop : o.op=Op.insert 102 m x v) (b n : Nat) (D : DU)
 (hm : a.eval m=.map (some b)) (hown : OwnMp w b n D) (hn : n < 1000000000000000) (key : Value) (k0 : Lit) (c : Int) (hx : a.eval x=key) (hv : a.eval v=.int .i64 c) (hkey : keyOf Tryz.prog 107 key=some k0)
 (hc : (Lit.int .i64 c).wf=true)
 (hK : ∀ w',OwnMp w' b (n+1) (D.put k0 (.lit (.int .i64 c)))→w.grownBy w' (some b)→wpList Tryz.prog ops Q rest (a.put o.dst undef) w') :
 wpList Tryz.prog ops Q (o :: rest) a w:=by
 refine wpList_plain hg fun K' hK'=> ?_
 obtain ⟨w',hrun,r1,r2⟩:=hown.update klaw und41 (by unfold maxLen;omega) hkey (plainElem_int undI hc)
 unfold Oper.wp
 simp [execOp,hop,hm,hx,hv,hrun,Result.andThen]
 exact hK' _ _ (hK w' r1 r2)
def topJ (i : Nat) (ys : List Int) : Nat→Pl→Pl
 | 0,T=>T
 | m+1,T=>rsP i (topJ i ys m T) ++ sclP (-(ys.getD m 0)) (topJ i ys m T)
def topI (n : Nat) (ys : List Int) : Nat→Pl
 | 0=>[([0,0,0,0,0,0,0],1)]
 | i+1=>topJ i ys (n - 1 - i) (topI n ys i)
def dblP (xs ys : List Int) : Pl:=lowP 10 xs (topI xs.length ys xs.length)
theorem buildE (w : World) : (Instr.build 107 #[]).run Tryz.prog w=.ok (.agg #[.int .i64 0,.int .i64 0,.int .i64 0,.int .i64 0,.int .i64 0,.int .i64 0,.int .i64 0]) w:=by kernel_rfl
end
section
theorem cancel {a b : Int} (ha : a ≠ 0) (h : a * b=0) : b=0:=(Int.mul_eq_zero.1 h).resolve_left ha
theorem step2 {a b c p q r s u v w : Int} (h1 : a * u=p) (h2 : b * v=q) (h3 : c * w=u - v) : a * b * c * w=b * p - a * q:=by
 have : a * b * c * w=a * b * (c * w):=by grind
 rw [this,h3]
 have : a * b * (u - v)=b * (a * u) - a * (b * v):=by grind
 rw [this,h1,h2]
theorem braid (x y z p0 p1 p2 p12 p21 p121 al al2 al12 be be1 de ga ga1 ga2 ga21 ep ep2 : Int) (hxy : x - y ≠ 0) (hxz : x - z ≠ 0) (hyz : y - z ≠ 0)
 (h1 : (x - y) * al=p0 - p1) (h2 : (x - z) * al2=p2 - p21) (h3 : (y - z) * al12=p12 - p121)
 (h4 : (y - z) * be=al - al2) (h5 : (x - z) * be1=al - al12) (h6 : (x - y) * de=be - be1)
 (g1 : (y - z) * ga=p0 - p2) (g2 : (x - z) * ga1=p1 - p12) (g3 : (x - y) * ga21=p21 - p121)
 (g4 : (x - y) * ep=ga - ga1) (g5 : (x - z) * ep2=ga - ga21) : (y - z) * de=ep - ep2:=by
 have e1:=step2 h1 h2 h4 (r:=0) (s:=0)
 have e2:=step2 h1 h3 h5 (r:=0) (s:=0)
 have e3:=step2 g1 g2 g4 (r:=0) (s:=0)
 have e4:=step2 g1 g3 g5 (r:=0) (s:=0)
 clear h1 h2 h3 h4 h5 g1 g2 g3 g4 g5
 have d1 : (x - y) * (x - z) * (y - z) * ((x - y) * de)=(x - y) * (p0 - p1 - p2+p12+p21 - p121):=by
  rw [h6]
  have : (x - y) * (x - z) * (y - z) * (be - be1)=(x - y) * (x - z) * (y - z) * be - (x - y) * (y - z) * (x - z) * be1:=by grind
  rw [this,e1,e2]
  grind
 have d2 : (x - y) * (x - z) * (y - z) * (ep - ep2)=(y - z) * (p0 - p1 - p2+p12+p21 - p121):=by
  have : (x - y) * (x - z) * (y - z) * (ep - ep2)=(y - z) * (x - z) * (x - y) * ep - (y - z) * (x - y) * (x - z) * ep2:=by grind
  rw [this,e3,e4]
  grind
 clear e1 e2 e3 e4 h6
 have c1 : (x - y) * (x - z) * (y - z) * de=p0 - p1 - p2+p12+p21 - p121:=by
  have : (x - y) * ((x - y) * (x - z) * (y - z) * de - (p0 - p1 - p2+p12+p21 - p121))=0:=by
   have t : ∀ A p : Int,(x - y) * (A * de - p)=A * ((x - y) * de) - (x - y) * p:=fun A p=>by grind
   rw [t,d1];omega
  have:=cancel hxy this
  omega
 have c2 : (x - y) * (x - z) * (ep - ep2)=p0 - p1 - p2+p12+p21 - p121:=by
  have : (y - z) * ((x - y) * (x - z) * (ep - ep2) - (p0 - p1 - p2+p12+p21 - p121))=0:=by
   have t : ∀ A p : Int,(y - z) * (A * (ep - ep2) - p)=A * (y - z) * (ep - ep2) - (y - z) * p:=fun A p=>by grind
   rw [t,d2];omega
  have:=cancel hyz this
  omega
 have : (x - y) * ((x - z) * ((y - z) * de - (ep - ep2)))=0:=by
  have t : (x - y) * ((x - z) * ((y - z) * de - (ep - ep2)))=(x - y) * (x - z) * (y - z) * de - (x - y) * (x - z) * (ep - ep2):=by grind
  rw [t,c1,c2];omega
 have:=cancel hxz (cancel hxy this)
 omega
end
end Go.Proofs.YtijadclebjcckaaGreat
