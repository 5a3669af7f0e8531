/-
  A part of the proof of FnTop (texts of one proof, joined).
-/
import Derived.Test.YtijadclebjcckaaGreatJ12
namespace Go.Proofs.YtijadclebjcckaaGreat
set_option linter.all false
set_option maxRecDepth 100000
set_option maxHeartbeats 16000000
section
open Go.RowKit
theorem tkv {P : Program} {md : Region.Mode} {ops : Array Oper} {Q : Exit→Act→World→Prop} {S : World→Prop} (i : Nat) (v : Value) {oi : Oper} {fuel : Nat} {listed : Array Bool} {a : Act} {w : World} (hi : ops[i]?=some oi)
 (hc : (Region.noSelect ops && Region.free md ops listed i && (Region.ready md ops listed).contains i)=true)
 (hQ : ∀ c a w,Q (.panic c) (a.put oi.dst v) w→Q (.panic c) a w) (hy : YieldsIf P ops S oi v a) (hS : S w)
 (h : wpAnyH P md ops Q S fuel (listed.setIfInBounds i true) (a.put oi.dst v) w) : wpAnyH P md ops Q S (fuel+1) listed a w :=
 wpAnyH_take hi (Bool.and_eq_true_iff.1 (Bool.and_eq_true_iff.1 hc).1).1 (Bool.and_eq_true_iff.1 (Bool.and_eq_true_iff.1 hc).1).2 (Bool.and_eq_true_iff.1 hc).2 hQ hy hS h
theorem implClassesOk_any (v : Value) (cs : List Cls) (w : World) (h : RdCl w v cs) :
 Calls Tryz.prog 75 #[v] w fun e w'=>e=.returned (.bool (clsOk cs))∧Below w.heap.size w w':=by
 obtain ⟨f,hs1,hf⟩:=h
 obtain ⟨p,cap,rfl,⟨hx1,hx⟩,hxc⟩:=hs1.two
 unfold maxLen at hx
 have Hf:=Lib.hid hf
 have Hxc:=Lib.hid hxc
 clear hf hs1 hxc
 go_enter Tryz.func75,Tryz.ntmps75
 by_cases hbig : 100 < cs.length
 ·have hbig2 : (100 : Int) < (cs.length : Int):=by omega
  have He:=Lib.hid (clsOk_big hbig)
  go_wp2_with fail
  go_ret
  exact ⟨ret_bool He.out.symm,Below.refl _ _⟩
 ·have hbig2 : ¬ (100 : Int) < (cs.length : Int):=by omega
  go_wp2_with fail
  go_loopg [10] cs.length (fun gg sl wr=> ∃ k : Nat,k≤cs.length∧gg=cs.length - k∧sl=.int .i64 k∧Below w.heap.size w wr∧Hid (∀ i,i < k→clAt cs i=true))
  case atStart=>exact ⟨0,Nat.zero_le _,rfl,rfl,Below.refl _ _,fun i hi=>absurd hi (Nat.not_lt_zero _)⟩
  case round =>
   obtain ⟨k,hk,rfl,rfl,hb,hok⟩:=hrel
   obtain ⟨wo,rfl⟩ : ∃ x : World,x=wr:=⟨_,rfl⟩
   have Hok:=Lib.hid hok.out
   clear hok
   by_cases hlt : k < cs.length
   case neg =>
    obtain rfl : k=cs.length:=by omega
    have hl2 : ¬ (cs.length : Int) < (cs.length : Int):=by omega
    have He:=Lib.hid (clsOk_yes (by omega) Hok.out)
    go_wp2_with fail
    go_ret
    exact ⟨ret_bool He.out.symm,hb⟩
   have hlt2 : (k : Int) < (cs.length : Int):=by omega
   have hlt3 : (0 : Int)≤(k : Int):=by omega
   obtain ⟨b,rfl,hc⟩:=Hxc.out (by omega)
   obtain ⟨a0,a1⟩:=hc k hlt
   have c0:=cell_below hb a0
   have c1:=cell_below hb a1
   have hI:=(Hf.out k hlt).below hb
   have Hkeep:=Lib.hid hc
   obtain ⟨X,hX⟩ : ∃ X,X=cs.getD k clD:=⟨_,rfl⟩
   rw [← hX] at c1 hI
   have HAt:=Lib.hid (show clAt cs k=(permOk X.1 && decide (trimN X.1 X.1.length=X.1.length) && !decide (X.2=0) && !decide (X.2 < -1000000) && !decide (1000000 < X.2) && (!decide (0 < k) || ltB (cs.getD (k - 1) clD).1 X.1)) by rw [hX];rfl)
   have Hnext:=Lib.hid (fun h : clAt cs k=true=>show ∀ i,i < k+1→clAt cs i=true from fun i hi=>by
    by_cases e : i=k
    ·rw [e];exact h
    ·exact Hok.out i (by omega))
   obtain ⟨xs,c⟩:=X
   dsimp only at c1 hI HAt
   obtain ⟨p1,k1,e1,_,_⟩:=id hI
   rw [e1] at c0 hI
   clear hc a0 a1 hX e1
   obtain ⟨tn,htn⟩ : ∃ tn,tn=trimN xs xs.length:=⟨_,rfl⟩
   rw [← htn] at HAt
   have Htn:=Lib.hid htn
   have HI:=Lib.hid hI
   clear hI htn
   go_wp2_with fail
   have Hba:=Lib.hid (below_alloc wo (.cells #[.slice p1 xs.length k1,.int .i64 c] 74))
   have Zb:=Lib.hid (heap_alloc_top wo (.cells #[.slice p1 xs.length k1,.int .i64 c] 74))
   have HI1:=Lib.hid (HI.out.below Hba.out)
   have c0:=cell_below Hba.out c0
   generalize hwb : wo.alloc (.cells #[.slice p1 xs.length k1,.int .i64 c] 74)=wb at *
   obtain ⟨d0,d1,df,dz⟩:=blk2 Zb.out
   have Hbb:=Lib.hid (hb.trans (Hba.out.mono hb.size))
   clear hwb
   cases hp : permOk xs
   case' false =>
    have Hp:=Lib.hid hp
    have He:=Lib.hid (clsOk_bad hlt (by rw [HAt.out,hp];simp))
    clear hp
   case' true =>
    have Hp:=Lib.hid hp
    have hl7 : xs.length≤7:=(of_decide_eq_true hp).2.1
    have HcT:=Lib.hid (fun w h=>implTrim_sh (.slice p1 xs.length k1) xs w h Hp.out)
    rw [← Htn.out] at HcT
    rw [hp,Bool.true_and] at HAt
    clear hp
    by_cases ht : tn=xs.length
    case' neg =>
     have ht2 : ((tn : Int) != (xs.length : Int))=true:=by simp;omega
     have He:=Lib.hid (clsOk_bad hlt (by rw [HAt.out,decide_eq_false ht];simp))
    case' pos =>
     rw [decide_eq_true ht,Bool.true_and] at HAt
     clear Htn
     subst ht
     by_cases hc0 : c=0
     case' pos =>
      have hc1 : (c == 0)=true:=by simp [hc0]
      have He:=Lib.hid (clsOk_bad hlt (by rw [HAt.out,hc0];simp))
      clear hc0
     case' neg =>
      have hc1 : (c == 0)=false:=by simp [hc0]
      rw [decide_eq_false hc0,Bool.not_false,Bool.true_and] at HAt
      by_cases hc2 : c < -1000000
      case' pos=>have He:=Lib.hid (clsOk_bad hlt (by rw [HAt.out,decide_eq_true hc2];simp))
      case' neg =>
       rw [decide_eq_false hc2,Bool.not_false,Bool.true_and] at HAt
       by_cases hc3 : 1000000 < c
       case' pos=>have He:=Lib.hid (clsOk_bad hlt (by rw [HAt.out,decide_eq_true hc3];simp))
       case' neg =>
        rw [decide_eq_false hc3,Bool.not_false,Bool.true_and] at HAt
        by_cases hk0 : 0 < k
        case' neg =>
         have hk1 : ¬ (0 : Int) < (k : Int):=by omega
         have He:=Lib.hid (show clAt cs k=true by rw [HAt.out,decide_eq_false hk0];rfl)
        case' pos =>
         have hk1 : (0 : Int) < (k : Int):=by omega
         obtain ⟨j0,j1⟩:=Hkeep.out (k - 1) (by omega)
         have e0:=cell_below Hbb.out j0
         have hJ:=(Hf.out (k - 1) (by omega)).below Hbb.out
         obtain ⟨ys,hys⟩ : ∃ ys,ys=(cs.getD (k - 1) clD).1:=⟨_,rfl⟩
         rw [← hys] at hJ HAt
         obtain ⟨p0,k0,ee,_,_⟩:=id hJ
         rw [ee] at e0 hJ
         obtain ⟨L0,hL0⟩ : ∃ L0,L0=ys.length:=⟨_,rfl⟩
         rw [← hL0] at e0 hJ
         have HJ1:=Lib.hid hJ
         clear j0 j1 hys ee hJ hL0
         have q1 : IntKind.i64.wrap ((k : Int) - 1)=(k : Int) - 1:=k64 (by omega) (by omega)
         have q2 : (0 : Int)≤(k : Int) - 1:=by omega
         have q3 : (k : Int) - 1 < (cs.length : Int):=by omega
         have q4 : ((k : Int) - 1).toNat=k - 1:=by omega
         have q5 : (1 : Int)≤(k : Int):=by omega
         have HcC:=Lib.hid (fun w h1 h2=>compare_any (.slice p0 L0 k0) (.slice p1 xs.length k1) ys xs w h1 h2)
         have hcl:=cmpB_lt ys xs
         obtain ⟨r,hr⟩ : ∃ r,r=cmpB ys xs:=⟨_,rfl⟩
         rw [← hr] at HcC hcl
         clear hr
         cases hlt4 : ltB ys xs
         case' false =>
          have hr0 : 0≤r:=by rw [hlt4] at hcl;simpa using hcl
          have He:=Lib.hid (clsOk_bad hlt (by rw [HAt.out,decide_eq_true hk0,hlt4];rfl))
         case' true =>
          have hr0 : ¬ 0≤r:=by rw [hlt4] at hcl;simpa using hcl
          have He:=Lib.hid (show clAt cs k=true by rw [HAt.out,decide_eq_true hk0,hlt4];rfl)
         all_goals clear hlt4 hcl
   all_goals
    first
     | refine wp_region_held_drew (S:=(fun w'=>(w'.cell? ⟨wo.heap.size,0,none⟩=some (.slice p1 xs.length k1)∧w'.cell? ⟨wo.heap.size,1,none⟩=some (.int .i64 c)∧w'.cell? ⟨b,(k - 1) * 2,none⟩=some (.slice p0 L0 k0))∧Below wb.heap.size wb w')) (by kernel_rfl) ⟨⟨d0,d1,e0⟩,(Below.refl _ _).drew⟩ (fun hHeld=> ?_)
     | refine wp_region_held_drew (S:=(fun w'=>(w'.cell? ⟨wo.heap.size,0,none⟩=some (.slice p1 xs.length k1)∧w'.cell? ⟨wo.heap.size,1,none⟩=some (.int .i64 c))∧Below wb.heap.size wb w')) (by kernel_rfl) ⟨⟨d0,d1⟩,(Below.refl _ _).drew⟩ (fun hHeld=> ?_)
    (refine tkv 0 (.pointer (some ⟨wo.heap.size,0,none⟩)) rfl (by kernel_rfl) (fun _ _ _ h=>h) (Or.inl ⟨by rfl,?_⟩) (by assumption) ?_;focus (intro w hSw;(try dsimp only at hSw);go_simp;done))
    try simp only [Act.put,List.getElem_toArray,List.getElem_cons_succ,List.getElem_cons_zero,List.setIfInBounds_toArray,List.set_cons_zero,List.set_cons_succ]
    (refine tkv 1 (.slice p1 xs.length k1) rfl (by kernel_rfl) (fun _ _ _ h=>h) (Or.inl ⟨by rfl,?_⟩) (by assumption) ?_;focus (intro w hSw;(try dsimp only at hSw);go_simp;done))
    try simp only [Act.put,List.getElem_toArray,List.getElem_cons_succ,List.getElem_cons_zero,List.setIfInBounds_toArray,List.set_cons_zero,List.set_cons_succ]
    refine wpAnyH_ready (rs:=[2]) (by kernel_rfl) (by simp) ?_
    refine AllReadyH.cons rfl (fun K hK=> ?_) AllReadyH.nil
    go_simp
    first | refine (implIsPerm_b _ xs true Hp.out _ (held_ints HI1.out (by assumption))).mono ?_ | refine (implIsPerm_b _ xs false Hp.out _ (held_ints HI1.out (by assumption))).mono ?_
    rintro e w' ⟨rfl,hb1⟩
    go_wp2_with fail
    refine hK.out _ _ (by first | assumption | exact keep3w hb1 (by assumption) | exact keep2 hb1 (by assumption)) (fun hHeld=> ?_)
    clear hK K
    try simp only [Act.put,List.getElem_toArray,List.getElem_cons_succ,List.getElem_cons_zero,List.setIfInBounds_toArray,List.set_cons_zero,List.set_cons_succ]
    first
     | (refine tkv 3 (.bool false) rfl (by kernel_rfl) (fun _ _ _ h=>h) (Or.inl ⟨by rfl,?_⟩) (by assumption) ?_;focus (intro w hSw;(try dsimp only at hSw);go_simp;done))
     | (refine tkv 3 (.bool true) rfl (by kernel_rfl) (fun _ _ _ h=>h) (Or.inl ⟨by rfl,?_⟩) (by assumption) ?_;focus (intro w hSw;(try dsimp only at hSw);go_simp;done))
    try simp only [Act.put,List.getElem_toArray,List.getElem_cons_succ,List.getElem_cons_zero,List.setIfInBounds_toArray,List.set_cons_zero,List.set_cons_succ]
    first
     | (refine tkv 4 (.bool false) rfl (by kernel_rfl) (fun _ _ _ h=>h) (Or.inl ⟨by rfl,?_⟩) (by assumption) ?_;focus (intro w hSw;(try dsimp only at hSw);go_simp;done))
     | (refine tkv 4 (.bool true) rfl (by kernel_rfl) (fun _ _ _ h=>h) (Or.inl ⟨by rfl,?_⟩) (by assumption) ?_;focus (intro w hSw;(try dsimp only at hSw);go_simp;done))
    try simp only [Act.put,List.getElem_toArray,List.getElem_cons_succ,List.getElem_cons_zero,List.setIfInBounds_toArray,List.set_cons_zero,List.set_cons_succ]
    first
     | (refine tkv 5 (.pointer (some ⟨wo.heap.size,0,none⟩)) rfl (by kernel_rfl) (fun _ _ _ h=>h) (Or.inl ⟨by rfl,?_⟩) (by assumption) ?_;focus (intro w hSw;(try dsimp only at hSw);go_simp;done))
     | (refine tkv 5 undef rfl (by kernel_rfl) (fun _ _ _ h=>h) (Or.inr ⟨by rfl,rfl⟩) (by assumption) ?_)
    try simp only [Act.put,List.getElem_toArray,List.getElem_cons_succ,List.getElem_cons_zero,List.setIfInBounds_toArray,List.set_cons_zero,List.set_cons_succ]
    first
     | (refine tkv 6 (.slice p1 xs.length k1) rfl (by kernel_rfl) (fun _ _ _ h=>h) (Or.inl ⟨by rfl,?_⟩) (by assumption) ?_;focus (intro w hSw;(try dsimp only at hSw);go_simp;done))
     | (refine tkv 6 undef rfl (by kernel_rfl) (fun _ _ _ h=>h) (Or.inr ⟨by rfl,rfl⟩) (by assumption) ?_)
    try simp only [Act.put,List.getElem_toArray,List.getElem_cons_succ,List.getElem_cons_zero,List.setIfInBounds_toArray,List.set_cons_zero,List.set_cons_succ]
    first
     | (refine tkv 9 (.pointer (some ⟨wo.heap.size,0,none⟩)) rfl (by kernel_rfl) (fun _ _ _ h=>h) (Or.inl ⟨by rfl,?_⟩) (by assumption) ?_;focus (intro w hSw;(try dsimp only at hSw);go_simp;done))
     | (refine tkv 9 undef rfl (by kernel_rfl) (fun _ _ _ h=>h) (Or.inr ⟨by rfl,rfl⟩) (by assumption) ?_)
    try simp only [Act.put,List.getElem_toArray,List.getElem_cons_succ,List.getElem_cons_zero,List.setIfInBounds_toArray,List.set_cons_zero,List.set_cons_succ]
    first
     | (refine tkv 10 (.slice p1 xs.length k1) rfl (by kernel_rfl) (fun _ _ _ h=>h) (Or.inl ⟨by rfl,?_⟩) (by assumption) ?_;focus (intro w hSw;(try dsimp only at hSw);go_simp;done))
     | (refine tkv 10 undef rfl (by kernel_rfl) (fun _ _ _ h=>h) (Or.inr ⟨by rfl,rfl⟩) (by assumption) ?_)
    try simp only [Act.put,List.getElem_toArray,List.getElem_cons_succ,List.getElem_cons_zero,List.setIfInBounds_toArray,List.set_cons_zero,List.set_cons_succ]
    first
     | (refine tkv 11 (.int .i64 (xs.length : Int)) rfl (by kernel_rfl) (fun _ _ _ h=>h) (Or.inl ⟨by rfl,?_⟩) (by assumption) ?_;focus (intro w hSw;(try dsimp only at hSw);go_simp;done))
     | (refine tkv 11 undef rfl (by kernel_rfl) (fun _ _ _ h=>h) (Or.inr ⟨by rfl,rfl⟩) (by assumption) ?_)
    try simp only [Act.put,List.getElem_toArray,List.getElem_cons_succ,List.getElem_cons_zero,List.setIfInBounds_toArray,List.set_cons_zero,List.set_cons_succ]
    first
     | (refine wpAnyH_ready (rs:=[7]) (by kernel_rfl) (by simp) ?_
        refine AllReadyH.cons rfl (fun K hK=> ?_) AllReadyH.nil
        go_simp
        refine (HcT.out _ (held_ints HI1.out (by assumption))).mono ?_
        rintro e w' ⟨pt,kt,rfl,hb1⟩
        go_wp2_with fail
        refine hK.out _ _ (by first | assumption | exact keep3w hb1 (by assumption) | exact keep2 hb1 (by assumption)) (fun hHeld=> ?_)
        clear hK K)
     | (refine tkv 7 undef rfl (by kernel_rfl) (fun _ _ _ h=>h) (Or.inr ⟨by rfl,rfl⟩) (by assumption) ?_)
    try simp only [Act.put,List.getElem_toArray,List.getElem_cons_succ,List.getElem_cons_zero,List.setIfInBounds_toArray,List.set_cons_zero,List.set_cons_succ]
    first
     | (refine tkv 8 (.int .i64 (xs.length : Int)) rfl (by kernel_rfl) (fun _ _ _ h=>h) (Or.inl ⟨by rfl,?_⟩) (by assumption) ?_;focus (intro w hSw;(try dsimp only at hSw);go_simp;done))
     | (refine tkv 8 (.int .i64 (tn : Int)) rfl (by kernel_rfl) (fun _ _ _ h=>h) (Or.inl ⟨by rfl,?_⟩) (by assumption) ?_;focus (intro w hSw;(try dsimp only at hSw);go_simp;done))
     | (refine tkv 8 undef rfl (by kernel_rfl) (fun _ _ _ h=>h) (Or.inr ⟨by rfl,rfl⟩) (by assumption) ?_)
    try simp only [Act.put,List.getElem_toArray,List.getElem_cons_succ,List.getElem_cons_zero,List.setIfInBounds_toArray,List.set_cons_zero,List.set_cons_succ]
    first
     | (refine tkv 12 (.bool false) rfl (by kernel_rfl) (fun _ _ _ h=>h) (Or.inl ⟨by rfl,?_⟩) (by assumption) ?_;focus (intro w hSw;(try dsimp only at hSw);go_simp;done))
     | (refine tkv 12 (.bool true) rfl (by kernel_rfl) (fun _ _ _ h=>h) (Or.inl ⟨by rfl,?_⟩) (by assumption) ?_;focus (intro w hSw;(try dsimp only at hSw);go_simp;done))
     | (refine tkv 12 undef rfl (by kernel_rfl) (fun _ _ _ h=>h) (Or.inr ⟨by rfl,rfl⟩) (by assumption) ?_)
    try simp only [Act.put,List.getElem_toArray,List.getElem_cons_succ,List.getElem_cons_zero,List.setIfInBounds_toArray,List.set_cons_zero,List.set_cons_succ]
    first
     | (refine tkv 13 (.bool false) rfl (by kernel_rfl) (fun _ _ _ h=>h) (Or.inl ⟨by rfl,?_⟩) (by assumption) ?_;focus (intro w hSw;(try dsimp only at hSw);go_simp;done))
     | (refine tkv 13 (.bool true) rfl (by kernel_rfl) (fun _ _ _ h=>h) (Or.inl ⟨by rfl,?_⟩) (by assumption) ?_;focus (intro w hSw;(try dsimp only at hSw);go_simp;done))
    try simp only [Act.put,List.getElem_toArray,List.getElem_cons_succ,List.getElem_cons_zero,List.setIfInBounds_toArray,List.set_cons_zero,List.set_cons_succ]
    first
     | (refine tkv 14 (.bool false) rfl (by kernel_rfl) (fun _ _ _ h=>h) (Or.inl ⟨by rfl,?_⟩) (by assumption) ?_;focus (intro w hSw;(try dsimp only at hSw);go_simp;done))
     | (refine tkv 14 (.bool true) rfl (by kernel_rfl) (fun _ _ _ h=>h) (Or.inl ⟨by rfl,?_⟩) (by assumption) ?_;focus (intro w hSw;(try dsimp only at hSw);go_simp;done))
    try simp only [Act.put,List.getElem_toArray,List.getElem_cons_succ,List.getElem_cons_zero,List.setIfInBounds_toArray,List.set_cons_zero,List.set_cons_succ]
    first
     | (refine tkv 15 (.pointer (some ⟨wo.heap.size,1,none⟩)) rfl (by kernel_rfl) (fun _ _ _ h=>h) (Or.inl ⟨by rfl,?_⟩) (by assumption) ?_;focus (intro w hSw;(try dsimp only at hSw);go_simp;done))
     | (refine tkv 15 undef rfl (by kernel_rfl) (fun _ _ _ h=>h) (Or.inr ⟨by rfl,rfl⟩) (by assumption) ?_)
    try simp only [Act.put,List.getElem_toArray,List.getElem_cons_succ,List.getElem_cons_zero,List.setIfInBounds_toArray,List.set_cons_zero,List.set_cons_succ]
    first
     | (refine tkv 16 (.int .i64 c) rfl (by kernel_rfl) (fun _ _ _ h=>h) (Or.inl ⟨by rfl,?_⟩) (by assumption) ?_;focus (intro w hSw;(try dsimp only at hSw);go_simp;done))
     | (refine tkv 16 undef rfl (by kernel_rfl) (fun _ _ _ h=>h) (Or.inr ⟨by rfl,rfl⟩) (by assumption) ?_)
    try simp only [Act.put,List.getElem_toArray,List.getElem_cons_succ,List.getElem_cons_zero,List.setIfInBounds_toArray,List.set_cons_zero,List.set_cons_succ]
    first
     | (refine tkv 17 (.bool false) rfl (by kernel_rfl) (fun _ _ _ h=>h) (Or.inl ⟨by rfl,?_⟩) (by assumption) ?_;focus (intro w hSw;(try dsimp only at hSw);go_simp;done))
     | (refine tkv 17 (.bool true) rfl (by kernel_rfl) (fun _ _ _ h=>h) (Or.inl ⟨by rfl,?_⟩) (by assumption) ?_;focus (intro w hSw;(try dsimp only at hSw);go_simp;done))
     | (refine tkv 17 undef rfl (by kernel_rfl) (fun _ _ _ h=>h) (Or.inr ⟨by rfl,rfl⟩) (by assumption) ?_)
    try simp only [Act.put,List.getElem_toArray,List.getElem_cons_succ,List.getElem_cons_zero,List.setIfInBounds_toArray,List.set_cons_zero,List.set_cons_succ]
    first
     | (refine tkv 18 (.bool false) rfl (by kernel_rfl) (fun _ _ _ h=>h) (Or.inl ⟨by rfl,?_⟩) (by assumption) ?_;focus (intro w hSw;(try dsimp only at hSw);go_simp;done))
     | (refine tkv 18 (.bool true) rfl (by kernel_rfl) (fun _ _ _ h=>h) (Or.inl ⟨by rfl,?_⟩) (by assumption) ?_;focus (intro w hSw;(try dsimp only at hSw);go_simp;done))
    try simp only [Act.put,List.getElem_toArray,List.getElem_cons_succ,List.getElem_cons_zero,List.setIfInBounds_toArray,List.set_cons_zero,List.set_cons_succ]
    first
     | (refine tkv 19 (.bool false) rfl (by kernel_rfl) (fun _ _ _ h=>h) (Or.inl ⟨by rfl,?_⟩) (by assumption) ?_;focus (intro w hSw;(try dsimp only at hSw);go_simp;done))
     | (refine tkv 19 (.bool true) rfl (by kernel_rfl) (fun _ _ _ h=>h) (Or.inl ⟨by rfl,?_⟩) (by assumption) ?_;focus (intro w hSw;(try dsimp only at hSw);go_simp;done))
    try simp only [Act.put,List.getElem_toArray,List.getElem_cons_succ,List.getElem_cons_zero,List.setIfInBounds_toArray,List.set_cons_zero,List.set_cons_succ]
    first
     | (refine tkv 20 (.pointer (some ⟨wo.heap.size,1,none⟩)) rfl (by kernel_rfl) (fun _ _ _ h=>h) (Or.inl ⟨by rfl,?_⟩) (by assumption) ?_;focus (intro w hSw;(try dsimp only at hSw);go_simp;done))
     | (refine tkv 20 undef rfl (by kernel_rfl) (fun _ _ _ h=>h) (Or.inr ⟨by rfl,rfl⟩) (by assumption) ?_)
    try simp only [Act.put,List.getElem_toArray,List.getElem_cons_succ,List.getElem_cons_zero,List.setIfInBounds_toArray,List.set_cons_zero,List.set_cons_succ]
    first
     | (refine tkv 21 (.int .i64 c) rfl (by kernel_rfl) (fun _ _ _ h=>h) (Or.inl ⟨by rfl,?_⟩) (by assumption) ?_;focus (intro w hSw;(try dsimp only at hSw);go_simp;done))
     | (refine tkv 21 undef rfl (by kernel_rfl) (fun _ _ _ h=>h) (Or.inr ⟨by rfl,rfl⟩) (by assumption) ?_)
    try simp only [Act.put,List.getElem_toArray,List.getElem_cons_succ,List.getElem_cons_zero,List.setIfInBounds_toArray,List.set_cons_zero,List.set_cons_succ]
    first
     | (refine tkv 22 (.bool false) rfl (by kernel_rfl) (fun _ _ _ h=>h) (Or.inl ⟨by rfl,?_⟩) (by assumption) ?_;focus (intro w hSw;(try dsimp only at hSw);go_simp;done))
     | (refine tkv 22 (.bool true) rfl (by kernel_rfl) (fun _ _ _ h=>h) (Or.inl ⟨by rfl,?_⟩) (by assumption) ?_;focus (intro w hSw;(try dsimp only at hSw);go_simp;done))
     | (refine tkv 22 undef rfl (by kernel_rfl) (fun _ _ _ h=>h) (Or.inr ⟨by rfl,rfl⟩) (by assumption) ?_)
    try simp only [Act.put,List.getElem_toArray,List.getElem_cons_succ,List.getElem_cons_zero,List.setIfInBounds_toArray,List.set_cons_zero,List.set_cons_succ]
    first
     | (refine tkv 23 (.bool false) rfl (by kernel_rfl) (fun _ _ _ h=>h) (Or.inl ⟨by rfl,?_⟩) (by assumption) ?_;focus (intro w hSw;(try dsimp only at hSw);go_simp;done))
     | (refine tkv 23 (.bool true) rfl (by kernel_rfl) (fun _ _ _ h=>h) (Or.inl ⟨by rfl,?_⟩) (by assumption) ?_;focus (intro w hSw;(try dsimp only at hSw);go_simp;done))
    try simp only [Act.put,List.getElem_toArray,List.getElem_cons_succ,List.getElem_cons_zero,List.setIfInBounds_toArray,List.set_cons_zero,List.set_cons_succ]
    first
     | (refine tkv 24 (.bool false) rfl (by kernel_rfl) (fun _ _ _ h=>h) (Or.inl ⟨by rfl,?_⟩) (by assumption) ?_;focus (intro w hSw;(try dsimp only at hSw);go_simp;done))
     | (refine tkv 24 (.bool true) rfl (by kernel_rfl) (fun _ _ _ h=>h) (Or.inl ⟨by rfl,?_⟩) (by assumption) ?_;focus (intro w hSw;(try dsimp only at hSw);go_simp;done))
    try simp only [Act.put,List.getElem_toArray,List.getElem_cons_succ,List.getElem_cons_zero,List.setIfInBounds_toArray,List.set_cons_zero,List.set_cons_succ]
    first
     | (refine tkv 25 (.pointer (some ⟨wo.heap.size,1,none⟩)) rfl (by kernel_rfl) (fun _ _ _ h=>h) (Or.inl ⟨by rfl,?_⟩) (by assumption) ?_;focus (intro w hSw;(try dsimp only at hSw);go_simp;done))
     | (refine tkv 25 undef rfl (by kernel_rfl) (fun _ _ _ h=>h) (Or.inr ⟨by rfl,rfl⟩) (by assumption) ?_)
    try simp only [Act.put,List.getElem_toArray,List.getElem_cons_succ,List.getElem_cons_zero,List.setIfInBounds_toArray,List.set_cons_zero,List.set_cons_succ]
    first
     | (refine tkv 26 (.int .i64 c) rfl (by kernel_rfl) (fun _ _ _ h=>h) (Or.inl ⟨by rfl,?_⟩) (by assumption) ?_;focus (intro w hSw;(try dsimp only at hSw);go_simp;done))
     | (refine tkv 26 undef rfl (by kernel_rfl) (fun _ _ _ h=>h) (Or.inr ⟨by rfl,rfl⟩) (by assumption) ?_)
    try simp only [Act.put,List.getElem_toArray,List.getElem_cons_succ,List.getElem_cons_zero,List.setIfInBounds_toArray,List.set_cons_zero,List.set_cons_succ]
    first
     | (refine tkv 27 (.bool false) rfl (by kernel_rfl) (fun _ _ _ h=>h) (Or.inl ⟨by rfl,?_⟩) (by assumption) ?_;focus (intro w hSw;(try dsimp only at hSw);go_simp;done))
     | (refine tkv 27 (.bool true) rfl (by kernel_rfl) (fun _ _ _ h=>h) (Or.inl ⟨by rfl,?_⟩) (by assumption) ?_;focus (intro w hSw;(try dsimp only at hSw);go_simp;done))
     | (refine tkv 27 undef rfl (by kernel_rfl) (fun _ _ _ h=>h) (Or.inr ⟨by rfl,rfl⟩) (by assumption) ?_)
    try simp only [Act.put,List.getElem_toArray,List.getElem_cons_succ,List.getElem_cons_zero,List.setIfInBounds_toArray,List.set_cons_zero,List.set_cons_succ]
    first
     | (refine tkv 28 (.bool false) rfl (by kernel_rfl) (fun _ _ _ h=>h) (Or.inl ⟨by rfl,?_⟩) (by assumption) ?_;focus (intro w hSw;(try dsimp only at hSw);go_simp;done))
     | (refine tkv 28 (.bool true) rfl (by kernel_rfl) (fun _ _ _ h=>h) (Or.inl ⟨by rfl,?_⟩) (by assumption) ?_;focus (intro w hSw;(try dsimp only at hSw);go_simp;done))
    try simp only [Act.put,List.getElem_toArray,List.getElem_cons_succ,List.getElem_cons_zero,List.setIfInBounds_toArray,List.set_cons_zero,List.set_cons_succ]
    first
     | (refine tkv 29 (.bool false) rfl (by kernel_rfl) (fun _ _ _ h=>h) (Or.inl ⟨by rfl,?_⟩) (by assumption) ?_;focus (intro w hSw;(try dsimp only at hSw);go_simp;done))
     | (refine tkv 29 (.bool true) rfl (by kernel_rfl) (fun _ _ _ h=>h) (Or.inl ⟨by rfl,?_⟩) (by assumption) ?_;focus (intro w hSw;(try dsimp only at hSw);go_simp;done))
    try simp only [Act.put,List.getElem_toArray,List.getElem_cons_succ,List.getElem_cons_zero,List.setIfInBounds_toArray,List.set_cons_zero,List.set_cons_succ]
    first
     | (refine tkv 30 (.int .i64 (k : Int)) rfl (by kernel_rfl) (fun _ _ _ h=>h) (Or.inl ⟨by rfl,?_⟩) (by assumption) ?_;focus (intro w hSw;(try dsimp only at hSw);go_simp;done))
     | (refine tkv 30 undef rfl (by kernel_rfl) (fun _ _ _ h=>h) (Or.inr ⟨by rfl,rfl⟩) (by assumption) ?_)
    try simp only [Act.put,List.getElem_toArray,List.getElem_cons_succ,List.getElem_cons_zero,List.setIfInBounds_toArray,List.set_cons_zero,List.set_cons_succ]
    first
     | (refine tkv 31 (.bool false) rfl (by kernel_rfl) (fun _ _ _ h=>h) (Or.inl ⟨by rfl,?_⟩) (by assumption) ?_;focus (intro w hSw;(try dsimp only at hSw);go_simp;done))
     | (refine tkv 31 (.bool true) rfl (by kernel_rfl) (fun _ _ _ h=>h) (Or.inl ⟨by rfl,?_⟩) (by assumption) ?_;focus (intro w hSw;(try dsimp only at hSw);go_simp;done))
     | (refine tkv 31 undef rfl (by kernel_rfl) (fun _ _ _ h=>h) (Or.inr ⟨by rfl,rfl⟩) (by assumption) ?_)
    try simp only [Act.put,List.getElem_toArray,List.getElem_cons_succ,List.getElem_cons_zero,List.setIfInBounds_toArray,List.set_cons_zero,List.set_cons_succ]
    first
     | (refine tkv 32 (.bool false) rfl (by kernel_rfl) (fun _ _ _ h=>h) (Or.inl ⟨by rfl,?_⟩) (by assumption) ?_;focus (intro w hSw;(try dsimp only at hSw);go_simp;done))
     | (refine tkv 32 (.bool true) rfl (by kernel_rfl) (fun _ _ _ h=>h) (Or.inl ⟨by rfl,?_⟩) (by assumption) ?_;focus (intro w hSw;(try dsimp only at hSw);go_simp;done))
     | (refine tkv 32 undef rfl (by kernel_rfl) (fun _ _ _ h=>h) (Or.inr ⟨by rfl,rfl⟩) (by assumption) ?_)
    try simp only [Act.put,List.getElem_toArray,List.getElem_cons_succ,List.getElem_cons_zero,List.setIfInBounds_toArray,List.set_cons_zero,List.set_cons_succ]
    first
     | (refine tkv 33 (.slice (some ⟨b,0,none⟩) cs.length cap) rfl (by kernel_rfl) (fun _ _ _ h=>h) (Or.inl ⟨by rfl,?_⟩) (by assumption) ?_;focus (intro w hSw;(try dsimp only at hSw);go_simp;done))
     | (refine tkv 33 undef rfl (by kernel_rfl) (fun _ _ _ h=>h) (Or.inr ⟨by rfl,rfl⟩) (by assumption) ?_)
    try simp only [Act.put,List.getElem_toArray,List.getElem_cons_succ,List.getElem_cons_zero,List.setIfInBounds_toArray,List.set_cons_zero,List.set_cons_succ]
    first
     | (refine tkv 34 (.int .i64 (k : Int)) rfl (by kernel_rfl) (fun _ _ _ h=>h) (Or.inl ⟨by rfl,?_⟩) (by assumption) ?_;focus (intro w hSw;(try dsimp only at hSw);go_simp;done))
     | (refine tkv 34 undef rfl (by kernel_rfl) (fun _ _ _ h=>h) (Or.inr ⟨by rfl,rfl⟩) (by assumption) ?_)
    try simp only [Act.put,List.getElem_toArray,List.getElem_cons_succ,List.getElem_cons_zero,List.setIfInBounds_toArray,List.set_cons_zero,List.set_cons_succ]
    first
     | (refine tkv 35 (.int .i64 ((k : Int) - 1)) rfl (by kernel_rfl) (fun _ _ _ h=>h) (Or.inl ⟨by rfl,?_⟩) (by assumption) ?_;focus (intro w hSw;(try dsimp only at hSw);go_simp;done))
     | (refine tkv 35 undef rfl (by kernel_rfl) (fun _ _ _ h=>h) (Or.inr ⟨by rfl,rfl⟩) (by assumption) ?_)
    try simp only [Act.put,List.getElem_toArray,List.getElem_cons_succ,List.getElem_cons_zero,List.setIfInBounds_toArray,List.set_cons_zero,List.set_cons_succ]
    first
     | (refine tkv 36 (.pointer (some ⟨b,(k - 1) * 2,none⟩)) rfl (by kernel_rfl) (fun _ _ _ h=>h) (Or.inl ⟨by rfl,?_⟩) (by assumption) ?_;focus (intro w hSw;(try dsimp only at hSw);go_simp;done))
     | (refine tkv 36 undef rfl (by kernel_rfl) (fun _ _ _ h=>h) (Or.inr ⟨by rfl,rfl⟩) (by assumption) ?_)
    try simp only [Act.put,List.getElem_toArray,List.getElem_cons_succ,List.getElem_cons_zero,List.setIfInBounds_toArray,List.set_cons_zero,List.set_cons_succ]
    first
     | (refine tkv 37 (.pointer (some ⟨b,(k - 1) * 2,none⟩)) rfl (by kernel_rfl) (fun _ _ _ h=>h) (Or.inl ⟨by rfl,?_⟩) (by assumption) ?_;focus (intro w hSw;(try dsimp only at hSw);go_simp;done))
     | (refine tkv 37 undef rfl (by kernel_rfl) (fun _ _ _ h=>h) (Or.inr ⟨by rfl,rfl⟩) (by assumption) ?_)
    try simp only [Act.put,List.getElem_toArray,List.getElem_cons_succ,List.getElem_cons_zero,List.setIfInBounds_toArray,List.set_cons_zero,List.set_cons_succ]
    first
     | (refine tkv 38 (.slice p0 L0 k0) rfl (by kernel_rfl) (fun _ _ _ h=>h) (Or.inl ⟨by rfl,?_⟩) (by assumption) ?_;focus (intro w hSw;(try dsimp only at hSw);go_simp;done))
     | (refine tkv 38 undef rfl (by kernel_rfl) (fun _ _ _ h=>h) (Or.inr ⟨by rfl,rfl⟩) (by assumption) ?_)
    try simp only [Act.put,List.getElem_toArray,List.getElem_cons_succ,List.getElem_cons_zero,List.setIfInBounds_toArray,List.set_cons_zero,List.set_cons_succ]
    first
     | (refine tkv 39 (.pointer (some ⟨wo.heap.size,0,none⟩)) rfl (by kernel_rfl) (fun _ _ _ h=>h) (Or.inl ⟨by rfl,?_⟩) (by assumption) ?_;focus (intro w hSw;(try dsimp only at hSw);go_simp;done))
     | (refine tkv 39 undef rfl (by kernel_rfl) (fun _ _ _ h=>h) (Or.inr ⟨by rfl,rfl⟩) (by assumption) ?_)
    try simp only [Act.put,List.getElem_toArray,List.getElem_cons_succ,List.getElem_cons_zero,List.setIfInBounds_toArray,List.set_cons_zero,List.set_cons_succ]
    first
     | (refine tkv 40 (.slice p1 xs.length k1) rfl (by kernel_rfl) (fun _ _ _ h=>h) (Or.inl ⟨by rfl,?_⟩) (by assumption) ?_;focus (intro w hSw;(try dsimp only at hSw);go_simp;done))
     | (refine tkv 40 undef rfl (by kernel_rfl) (fun _ _ _ h=>h) (Or.inr ⟨by rfl,rfl⟩) (by assumption) ?_)
    try simp only [Act.put,List.getElem_toArray,List.getElem_cons_succ,List.getElem_cons_zero,List.setIfInBounds_toArray,List.set_cons_zero,List.set_cons_succ]
    first
     | (refine wpAnyH_ready (rs:=[41]) (by kernel_rfl) (by simp) ?_
        refine AllReadyH.cons rfl (fun K hK=> ?_) AllReadyH.nil
        go_simp
        refine (HcC.out _ (held_ints HJ1.out (by assumption)) (held_ints HI1.out (by assumption))).mono ?_
        rintro e w' ⟨rfl,rfl⟩
        go_wp2_with fail
        refine hK.out _ _ (by first | assumption | exact keep3w hb1 (by assumption) | exact keep2 hb1 (by assumption)) (fun hHeld=> ?_)
        clear hK K)
     | (refine tkv 41 undef rfl (by kernel_rfl) (fun _ _ _ h=>h) (Or.inr ⟨by rfl,rfl⟩) (by assumption) ?_)
    try simp only [Act.put,List.getElem_toArray,List.getElem_cons_succ,List.getElem_cons_zero,List.setIfInBounds_toArray,List.set_cons_zero,List.set_cons_succ]
    first
     | (refine tkv 42 (.bool false) rfl (by kernel_rfl) (fun _ _ _ h=>h) (Or.inl ⟨by rfl,?_⟩) (by assumption) ?_;focus (intro w hSw;(try dsimp only at hSw);go_simp;done))
     | (refine tkv 42 (.bool true) rfl (by kernel_rfl) (fun _ _ _ h=>h) (Or.inl ⟨by rfl,?_⟩) (by assumption) ?_;focus (intro w hSw;(try dsimp only at hSw);go_simp;done))
     | (refine tkv 42 undef rfl (by kernel_rfl) (fun _ _ _ h=>h) (Or.inr ⟨by rfl,rfl⟩) (by assumption) ?_)
    try simp only [Act.put,List.getElem_toArray,List.getElem_cons_succ,List.getElem_cons_zero,List.setIfInBounds_toArray,List.set_cons_zero,List.set_cons_succ]
    first
     | (refine tkv 43 (.bool false) rfl (by kernel_rfl) (fun _ _ _ h=>h) (Or.inl ⟨by rfl,?_⟩) (by assumption) ?_;focus (intro w hSw;(try dsimp only at hSw);go_simp;done))
     | (refine tkv 43 (.bool true) rfl (by kernel_rfl) (fun _ _ _ h=>h) (Or.inl ⟨by rfl,?_⟩) (by assumption) ?_;focus (intro w hSw;(try dsimp only at hSw);go_simp;done))
     | (refine tkv 43 undef rfl (by kernel_rfl) (fun _ _ _ h=>h) (Or.inr ⟨by rfl,rfl⟩) (by assumption) ?_)
    try simp only [Act.put,List.getElem_toArray,List.getElem_cons_succ,List.getElem_cons_zero,List.setIfInBounds_toArray,List.set_cons_zero,List.set_cons_succ]
    first
     | (refine tkv 44 (.bool false) rfl (by kernel_rfl) (fun _ _ _ h=>h) (Or.inl ⟨by rfl,?_⟩) (by assumption) ?_;focus (intro w hSw;(try dsimp only at hSw);go_simp;done))
     | (refine tkv 44 (.bool true) rfl (by kernel_rfl) (fun _ _ _ h=>h) (Or.inl ⟨by rfl,?_⟩) (by assumption) ?_;focus (intro w hSw;(try dsimp only at hSw);go_simp;done))
    try simp only [Act.put,List.getElem_toArray,List.getElem_cons_succ,List.getElem_cons_zero,List.setIfInBounds_toArray,List.set_cons_zero,List.set_cons_succ]
    refine wpAnyH_done (by kernel_rfl) ?_ _
    have hbw:=held_below (by assumption)
    have Hbw:=Lib.hid (Hbb.out.trans (Below.mono hbw Hbb.out.size))
    go_wp2_with fail
    first
     | (go_ret;exact ⟨ret_bool He.out.symm,Hbw.out⟩)
     | (go_roundg (cs.length - (k+1))
        case measure=>omega
        case rel=>exact ⟨k+1,by omega,rfl,by go_num,Hbw.out,Hnext.out He.out⟩)
def boxOk (xs : List Int) (K N : Int) : Bool:=decide (1≤N∧N≤7∧0≤K∧K≤N) && bxOk xs K.toNat N.toNat
theorem boxOk_no {xs : List Int} {K N : Int} (h : ¬ (1≤N∧N≤7∧0≤K∧K≤N)) : boxOk xs K N=false:=by unfold boxOk;rw [decide_eq_false h];rfl
theorem isSize_b (n : Int) (w : World) : Calls Tryz.prog 80 #[.int .i64 n] w fun e w'=>e=.returned (.bool (decide (1≤n∧n≤7)))∧w=w':=by
 go_enter Tryz.func80,Tryz.ntmps80
 by_cases h1 : 1≤n
 ·by_cases h2 : n≤7
  ·go_wp2
   go_ret
   exact ⟨ret_bool (by simp [h1,h2]),rfl⟩
  ·go_wp2
   go_ret
   exact ⟨ret_bool (by simp [h1,h2]),rfl⟩
 ·go_wp2
  go_ret
  exact ⟨ret_bool (by simp;omega),rfl⟩
theorem isBox_no (K N : Int) (w : World) (h : ¬ (1≤N∧N≤7∧0≤K∧K≤N)) :
 Calls Tryz.prog 43 #[.int .i64 K,.int .i64 N] w fun e w'=>e=.returned (.bool false)∧w=w':=by
 go_enter Tryz.func43,Tryz.ntmps43
 go_wp2_with fail
 refine (isSize_b N w).mono ?_
 rintro e w1 ⟨rfl,rfl⟩
 by_cases h1 : 1≤N∧N≤7
 ·rw [decide_eq_true h1]
  by_cases h2 : 0≤K
  ·have h3 : ¬ K≤N:=by omega
   have H3:=Lib.hid h3
   clear h h1
   go_wp2_with fail
   go_ret
   exact ⟨ret_bool (decide_eq_false (by have:=H3.out;omega)),rfl⟩
  ·clear h h1
   go_wp2_with fail
   go_ret
   exact ⟨rfl,rfl⟩
 ·rw [decide_eq_false h1]
  clear h h1
  go_wp2_with fail
  go_ret
  exact ⟨rfl,rfl⟩
theorem inBox_any (v : Value) (xs : List Int) (K N : Int) (w : World) (h : Ints w v xs) :
 Calls Tryz.prog 23 #[v,.int .i64 K,.int .i64 N] w fun e w'=>e=.returned (.bool (boxOk xs K N))∧Qt w w':=by
 by_cases hb : 1≤N∧N≤7∧0≤K∧K≤N
 ·obtain ⟨h1,h2,h3,h4⟩:=hb
  obtain ⟨k,rfl⟩:=Int.eq_ofNat_of_zero_le h3
  obtain ⟨n,rfl⟩:=Int.eq_ofNat_of_zero_le (show 0≤N by omega)
  unfold boxOk
  rw [decide_eq_true ⟨h1,h2,h3,h4⟩,Bool.true_and,Int.toNat_natCast,Int.toNat_natCast]
  exact IsInBox_any v xs k n w h (by omega) (by omega) (by omega)
 ·rw [boxOk_no hb]
  have Hb:=Lib.hid hb
  clear hb h
  go_enter Tryz.func23,Tryz.ntmps23
  go_wp2_with fail
  refine (isBox_no K N w Hb.out).mono ?_
  rintro e w1 ⟨rfl,rfl⟩
  go_wp2_with fail
  go_ret
  exact ⟨rfl,Qt.refl _⟩
def esOk (aas bs : List Int) (K N : Int) (ys : List Int) : Bool:=boxOk aas K N && boxOk bs K N && apOk N ys
def esR (aas bs : List Int) (K N : Int) (ys : List Int) : List Cls × Bool :=
 if esOk aas bs K N ys then (impP K.toNat N.toNat (eqL (gpW aas K.toNat N.toNat) (gpW bs K.toNat N.toNat) ys).1,true) else ([],false)
theorem esR_no {aas bs ys : List Int} {K N : Int} (h : esOk aas bs K N ys=false) : esR aas bs K N ys=([],false):=by unfold esR;rw [h];rfl
structure EsIs (aas bs : List Int) (k n : Nat) (ys : List Int) (L P : List Cls) : Prop where
 kn : k≤n
 yok : YOk n ys
 ba : bxOk aas k n=true
 bb : bxOk bs k n=true
 eq : eqL (gpW aas k n) (gpW bs k n) ys=(L,true)
 shp : ShpL k n L P
 res : esR aas bs (k : Int) (n : Int) ys=(P,true)
theorem esIs {aas bs ys : List Int} {K N : Int} (h : esOk aas bs K N ys=true) : ∃ (k n : Nat) (L P : List Cls),K=(k : Int)∧N=(n : Int)∧EsIs aas bs k n ys L P:=by
 have h0:=h
 unfold esOk boxOk at h
 simp only [Bool.and_eq_true,decide_eq_true_eq] at h
 obtain ⟨⟨⟨⟨h1,h2,h3,h4⟩,ha⟩,⟨_,hb⟩⟩,hy⟩:=h
 obtain ⟨k,rfl⟩:=Int.eq_ofNat_of_zero_le h3
 obtain ⟨n,rfl⟩:=Int.eq_ofNat_of_zero_le (show 0≤N by omega)
 rw [Int.toNat_natCast,Int.toNat_natCast] at ha hb
 have Y:=yOk hy
 obtain ⟨L,P,hE,hS⟩:=shp_eq Y (show k≤n by omega) ha hb
 refine ⟨k,n,L,P,rfl,rfl,by omega,Y,ha,hb,hE,hS,?_⟩
 unfold esR
 rw [h0,if_pos rfl,Int.toNat_natCast,Int.toNat_natCast,hE]
 show (impP k n L,true)=_
 rw [hS.imp]
theorem OwnPl.nil (w : World) (lo hi : Nat) : OwnPl w lo hi (.slice none 0 0) []:=⟨fun _=>undef,OwnS.nil _ _ _ _ _ _,fun i hi=>absurd hi (Nat.not_lt_zero _)⟩
theorem OwnPl.made0 (w : World) : OwnPl (w.alloc (.cells #[] 39)) w.heap.size (w.heap.size+1) (.slice (some ⟨w.heap.size,0,none⟩) 0 0) [] :=
 ⟨fun _=>undef,OwnS.made0 _ _ _ _,fun i hi=>absurd hi (Nat.not_lt_zero _)⟩
def esG (k n : Nat) (x : Cls) : Cls:=(shapeL k n x.1,x.2)
def esJ (k : Nat) (W : List Int) (j : Nat) : List Int:=(List.range j).map fun (i : Nat)=>W.getD (k - 1 - i) 0 - ((k - 1 - i : Nat) : Int)
theorem ShpL.at_ {k n : Nat} {L P : List Cls} (h : ShpL k n L P) (S : ShpIs n k) {i : Nat} (hi : i < L.length) :
 P5 n (growL (L.getD i clD).1 n)∧(L.getD i clD).1.length≤n∧(L.getD i clD).2 ≠ 0∧shL (esJ k (growL (L.getD i clD).1 n) k)=(esG k n (L.getD i clD)).1∧(∀ x ∈ srtC ((L.take i).map (esG k n)),x.1 ≠ (esG k n (L.getD i clD)).1)∧((esG k n (L.getD i clD)).1).length≤4 ∧
  (∀ t,t < (srtC ((L.take i).map (esG k n))).length→((srtC ((L.take i).map (esG k n))).getD t clD).1.length≤1000):=by
 have hm : L.getD i clD ∈ L:=by rw [List.getD_eq_getElem?_getD,List.getElem?_eq_getElem hi];exact List.getElem_mem _
 obtain ⟨sh,hs,e1,e2⟩:=h.mem _ hm
 have hg:=S.grow sh hs
 have hp:=S.p5 sh hs
 refine ⟨by rw [e1,hg];exact hp,?_,e2,rfl,fun x hx hxe=> ?_,?_,fun t ht=> ?_⟩
 ·rw [e1]
  have:=trimL_length (gpW sh k n)
  have h2:=trimN_le (gpW sh k n) (gpW sh k n).length
  have:=hp.len
  omega
 ·have hx2:=(srtC_perm _).mem_iff.1 hx
  obtain ⟨y,hy,rfl⟩:=List.mem_map.1 hx2
  obtain ⟨j,hj,rfl⟩:=List.getElem_of_mem hy
  have hjl : j < i:=by rw [List.length_take] at hj;omega
  have hn:=List.pairwise_iff_getElem.1 h.nodup j i (by simp;omega) (by simpa using hi) hjl
  refine hn ?_
  rw [List.getElem_map,List.getElem_map]
  have : (L.take i)[j]=L[j]:=by rw [List.getElem_take]
  rw [this] at hxe
  have e3 : L.getD i clD=L[i]:=by rw [List.getD_eq_getElem?_getD,List.getElem?_eq_getElem hi];rfl
  rw [e3] at hxe
  exact hxe
 ·unfold esG
  dsimp only
  rw [e1,shape_back S hs]
  exact S.short sh hs
 ·have hmt : (srtC ((L.take i).map (esG k n))).getD t clD ∈ srtC ((L.take i).map (esG k n)):=by rw [List.getD_eq_getElem?_getD,List.getElem?_eq_getElem ht];exact List.getElem_mem _
  obtain ⟨y,hy,e⟩:=List.mem_map.1 ((srtC_perm _).mem_iff.1 hmt)
  obtain ⟨s,hss,e3,_⟩:=h.mem y (List.mem_of_mem_take hy)
  rw [← e]
  unfold esG
  dsimp only
  rw [e3,shape_back S hss]
  have:=S.short s hss
  omega
def bkL (k : Nat) (w : List Int) : List Int:=shL ((List.range k).map fun (i : Nat)=>w.getD (k - 1 - i) 0 - ((k - 1 - i : Nat) : Int))
def cW (n k : Nat) (ys a b : List Int) (w : List Int) : Int:=if grB k n w=true then wsN n k ys a b (bkL k w) else 0
section
variable {n k : Nat} {ys a b : List Int}
theorem cW_at (S : ShpIs n k) {s : List Int} (hs : s ∈ ishs k (n - k)) : cW n k ys a b (gpW s k n)=wsN n k ys a b s:=by
 have hm : gpW s k n ∈ (permsL n).filter (grB k n):=S.perm.mem_iff.2 (List.mem_map.2 ⟨s,hs,rfl⟩)
 unfold cW bkL
 rw [if_pos (List.mem_filter.1 hm).2,S.back s hs]
theorem sumF_filter (q : List Int→Bool) (F : List Int→Int) : ∀ L : List (List Int),(∀ x ∈ L,q x=false→F x=0)→sumF F L=sumF F (L.filter q)
 | [],_=>rfl
 | x :: L,h=>by
   have ih:=sumF_filter q F L fun y hy=>h y (List.mem_cons_of_mem _ hy)
   rw [sumF_cons,ih]
   cases e : q x with
   | true=>rw [List.filter_cons_of_pos e,sumF_cons]
   | false=>rw [List.filter_cons_of_neg (by rw [e];decide),h x List.mem_cons_self e];omega
theorem cW_ex (hy : YOk n ys) (hk : k≤n) (ha : a ∈ ishs k (n - k)) (hb : b ∈ ishs k (n - k)) : Ex n ys (fun p=>FW n ys (gpW a k n) p * FW n ys (gpW b k n) p) (cW n k ys a b):=fun p hp=>by
 have S:=shpIs hy.one hy.four hk
 show FW n ys (gpW a k n) p * FW n ys (gpW b k n) p=_
 rw [wt_all hy hk ha hb _ p rfl hp,sumF_filter (grB k n) _ (permsL n) fun x _ hx=>by unfold cW;rw [hx];simp,sumF_perm _ S.perm,sumF_map]
 unfold sumF
 congr 1
 refine List.map_congr_left fun s hs=> ?_
 rw [cW_at S hs]
def wtP (n k : Nat) (ys a b : List Int) : List Cls:=((ishs k (n - k)).filter fun s=> !decide (wsN n k ys a b s=0)).map fun s=>(s,wsN n k ys a b s)
theorem shp_P (hy : YOk n ys) (S : ShpIs n k) {c : List Int→Int} (hc : ∀ w,P5 n w→grB k n w=false→c w=0) {P : List Cls} (h : ShpL k n (sumC n c) P) : P=((ishs k (n - k)).filter fun sh=> !decide (c (gpW sh k n)=0)).map fun sh=>(sh,c (gpW sh k n)):=by
 obtain ⟨q,hq⟩ : ∃ q : List Int→Bool,q=fun sh=> !decide (c (gpW sh k n)=0):=⟨_,rfl⟩
 have hp:=sum_shapes hy S hc
 rw [← hq] at hp ⊢
 have hnd : (ishs k (n - k)).Nodup:=S.asc.imp fun {a b} h e=>by rw [e,ltB_irrefl] at h;cases h
 have hkey : (((ishs k (n - k)).filter q).map fun sh=>((trimL (gpW sh k n),c (gpW sh k n)) : Cls)).map (fun x=>((shapeL k n x.1,x.2) : Cls))=((ishs k (n - k)).filter q).map fun sh=>(sh,c (gpW sh k n)):=by
  rw [List.map_map]
  refine List.map_congr_left fun sh hs=> ?_
  have:=(List.mem_filter.1 hs).1
  show (shapeL k n (trimL (gpW sh k n)),c (gpW sh k n))=_
  rw [shape_back S this]
 have hperm2 : ((sumC n c).map fun x=>((shapeL k n x.1,x.2) : Cls)).Perm (((ishs k (n - k)).filter q).map fun sh=>(sh,c (gpW sh k n))):=by
  rw [← hkey]
  exact hp.map _
 have hk1 : (((ishs k (n - k)).filter q).map fun sh=>((sh,c (gpW sh k n)) : Cls)).map (·.1)=(ishs k (n - k)).filter q:=by
  rw [List.map_map]
  exact List.map_id _
 have hnq : ((ishs k (n - k)).filter q).Nodup:=hnd.sublist List.filter_sublist
 rw [← h.spc]
 refine (srtC_eq ?_ hperm2.symm ?_).symm
 ·refine (List.Perm.nodup_iff (hperm2.map (·.1))).2 ?_
  rw [hk1];exact hnq
 ·refine List.Pairwise.map _ (fun {a b} h=> ?_) (S.asc.sublist (List.filter_sublist (p:=q)))
  exact ltB_asym h
theorem es_wt (hy : YOk n ys) (hk : k≤n) (ha : bxOk a k n=true) (hb : bxOk b k n=true) (hok : esOk a b (k : Int) (n : Int) ys=true) : esR a b (k : Int) (n : Int) ys=(wtP n k ys a b,true):=by
 have S:=shpIs hy.one hy.four hk
 have ma:=bx_mem ha hk
 have mb:=bx_mem hb hk
 have pa:=S.p5 a ma
 have pb:=S.p5 b mb
 obtain ⟨k',n',L,P,ek,en,E⟩:=esIs hok
 have ek : k'=k:=by omega
 have en : n'=n:=by omega
 subst ek
 subst en
 obtain ⟨c,hc,_,hE⟩:=expE_prod hy pa pb
 have hL : L=sumC n' c:=by
  have h1:=E.eq
  have hok : eqOk (gpW a k' n') (gpW b k' n') ys=true:=by
   unfold eqOk
   rw [pa.ok,pb.ok,pa.len,pb.len,hy.ap];simp
  rw [eqL_yes hok,pa.len,hE] at h1
  injection h1 with h1 _
  exact h1.symm
 have hS:=E.shp
 rw [hL] at hS
 have hP:=shp_P hy S (fun w hw hg=>c_gr hy S ma mb hc hw hg) hS
 have hcw : ∀ s,s ∈ ishs k' (n' - k')→c (gpW s k' n')=wsN n' k' ys a b s:=fun s hs=>by
  rw [hc.uniq hy.len hy.one hy.four hy.dst (cW_ex hy hk ma mb) (S.p5 s hs),cW_at S hs]
 rw [E.res,hP]
 unfold wtP
 congr 1
 rw [List.filter_congr (q:=fun s=> !decide (wsN n' k' ys a b s=0)) fun s hs=>by rw [hcw s hs]]
 refine List.map_congr_left fun s hs=> ?_
 rw [hcw s (List.mem_filter.1 hs).1]
end
def wC : Int:=3570467226624
def BdP (cs : List Cls) (m : Nat) : Prop:=cs.length≤m ∧ ∀ x ∈ cs,-((m : Int) * wC)≤x.2∧x.2≤(m : Int) * wC
theorem BdP.step {cs : List Cls} {m : Nat} (h : BdP cs m) (s : List Int) {c : Int} (hc : -wC≤c∧c≤wC) : BdP (sumdL s c cs) (m+1):=by
 have hm : ((m+1 : Nat) : Int) * wC=(m : Int) * wC+wC:=by rw [Int.natCast_add,Int.add_mul];simp
 have h0 : 0≤(m : Int) * wC:=Int.mul_nonneg (by omega) (by decide)
 have hw : 0≤wC:=by decide
 have key : ∀ cs : List Cls,(∀ x ∈ cs,-((m : Int) * wC)≤x.2∧x.2≤(m : Int) * wC)→(sumdL s c cs).length≤cs.length+1 ∧ ∀ x ∈ sumdL s c cs,-(((m+1 : Nat) : Int) * wC)≤x.2∧x.2≤((m+1 : Nat) : Int) * wC:=by
  intro cs
  induction cs with
  | nil =>
    intro _
    refine ⟨Nat.le_refl _,fun x hx=> ?_⟩
    unfold sumdL at hx
    rw [List.mem_singleton] at hx
    subst hx
    dsimp only
    omega
  | cons y l ih =>
    intro hl
    obtain ⟨i1,i2⟩:=ih fun x hx=>hl x (List.mem_cons_of_mem _ hx)
    have hy:=hl y List.mem_cons_self
    have hl' : ∀ x ∈ l,-(((m+1 : Nat) : Int) * wC)≤x.2∧x.2≤((m+1 : Nat) : Int) * wC:=fun x hx=>by have:=hl x (List.mem_cons_of_mem _ hx);omega
    unfold sumdL
    split
    ·refine ⟨by simp;omega,fun x hx=> ?_⟩
     rcases List.mem_cons.1 hx with rfl | hx
     ·omega
     ·exact i2 x hx
    ·split
     ·refine ⟨by simp,fun x hx=> ?_⟩
      rcases List.mem_cons.1 hx with rfl | hx
      ·dsimp only;omega
      ·exact hl' x hx
     ·refine ⟨by simp,fun x hx=> ?_⟩
      rcases List.mem_cons.1 hx with rfl | hx
      ·dsimp only;omega
      ·rcases List.mem_cons.1 hx with rfl | hx
       ·omega
       ·exact hl' x hx
 obtain ⟨k1,k2⟩:=key cs h.2
 exact ⟨by have:=h.1;omega,k2⟩
theorem BdP.get {cs : List Cls} {m : Nat} (h : BdP cs m) (hm : m≤1000) : ∀ k,k < cs.length → -100000000000000000≤(cs.getD k clD).2∧(cs.getD k clD).2≤100000000000000000:=fun k hk=>by
 have hx : cs.getD k clD ∈ cs:=by rw [List.getD_eq_getElem?_getD,List.getElem?_eq_getElem hk];exact List.getElem_mem hk
 have:=h.2 _ hx
 have h1 : (m : Int) * wC≤1000 * wC:=Int.mul_le_mul_of_nonneg_right (by omega) (by decide)
 have h2 : 1000 * wC=3570467226624000:=by decide
 omega
theorem sumdL_asc (s : List Int) (c : Int) {cs : List Cls} (h : AscP cs) : AscP (sumdL s c cs):=by
 have key : ∀ cs : List Cls,AscP cs→AscP (sumdL s c cs) ∧ ∀ x ∈ sumdL s c cs,x.1=s ∨ ∃ y ∈ cs,x.1=y.1:=by
  intro cs
  induction cs with
  | nil=>intro _;exact ⟨List.pairwise_singleton _ _,fun x hx=>by unfold sumdL at hx;rw [List.mem_singleton] at hx;exact .inl (by rw [hx])⟩
  | cons y l ih =>
    intro h
    obtain ⟨h1,h2⟩:=List.pairwise_cons.1 h
    obtain ⟨i1,i2⟩:=ih h2
    unfold sumdL
    cases e : ltB y.1 s with
    | true =>
      rw [if_pos rfl]
      refine ⟨List.pairwise_cons.2 ⟨fun x hx=> ?_,i1⟩,fun x hx=> ?_⟩
      ·rcases i2 x hx with h | ⟨z,hz,h⟩
       ·rw [h];exact e
       ·rw [h];exact h1 z hz
      ·rcases List.mem_cons.1 hx with rfl | hx
       ·exact .inr ⟨x,List.mem_cons_self,rfl⟩
       ·exact (i2 x hx).imp id fun ⟨z,hz,h⟩=>⟨z,List.mem_cons_of_mem _ hz,h⟩
    | false =>
      simp only [Bool.false_eq_true,if_false]
      by_cases e2 : y.1=s
      ·rw [if_pos e2]
       refine ⟨List.pairwise_cons.2 ⟨fun x hx=>by rw [← e2];exact h1 x hx,h2⟩,fun x hx=> ?_⟩
       rcases List.mem_cons.1 hx with rfl | hx
       ·exact .inl rfl
       ·exact .inr ⟨x,List.mem_cons_of_mem _ hx,rfl⟩
      ·rw [if_neg e2]
       have e3:=lt_or y.1 s e e2
       refine ⟨List.pairwise_cons.2 ⟨fun x hx=> ?_,h⟩,fun x hx=> ?_⟩
       ·rcases List.mem_cons.1 hx with rfl | hx
        ·exact e3
        ·exact ltB_trans _ _ _ e3 (h1 x hx)
       ·rcases List.mem_cons.1 hx with rfl | hx
        ·exact .inl rfl
        ·exact .inr ⟨x,hx,rfl⟩
 exact (key cs h).1
def pzK (n : Nat) (p : Puz) : List Int:=strSh (thirdL n p)
def rightB (n : Nat) (p : Puz) : Bool :=
 (List.range n).all fun r=>decide (p.L.getD (atN r 0) 0≤1) && decide (p.R.getD (atN r r) 0≤1) && decide (p.B.getD (atN (n - 1) r) 0≤1) &&
   (List.range (r+1)).all fun k=>decide ((p.L.getD (atN r k) 0,p.R.getD (atN r k) 0,p.B.getD (atN r k) 0) ∈ triL) &&
     (!decide (k < r) || decide ((p.L.getD (atN r (k+1)) 0,p.R.getD (atN r k) 0,p.B.getD (atN (r - 1) k) 0) ∈ triL))
def pzB (n : Nat) (p : Puz) : Bool:=decide (p.L.length=n * (n+1) / 2) && decide (p.R.length=n * (n+1) / 2) && decide (p.B.length=n * (n+1) / 2) && rightB n p && strOk (thirdL n p)
section
variable {n k : Nat} {a b : List Int}
end
def triU : List Tr:=[(0,0,0),(1,1,1),(0,1,2),(1,2,0),(2,0,1)]
def fitU (n : Nat) (a b : List Int) (p : Puz) (r k : Nat) (t : Tr) : Bool :=
 !(decide (k=0) && !decide (t.1=a.getD (n - 1 - r) 0)) && !(decide (0 < k) && !decide ((t.1,p.R.getD (atN r k - 1) 0,p.B.getD (atN (r - 1) (k - 1)) 0) ∈ triU)) &&
   !(decide (k=r) && !decide (t.2.1=b.getD r 0)) && !(decide (r+1=n) && decide (1 < t.2.2))
def tileU (n : Nat) (a b : List Int) : Nat→Nat→Nat→Puz→List Puz
 | 0,_,_,p=>[p]
 | f+1,r,k,p=>triU.flatMap fun t=>if fitU n a b p r k t then (if k=r then tileU n a b f (r+1) 0 (p.put t) else tileU n a b f r (k+1) (p.put t)) else []
def puzU (n : Nat) (a b : List Int) : List Puz:=tileU n a b (n * (n+1) / 2) 0 0 ⟨[],[],[]⟩
def finU (n : Nat) (ps : List Puz) (cs : List Cls) : List Cls:=ps.foldl (fun cs p=>sumdL (pzK n p) 1 cs) cs
theorem finU_append (n : Nat) (ps qs : List Puz) (cs : List Cls) : finU n (ps ++ qs) cs=finU n qs (finU n ps cs):=List.foldl_append
def dlL (s : List Int) (k n : Nat) : List Int:=shL (duR s k n)
def noW (n : Nat) (p : Puz) : Bool:=(cellsL n).all fun c=> !decide (p.B.getD (atN c.1 c.2) 0=3)
def cntW (n : Nat) (s : List Int) : List Puz→Int
 | []=>0
 | p :: ps=>if pzK n p=s then cntW n s ps+1 else cntW n s ps
def tpA (n k : Nat) (a b : List Int) : Bool :=
 decide (finU n (puzU n (gsL a k n) (gsL b k n)) []=filL a b k ((n - k : Nat) : Int))
def tpB (n k : Nat) (a b : List Int) : Bool :=
 let ps:=puzL n (gsL a k n) (gsL b k n)
 let q:=fun s=>decide (sumI s=sumI a+sumI b)
 ((ishs k (n - k)).all fun s=> !q s || ps.all fun p=> !decide (pzK n p=s) || noW n p) &&
   decide (((ishs k (n - k)).filter fun s=>q s && !decide (cntW n s ps=0)).map (fun s=>(s,cntW n s ps))=filL a b k ((n - k : Nat) : Int))
def tpC (n k : Nat) (a b : List Int) : Bool :=
 (filL a b k ((n - k : Nat) : Int)).all fun x=>decide (inC (isnL k n [a,b,dlL x.1 k n]) (blkL k n)=x.2)
def tpD (n k : Nat) (a b : List Int) : Bool :=
 decide (k=0) || (filL a b k ((n - k : Nat) : Int)).all fun x=>decide (gwL a b (dlL (dlL x.1 k n) k n) k n 0=x.2)
def tpAll (f : Nat→Nat→List Int→List Int→Bool) (n : Nat) : Bool:=(List.range (n+1)).all fun k=>(ishs k (n - k)).all fun a=>(ishs k (n - k)).all fun b=>f n k a b
theorem tpA_dec : ∀ n : Fin 4,tpAll tpA (n.val+1)=true:=by decide +kernel
theorem tpB_dec : ∀ n : Fin 4,tpAll tpB (n.val+1)=true:=by decide +kernel
theorem tpC_dec : ∀ n : Fin 4,tpAll tpC (n.val+1)=true:=by decide +kernel
theorem tpD_dec : ∀ n : Fin 4,tpAll tpD (n.val+1)=true:=by decide +kernel
end
section
open Go.RowKit Go.Sort Go.Shelf
theorem OwnI.holds {w : World} {lo hi g n cap : Nat} {xs : List Int} (h : OwnI 3 w lo hi (.slice (some ⟨g,0,none⟩) n cap) xs) : Holds encI w g 0 xs.toArray:=fun j hj=>by
 have hj' : j < xs.length:=by simpa using hj
 have hf:=h.fn
 refine ⟨?_,?_⟩
 ·rw [Nat.zero_add,hf.cell hj']
  show some (Value.int .i64 (xs.getD j 0))=some (Value.int .i64 (xs.toArray[j]!))
  rw [getElem!_pos xs.toArray j hj,getD_lt hj']
  simp
 ·rw [Nat.zero_add];exact hf.frozen j
theorem OwnI.putRow {w : World} {lo hi g cap q : Nat} {xs D : List Int} {os : Array Obj} (h : OwnI 3 w lo hi (.slice (some ⟨g,0,none⟩) xs.length cap) xs) (hD : D.length=xs.length) :
 OwnI 3 (grow (Go.Sort.putRow encI (Sort.ahead w q) g 0 D.toArray) os) lo hi (.slice (some ⟨g,0,none⟩) xs.length cap) D∧Frm lo hi w (grow (Go.Sort.putRow encI (Sort.ahead w q) g 0 D.toArray) os):=by
 have hf:=h.fn
 obtain ⟨F,⟨c,hc1,hc2,hc3⟩,hF,hl,hh,hnc,hcm,_⟩:=hf.opened
 have hlt : g < w.heap.size:=blk_lt hc1
 have hblk : (grow (Go.Sort.putRow encI (Sort.ahead w q) g 0 D.toArray) os).heap[g]?=some (.cells (putCells encI 0 D.toArray c) 3 (0,0)):=by
  rw [heap_grow_old _ _ (by rw [size_putRow];exact hlt)]
  unfold Go.Sort.putRow mapBlock
  simp only [Array.getElem?_modify]
  have : (Sort.ahead w q).heap=w.heap:=rfl
  rw [this,hc1]
  simp [onCells]
 have hoth : ∀ k,k < w.heap.size→k ≠ g→(grow (Go.Sort.putRow encI (Sort.ahead w q) g 0 D.toArray) os).heap[k]?=w.heap[k]?:=fun k hk hne=>by
  rw [heap_grow_old _ _ (by rw [size_putRow];exact hk)]
  unfold Go.Sort.putRow mapBlock
  simp only [Array.getElem?_modify]
  have : (Sort.ahead w q).heap=w.heap:=rfl
  rw [this,if_neg (fun e=>hne e.symm)]
 refine ⟨?_,⟨rfl,rfl,rfl,by rw [size_grow,size_putRow];exact Nat.le_add_right _ _,fun k hk ho=>hoth k hk (fun e=>by omega)⟩⟩
 have hown : OwnF (grow (Go.Sort.putRow encI (Sort.ahead w q) g 0 D.toArray) os) lo hi 3 (.slice (some ⟨g,0,none⟩) xs.length cap) D.length (iv D):=by
  rw [hD]
  refine OwnF.mk' (F:=fun j=>if j < xs.length then .int .i64 (D.toArray[j]!) else F j) ⟨_,hblk,by simp [putCells,hc2],fun j hj=> ?_⟩ hl hh hnc hcm (fun j hj=> ?_)
  ·simp only [putCells,Array.getElem?_mapIdx,hc3 j hj,Option.map_some,Nat.zero_le,true_and,Nat.zero_add,Nat.sub_zero,List.size_toArray,hD]
  ·rw [if_pos hj]
   show Value.int .i64 (D.toArray[j]!)=.int .i64 (D.getD j 0)
   rw [getElem!_pos D.toArray j (by simpa [hD] using hj),getD_lt (by rw [hD];exact hj)]
   simp
 exact OwnF.ints hown
theorem Sort_any (g cap : Nat) (lo hi : Nat) (xs : List Int) (w : World) (h : OwnI 3 w lo hi (.slice (some ⟨g,0,none⟩) xs.length cap) xs) (hn : xs.length≤1000) :
 Calls Tryz.prog 115 #[.slice (some ⟨g,0,none⟩) xs.length cap] w fun e w'=>e=.returned (.tuple #[])∧OwnI 3 w' lo hi (.slice (some ⟨g,0,none⟩) xs.length cap) (srtZ xs)∧Frm lo hi w w':=by
 have hlt : g < w.heap.size:=(Own.block h (k:=g) rfl).2.2
 have hcon:=Any.slices_Sort_int (P:=Tryz.prog) (ρ:=Tryz.sortI_ren) Tryz.sortI g 0 cap xs w h.holds hlt (by omega)
 change Calls Tryz.prog 115 _ _ _ at hcon
 refine hcon.mono ?_
 rintro e w' ⟨rfl,q,os,rfl⟩
 rw [merge_srtZ]
 exact ⟨rfl,OwnI.putRow h (srtZ_len xs)⟩
theorem Reverse_any (g cap : Nat) (lo hi : Nat) (xs : List Int) (w : World) (h : OwnI 3 w lo hi (.slice (some ⟨g,0,none⟩) xs.length cap) xs) (hn : xs.length≤1000) :
 Calls Tryz.prog 116 #[.slice (some ⟨g,0,none⟩) xs.length cap] w fun e w'=>e=.returned (.tuple #[])∧OwnI 3 w' lo hi (.slice (some ⟨g,0,none⟩) xs.length cap) xs.reverse∧Frm lo hi w w':=by
 have hcon:=AnyG.slices_Reverse_int_arr (P:=Tryz.prog) (ρ:=Tryz.revI_ren) { Tryz.revI with } g 0 cap xs.toArray w h.holds (by simp;omega)
 change Calls Tryz.prog 116 _ _ _ at hcon
 rw [show xs.toArray.size=xs.length by simp] at hcon
 refine hcon.mono ?_
 rintro e w' ⟨rfl,q,rfl⟩
 have:=OwnI.putRow (q:=q) (os:=#[]) (D:=xs.reverse) h (by simp)
 rw [show (xs.reverse).toArray=xs.toArray.reverse by simp] at this
 have hg : grow (Go.Sort.putRow encI (Sort.ahead w q) g 0 xs.toArray.reverse) #[]=Go.Sort.putRow encI (Sort.ahead w q) g 0 xs.toArray.reverse:=by simp [grow];rfl
 rw [hg] at this
 exact ⟨rfl,this⟩
end
end Go.Proofs.YtijadclebjcckaaGreat
