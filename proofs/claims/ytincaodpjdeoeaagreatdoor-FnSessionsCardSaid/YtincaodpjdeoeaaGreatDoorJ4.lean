/-
  A part of the proof of FnSessions (texts of one proof, joined).
-/
import Derived.Test.YtincaodpjdeoeaaGreatDoorJ3
namespace Go.Proofs.YtincaodpjdeoeaaGreatDoor
set_option linter.all false
set_option maxRecDepth 100000
set_option maxHeartbeats 16000000
section
open Go.RowKit
theorem tkv {P : Program} {md : Region.Mode} {ops : Array Oper} {Q : Exit→Act→World→Prop} {S : World→Prop} (i : Nat) (v : Value) {oi : Oper} {fuel : Nat} {listed : Array Bool} {a : Act} {w : World} (hi : ops[i]?=some oi)
 (hc : (Region.noSelect ops && Region.free md ops listed i && (Region.ready md ops listed).contains i)=true)
 (hQ : ∀ c a w,Q (.panic c) (a.put oi.dst v) w→Q (.panic c) a w) (hy : YieldsIf P ops S oi v a) (hS : S w)
 (h : wpAnyH P md ops Q S fuel (listed.setIfInBounds i true) (a.put oi.dst v) w) : wpAnyH P md ops Q S (fuel+1) listed a w :=
 wpAnyH_take hi (Bool.and_eq_true_iff.1 (Bool.and_eq_true_iff.1 hc).1).1 (Bool.and_eq_true_iff.1 (Bool.and_eq_true_iff.1 hc).1).2 (Bool.and_eq_true_iff.1 hc).2 hQ hy hS h
theorem implClassesOk_any (v : Value) (cs : List Cls) (w : World) (h : RdCl w v cs) :
 Calls Tryz.prog 39 #[v] w fun e w'=>e=.returned (.bool (clsOk cs))∧Below w.heap.size w w':=by
 obtain ⟨f,hs1,hf⟩:=h
 obtain ⟨p,cap,rfl,⟨hx1,hx⟩,hxc⟩:=hs1.two
 unfold maxLen at hx
 have Hf:=Lib.hid hf
 have Hxc:=Lib.hid hxc
 clear hf hs1 hxc
 go_enter Tryz.func39,Tryz.ntmps39
 by_cases hbig : 100 < cs.length
 ·have hbig2 : (100 : Int) < (cs.length : Int):=by omega
  have He:=Lib.hid (clsOk_big hbig)
  go_wp2_with fail
  go_ret
  exact ⟨ret_bool He.out.symm,Below.refl _ _⟩
 ·have hbig2 : ¬ (100 : Int) < (cs.length : Int):=by omega
  go_wp2_with fail
  go_loopg [10] cs.length (fun gg sl wr=> ∃ k : Nat,k≤cs.length∧gg=cs.length - k∧sl=.int .i64 k∧Below w.heap.size w wr∧Hid (∀ i,i < k→clAt cs i=true))
  case atStart=>exact ⟨0,Nat.zero_le _,rfl,rfl,Below.refl _ _,fun i hi=>absurd hi (Nat.not_lt_zero _)⟩
  case round =>
   obtain ⟨k,hk,rfl,rfl,hb,hok⟩:=hrel
   obtain ⟨wo,rfl⟩ : ∃ x : World,x=wr:=⟨_,rfl⟩
   have Hok:=Lib.hid hok.out
   clear hok
   by_cases hlt : k < cs.length
   case neg =>
    obtain rfl : k=cs.length:=by omega
    have hl2 : ¬ (cs.length : Int) < (cs.length : Int):=by omega
    have He:=Lib.hid (clsOk_yes (by omega) Hok.out)
    go_wp2_with fail
    go_ret
    exact ⟨ret_bool He.out.symm,hb⟩
   have hlt2 : (k : Int) < (cs.length : Int):=by omega
   have hlt3 : (0 : Int)≤(k : Int):=by omega
   obtain ⟨b,rfl,hc⟩:=Hxc.out (by omega)
   obtain ⟨a0,a1⟩:=hc k hlt
   have c0:=cell_below hb a0
   have c1:=cell_below hb a1
   have hI:=(Hf.out k hlt).below hb
   have Hkeep:=Lib.hid hc
   obtain ⟨X,hX⟩ : ∃ X,X=cs.getD k clD:=⟨_,rfl⟩
   rw [← hX] at c1 hI
   have HAt:=Lib.hid (show clAt cs k=(permOk X.1 && decide (trimN X.1 X.1.length=X.1.length) && !decide (X.2=0) && !decide (X.2 < -1000000) && !decide (1000000 < X.2) && (!decide (0 < k) || ltB (cs.getD (k - 1) clD).1 X.1)) by rw [hX];rfl)
   have Hnext:=Lib.hid (fun h : clAt cs k=true=>show ∀ i,i < k+1→clAt cs i=true from fun i hi=>by
    by_cases e : i=k
    ·rw [e];exact h
    ·exact Hok.out i (by omega))
   obtain ⟨xs,c⟩:=X
   dsimp only at c1 hI HAt
   obtain ⟨p1,k1,e1,_,_⟩:=id hI
   rw [e1] at c0 hI
   clear hc a0 a1 hX e1
   obtain ⟨tn,htn⟩ : ∃ tn,tn=trimN xs xs.length:=⟨_,rfl⟩
   rw [← htn] at HAt
   have Htn:=Lib.hid htn
   have HI:=Lib.hid hI
   clear hI htn
   go_wp2_with fail
   have Hba:=Lib.hid (below_alloc wo (.cells #[.slice p1 xs.length k1,.int .i64 c] 42))
   have Zb:=Lib.hid (heap_alloc_top wo (.cells #[.slice p1 xs.length k1,.int .i64 c] 42))
   have HI1:=Lib.hid (HI.out.below Hba.out)
   have c0:=cell_below Hba.out c0
   generalize hwb : wo.alloc (.cells #[.slice p1 xs.length k1,.int .i64 c] 42)=wb at *
   obtain ⟨d0,d1,df,dz⟩:=blk2 Zb.out
   have Hbb:=Lib.hid (hb.trans (Hba.out.mono hb.size))
   clear hwb
   cases hp : permOk xs
   case' false =>
    have Hp:=Lib.hid hp
    have He:=Lib.hid (clsOk_bad hlt (by rw [HAt.out,hp];simp))
    clear hp
   case' true =>
    have Hp:=Lib.hid hp
    have hl7 : xs.length≤7:=(of_decide_eq_true hp).2.1
    have HcT:=Lib.hid (fun w h=>implTrim_sh (.slice p1 xs.length k1) xs w h Hp.out)
    rw [← Htn.out] at HcT
    rw [hp,Bool.true_and] at HAt
    clear hp
    by_cases ht : tn=xs.length
    case' neg =>
     have ht2 : ((tn : Int) != (xs.length : Int))=true:=by simp;omega
     have He:=Lib.hid (clsOk_bad hlt (by rw [HAt.out,decide_eq_false ht];simp))
    case' pos =>
     rw [decide_eq_true ht,Bool.true_and] at HAt
     clear Htn
     subst ht
     by_cases hc0 : c=0
     case' pos =>
      have hc1 : (c == 0)=true:=by simp [hc0]
      have He:=Lib.hid (clsOk_bad hlt (by rw [HAt.out,hc0];simp))
      clear hc0
     case' neg =>
      have hc1 : (c == 0)=false:=by simp [hc0]
      rw [decide_eq_false hc0,Bool.not_false,Bool.true_and] at HAt
      by_cases hc2 : c < -1000000
      case' pos=>have He:=Lib.hid (clsOk_bad hlt (by rw [HAt.out,decide_eq_true hc2];simp))
      case' neg =>
       rw [decide_eq_false hc2,Bool.not_false,Bool.true_and] at HAt
       by_cases hc3 : 1000000 < c
       case' pos=>have He:=Lib.hid (clsOk_bad hlt (by rw [HAt.out,decide_eq_true hc3];simp))
       case' neg =>
        rw [decide_eq_false hc3,Bool.not_false,Bool.true_and] at HAt
        by_cases hk0 : 0 < k
        case' neg =>
         have hk1 : ¬ (0 : Int) < (k : Int):=by omega
         have He:=Lib.hid (show clAt cs k=true by rw [HAt.out,decide_eq_false hk0];rfl)
        case' pos =>
         have hk1 : (0 : Int) < (k : Int):=by omega
         obtain ⟨j0,j1⟩:=Hkeep.out (k - 1) (by omega)
         have e0:=cell_below Hbb.out j0
         have hJ:=(Hf.out (k - 1) (by omega)).below Hbb.out
         obtain ⟨ys,hys⟩ : ∃ ys,ys=(cs.getD (k - 1) clD).1:=⟨_,rfl⟩
         rw [← hys] at hJ HAt
         obtain ⟨p0,k0,ee,_,_⟩:=id hJ
         rw [ee] at e0 hJ
         obtain ⟨L0,hL0⟩ : ∃ L0,L0=ys.length:=⟨_,rfl⟩
         rw [← hL0] at e0 hJ
         have HJ1:=Lib.hid hJ
         clear j0 j1 hys ee hJ hL0
         have q1 : IntKind.i64.wrap ((k : Int) - 1)=(k : Int) - 1:=k64 (by omega) (by omega)
         have q2 : (0 : Int)≤(k : Int) - 1:=by omega
         have q3 : (k : Int) - 1 < (cs.length : Int):=by omega
         have q4 : ((k : Int) - 1).toNat=k - 1:=by omega
         have q5 : (1 : Int)≤(k : Int):=by omega
         have HcC:=Lib.hid (fun w h1 h2=>compare_any (.slice p0 L0 k0) (.slice p1 xs.length k1) ys xs w h1 h2)
         have hcl:=cmpB_lt ys xs
         obtain ⟨r,hr⟩ : ∃ r,r=cmpB ys xs:=⟨_,rfl⟩
         rw [← hr] at HcC hcl
         clear hr
         cases hlt4 : ltB ys xs
         case' false =>
          have hr0 : 0≤r:=by rw [hlt4] at hcl;simpa using hcl
          have He:=Lib.hid (clsOk_bad hlt (by rw [HAt.out,decide_eq_true hk0,hlt4];rfl))
         case' true =>
          have hr0 : ¬ 0≤r:=by rw [hlt4] at hcl;simpa using hcl
          have He:=Lib.hid (show clAt cs k=true by rw [HAt.out,decide_eq_true hk0,hlt4];rfl)
         all_goals clear hlt4 hcl
   all_goals
    first
     | refine wp_region_held_drew (S:=(fun w'=>(w'.cell? ⟨wo.heap.size,0,none⟩=some (.slice p1 xs.length k1)∧w'.cell? ⟨wo.heap.size,1,none⟩=some (.int .i64 c)∧w'.cell? ⟨b,(k - 1) * 2,none⟩=some (.slice p0 L0 k0))∧Below wb.heap.size wb w')) (by kernel_rfl) ⟨⟨d0,d1,e0⟩,(Below.refl _ _).drew⟩ (fun hHeld=> ?_)
     | refine wp_region_held_drew (S:=(fun w'=>(w'.cell? ⟨wo.heap.size,0,none⟩=some (.slice p1 xs.length k1)∧w'.cell? ⟨wo.heap.size,1,none⟩=some (.int .i64 c))∧Below wb.heap.size wb w')) (by kernel_rfl) ⟨⟨d0,d1⟩,(Below.refl _ _).drew⟩ (fun hHeld=> ?_)
    (refine tkv 0 (.pointer (some ⟨wo.heap.size,0,none⟩)) rfl (by kernel_rfl) (fun _ _ _ h=>h) (Or.inl ⟨by rfl,?_⟩) (by assumption) ?_;focus (intro w hSw;(try dsimp only at hSw);go_simp;done))
    try simp only [Act.put,List.getElem_toArray,List.getElem_cons_succ,List.getElem_cons_zero,List.setIfInBounds_toArray,List.set_cons_zero,List.set_cons_succ]
    (refine tkv 1 (.slice p1 xs.length k1) rfl (by kernel_rfl) (fun _ _ _ h=>h) (Or.inl ⟨by rfl,?_⟩) (by assumption) ?_;focus (intro w hSw;(try dsimp only at hSw);go_simp;done))
    try simp only [Act.put,List.getElem_toArray,List.getElem_cons_succ,List.getElem_cons_zero,List.setIfInBounds_toArray,List.set_cons_zero,List.set_cons_succ]
    refine wpAnyH_ready (rs:=[2]) (by kernel_rfl) (by simp) ?_
    refine AllReadyH.cons rfl (fun K hK=> ?_) AllReadyH.nil
    go_simp
    first | refine (implIsPerm_b _ xs true Hp.out _ (held_ints HI1.out (by assumption))).mono ?_ | refine (implIsPerm_b _ xs false Hp.out _ (held_ints HI1.out (by assumption))).mono ?_
    rintro e w' ⟨rfl,hb1⟩
    go_wp2_with fail
    refine hK.out _ _ (by first | assumption | exact keep3w hb1 (by assumption) | exact keep2 hb1 (by assumption)) (fun hHeld=> ?_)
    clear hK K
    try simp only [Act.put,List.getElem_toArray,List.getElem_cons_succ,List.getElem_cons_zero,List.setIfInBounds_toArray,List.set_cons_zero,List.set_cons_succ]
    first
     | (refine tkv 3 (.bool false) rfl (by kernel_rfl) (fun _ _ _ h=>h) (Or.inl ⟨by rfl,?_⟩) (by assumption) ?_;focus (intro w hSw;(try dsimp only at hSw);go_simp;done))
     | (refine tkv 3 (.bool true) rfl (by kernel_rfl) (fun _ _ _ h=>h) (Or.inl ⟨by rfl,?_⟩) (by assumption) ?_;focus (intro w hSw;(try dsimp only at hSw);go_simp;done))
    try simp only [Act.put,List.getElem_toArray,List.getElem_cons_succ,List.getElem_cons_zero,List.setIfInBounds_toArray,List.set_cons_zero,List.set_cons_succ]
    first
     | (refine tkv 4 (.bool false) rfl (by kernel_rfl) (fun _ _ _ h=>h) (Or.inl ⟨by rfl,?_⟩) (by assumption) ?_;focus (intro w hSw;(try dsimp only at hSw);go_simp;done))
     | (refine tkv 4 (.bool true) rfl (by kernel_rfl) (fun _ _ _ h=>h) (Or.inl ⟨by rfl,?_⟩) (by assumption) ?_;focus (intro w hSw;(try dsimp only at hSw);go_simp;done))
    try simp only [Act.put,List.getElem_toArray,List.getElem_cons_succ,List.getElem_cons_zero,List.setIfInBounds_toArray,List.set_cons_zero,List.set_cons_succ]
    first
     | (refine tkv 5 (.pointer (some ⟨wo.heap.size,0,none⟩)) rfl (by kernel_rfl) (fun _ _ _ h=>h) (Or.inl ⟨by rfl,?_⟩) (by assumption) ?_;focus (intro w hSw;(try dsimp only at hSw);go_simp;done))
     | (refine tkv 5 undef rfl (by kernel_rfl) (fun _ _ _ h=>h) (Or.inr ⟨by rfl,rfl⟩) (by assumption) ?_)
    try simp only [Act.put,List.getElem_toArray,List.getElem_cons_succ,List.getElem_cons_zero,List.setIfInBounds_toArray,List.set_cons_zero,List.set_cons_succ]
    first
     | (refine tkv 6 (.slice p1 xs.length k1) rfl (by kernel_rfl) (fun _ _ _ h=>h) (Or.inl ⟨by rfl,?_⟩) (by assumption) ?_;focus (intro w hSw;(try dsimp only at hSw);go_simp;done))
     | (refine tkv 6 undef rfl (by kernel_rfl) (fun _ _ _ h=>h) (Or.inr ⟨by rfl,rfl⟩) (by assumption) ?_)
    try simp only [Act.put,List.getElem_toArray,List.getElem_cons_succ,List.getElem_cons_zero,List.setIfInBounds_toArray,List.set_cons_zero,List.set_cons_succ]
    first
     | (refine tkv 9 (.pointer (some ⟨wo.heap.size,0,none⟩)) rfl (by kernel_rfl) (fun _ _ _ h=>h) (Or.inl ⟨by rfl,?_⟩) (by assumption) ?_;focus (intro w hSw;(try dsimp only at hSw);go_simp;done))
     | (refine tkv 9 undef rfl (by kernel_rfl) (fun _ _ _ h=>h) (Or.inr ⟨by rfl,rfl⟩) (by assumption) ?_)
    try simp only [Act.put,List.getElem_toArray,List.getElem_cons_succ,List.getElem_cons_zero,List.setIfInBounds_toArray,List.set_cons_zero,List.set_cons_succ]
    first
     | (refine tkv 10 (.slice p1 xs.length k1) rfl (by kernel_rfl) (fun _ _ _ h=>h) (Or.inl ⟨by rfl,?_⟩) (by assumption) ?_;focus (intro w hSw;(try dsimp only at hSw);go_simp;done))
     | (refine tkv 10 undef rfl (by kernel_rfl) (fun _ _ _ h=>h) (Or.inr ⟨by rfl,rfl⟩) (by assumption) ?_)
    try simp only [Act.put,List.getElem_toArray,List.getElem_cons_succ,List.getElem_cons_zero,List.setIfInBounds_toArray,List.set_cons_zero,List.set_cons_succ]
    first
     | (refine tkv 11 (.int .i64 (xs.length : Int)) rfl (by kernel_rfl) (fun _ _ _ h=>h) (Or.inl ⟨by rfl,?_⟩) (by assumption) ?_;focus (intro w hSw;(try dsimp only at hSw);go_simp;done))
     | (refine tkv 11 undef rfl (by kernel_rfl) (fun _ _ _ h=>h) (Or.inr ⟨by rfl,rfl⟩) (by assumption) ?_)
    try simp only [Act.put,List.getElem_toArray,List.getElem_cons_succ,List.getElem_cons_zero,List.setIfInBounds_toArray,List.set_cons_zero,List.set_cons_succ]
    first
     | (refine wpAnyH_ready (rs:=[7]) (by kernel_rfl) (by simp) ?_
        refine AllReadyH.cons rfl (fun K hK=> ?_) AllReadyH.nil
        go_simp
        refine (HcT.out _ (held_ints HI1.out (by assumption))).mono ?_
        rintro e w' ⟨pt,kt,rfl,hb1⟩
        go_wp2_with fail
        refine hK.out _ _ (by first | assumption | exact keep3w hb1 (by assumption) | exact keep2 hb1 (by assumption)) (fun hHeld=> ?_)
        clear hK K)
     | (refine tkv 7 undef rfl (by kernel_rfl) (fun _ _ _ h=>h) (Or.inr ⟨by rfl,rfl⟩) (by assumption) ?_)
    try simp only [Act.put,List.getElem_toArray,List.getElem_cons_succ,List.getElem_cons_zero,List.setIfInBounds_toArray,List.set_cons_zero,List.set_cons_succ]
    first
     | (refine tkv 8 (.int .i64 (xs.length : Int)) rfl (by kernel_rfl) (fun _ _ _ h=>h) (Or.inl ⟨by rfl,?_⟩) (by assumption) ?_;focus (intro w hSw;(try dsimp only at hSw);go_simp;done))
     | (refine tkv 8 (.int .i64 (tn : Int)) rfl (by kernel_rfl) (fun _ _ _ h=>h) (Or.inl ⟨by rfl,?_⟩) (by assumption) ?_;focus (intro w hSw;(try dsimp only at hSw);go_simp;done))
     | (refine tkv 8 undef rfl (by kernel_rfl) (fun _ _ _ h=>h) (Or.inr ⟨by rfl,rfl⟩) (by assumption) ?_)
    try simp only [Act.put,List.getElem_toArray,List.getElem_cons_succ,List.getElem_cons_zero,List.setIfInBounds_toArray,List.set_cons_zero,List.set_cons_succ]
    first
     | (refine tkv 12 (.bool false) rfl (by kernel_rfl) (fun _ _ _ h=>h) (Or.inl ⟨by rfl,?_⟩) (by assumption) ?_;focus (intro w hSw;(try dsimp only at hSw);go_simp;done))
     | (refine tkv 12 (.bool true) rfl (by kernel_rfl) (fun _ _ _ h=>h) (Or.inl ⟨by rfl,?_⟩) (by assumption) ?_;focus (intro w hSw;(try dsimp only at hSw);go_simp;done))
     | (refine tkv 12 undef rfl (by kernel_rfl) (fun _ _ _ h=>h) (Or.inr ⟨by rfl,rfl⟩) (by assumption) ?_)
    try simp only [Act.put,List.getElem_toArray,List.getElem_cons_succ,List.getElem_cons_zero,List.setIfInBounds_toArray,List.set_cons_zero,List.set_cons_succ]
    first
     | (refine tkv 13 (.bool false) rfl (by kernel_rfl) (fun _ _ _ h=>h) (Or.inl ⟨by rfl,?_⟩) (by assumption) ?_;focus (intro w hSw;(try dsimp only at hSw);go_simp;done))
     | (refine tkv 13 (.bool true) rfl (by kernel_rfl) (fun _ _ _ h=>h) (Or.inl ⟨by rfl,?_⟩) (by assumption) ?_;focus (intro w hSw;(try dsimp only at hSw);go_simp;done))
    try simp only [Act.put,List.getElem_toArray,List.getElem_cons_succ,List.getElem_cons_zero,List.setIfInBounds_toArray,List.set_cons_zero,List.set_cons_succ]
    first
     | (refine tkv 14 (.bool false) rfl (by kernel_rfl) (fun _ _ _ h=>h) (Or.inl ⟨by rfl,?_⟩) (by assumption) ?_;focus (intro w hSw;(try dsimp only at hSw);go_simp;done))
     | (refine tkv 14 (.bool true) rfl (by kernel_rfl) (fun _ _ _ h=>h) (Or.inl ⟨by rfl,?_⟩) (by assumption) ?_;focus (intro w hSw;(try dsimp only at hSw);go_simp;done))
    try simp only [Act.put,List.getElem_toArray,List.getElem_cons_succ,List.getElem_cons_zero,List.setIfInBounds_toArray,List.set_cons_zero,List.set_cons_succ]
    first
     | (refine tkv 15 (.pointer (some ⟨wo.heap.size,1,none⟩)) rfl (by kernel_rfl) (fun _ _ _ h=>h) (Or.inl ⟨by rfl,?_⟩) (by assumption) ?_;focus (intro w hSw;(try dsimp only at hSw);go_simp;done))
     | (refine tkv 15 undef rfl (by kernel_rfl) (fun _ _ _ h=>h) (Or.inr ⟨by rfl,rfl⟩) (by assumption) ?_)
    try simp only [Act.put,List.getElem_toArray,List.getElem_cons_succ,List.getElem_cons_zero,List.setIfInBounds_toArray,List.set_cons_zero,List.set_cons_succ]
    first
     | (refine tkv 16 (.int .i64 c) rfl (by kernel_rfl) (fun _ _ _ h=>h) (Or.inl ⟨by rfl,?_⟩) (by assumption) ?_;focus (intro w hSw;(try dsimp only at hSw);go_simp;done))
     | (refine tkv 16 undef rfl (by kernel_rfl) (fun _ _ _ h=>h) (Or.inr ⟨by rfl,rfl⟩) (by assumption) ?_)
    try simp only [Act.put,List.getElem_toArray,List.getElem_cons_succ,List.getElem_cons_zero,List.setIfInBounds_toArray,List.set_cons_zero,List.set_cons_succ]
    first
     | (refine tkv 17 (.bool false) rfl (by kernel_rfl) (fun _ _ _ h=>h) (Or.inl ⟨by rfl,?_⟩) (by assumption) ?_;focus (intro w hSw;(try dsimp only at hSw);go_simp;done))
     | (refine tkv 17 (.bool true) rfl (by kernel_rfl) (fun _ _ _ h=>h) (Or.inl ⟨by rfl,?_⟩) (by assumption) ?_;focus (intro w hSw;(try dsimp only at hSw);go_simp;done))
     | (refine tkv 17 undef rfl (by kernel_rfl) (fun _ _ _ h=>h) (Or.inr ⟨by rfl,rfl⟩) (by assumption) ?_)
    try simp only [Act.put,List.getElem_toArray,List.getElem_cons_succ,List.getElem_cons_zero,List.setIfInBounds_toArray,List.set_cons_zero,List.set_cons_succ]
    first
     | (refine tkv 18 (.bool false) rfl (by kernel_rfl) (fun _ _ _ h=>h) (Or.inl ⟨by rfl,?_⟩) (by assumption) ?_;focus (intro w hSw;(try dsimp only at hSw);go_simp;done))
     | (refine tkv 18 (.bool true) rfl (by kernel_rfl) (fun _ _ _ h=>h) (Or.inl ⟨by rfl,?_⟩) (by assumption) ?_;focus (intro w hSw;(try dsimp only at hSw);go_simp;done))
    try simp only [Act.put,List.getElem_toArray,List.getElem_cons_succ,List.getElem_cons_zero,List.setIfInBounds_toArray,List.set_cons_zero,List.set_cons_succ]
    first
     | (refine tkv 19 (.bool false) rfl (by kernel_rfl) (fun _ _ _ h=>h) (Or.inl ⟨by rfl,?_⟩) (by assumption) ?_;focus (intro w hSw;(try dsimp only at hSw);go_simp;done))
     | (refine tkv 19 (.bool true) rfl (by kernel_rfl) (fun _ _ _ h=>h) (Or.inl ⟨by rfl,?_⟩) (by assumption) ?_;focus (intro w hSw;(try dsimp only at hSw);go_simp;done))
    try simp only [Act.put,List.getElem_toArray,List.getElem_cons_succ,List.getElem_cons_zero,List.setIfInBounds_toArray,List.set_cons_zero,List.set_cons_succ]
    first
     | (refine tkv 20 (.pointer (some ⟨wo.heap.size,1,none⟩)) rfl (by kernel_rfl) (fun _ _ _ h=>h) (Or.inl ⟨by rfl,?_⟩) (by assumption) ?_;focus (intro w hSw;(try dsimp only at hSw);go_simp;done))
     | (refine tkv 20 undef rfl (by kernel_rfl) (fun _ _ _ h=>h) (Or.inr ⟨by rfl,rfl⟩) (by assumption) ?_)
    try simp only [Act.put,List.getElem_toArray,List.getElem_cons_succ,List.getElem_cons_zero,List.setIfInBounds_toArray,List.set_cons_zero,List.set_cons_succ]
    first
     | (refine tkv 21 (.int .i64 c) rfl (by kernel_rfl) (fun _ _ _ h=>h) (Or.inl ⟨by rfl,?_⟩) (by assumption) ?_;focus (intro w hSw;(try dsimp only at hSw);go_simp;done))
     | (refine tkv 21 undef rfl (by kernel_rfl) (fun _ _ _ h=>h) (Or.inr ⟨by rfl,rfl⟩) (by assumption) ?_)
    try simp only [Act.put,List.getElem_toArray,List.getElem_cons_succ,List.getElem_cons_zero,List.setIfInBounds_toArray,List.set_cons_zero,List.set_cons_succ]
    first
     | (refine tkv 22 (.bool false) rfl (by kernel_rfl) (fun _ _ _ h=>h) (Or.inl ⟨by rfl,?_⟩) (by assumption) ?_;focus (intro w hSw;(try dsimp only at hSw);go_simp;done))
     | (refine tkv 22 (.bool true) rfl (by kernel_rfl) (fun _ _ _ h=>h) (Or.inl ⟨by rfl,?_⟩) (by assumption) ?_;focus (intro w hSw;(try dsimp only at hSw);go_simp;done))
     | (refine tkv 22 undef rfl (by kernel_rfl) (fun _ _ _ h=>h) (Or.inr ⟨by rfl,rfl⟩) (by assumption) ?_)
    try simp only [Act.put,List.getElem_toArray,List.getElem_cons_succ,List.getElem_cons_zero,List.setIfInBounds_toArray,List.set_cons_zero,List.set_cons_succ]
    first
     | (refine tkv 23 (.bool false) rfl (by kernel_rfl) (fun _ _ _ h=>h) (Or.inl ⟨by rfl,?_⟩) (by assumption) ?_;focus (intro w hSw;(try dsimp only at hSw);go_simp;done))
     | (refine tkv 23 (.bool true) rfl (by kernel_rfl) (fun _ _ _ h=>h) (Or.inl ⟨by rfl,?_⟩) (by assumption) ?_;focus (intro w hSw;(try dsimp only at hSw);go_simp;done))
    try simp only [Act.put,List.getElem_toArray,List.getElem_cons_succ,List.getElem_cons_zero,List.setIfInBounds_toArray,List.set_cons_zero,List.set_cons_succ]
    first
     | (refine tkv 24 (.bool false) rfl (by kernel_rfl) (fun _ _ _ h=>h) (Or.inl ⟨by rfl,?_⟩) (by assumption) ?_;focus (intro w hSw;(try dsimp only at hSw);go_simp;done))
     | (refine tkv 24 (.bool true) rfl (by kernel_rfl) (fun _ _ _ h=>h) (Or.inl ⟨by rfl,?_⟩) (by assumption) ?_;focus (intro w hSw;(try dsimp only at hSw);go_simp;done))
    try simp only [Act.put,List.getElem_toArray,List.getElem_cons_succ,List.getElem_cons_zero,List.setIfInBounds_toArray,List.set_cons_zero,List.set_cons_succ]
    first
     | (refine tkv 25 (.pointer (some ⟨wo.heap.size,1,none⟩)) rfl (by kernel_rfl) (fun _ _ _ h=>h) (Or.inl ⟨by rfl,?_⟩) (by assumption) ?_;focus (intro w hSw;(try dsimp only at hSw);go_simp;done))
     | (refine tkv 25 undef rfl (by kernel_rfl) (fun _ _ _ h=>h) (Or.inr ⟨by rfl,rfl⟩) (by assumption) ?_)
    try simp only [Act.put,List.getElem_toArray,List.getElem_cons_succ,List.getElem_cons_zero,List.setIfInBounds_toArray,List.set_cons_zero,List.set_cons_succ]
    first
     | (refine tkv 26 (.int .i64 c) rfl (by kernel_rfl) (fun _ _ _ h=>h) (Or.inl ⟨by rfl,?_⟩) (by assumption) ?_;focus (intro w hSw;(try dsimp only at hSw);go_simp;done))
     | (refine tkv 26 undef rfl (by kernel_rfl) (fun _ _ _ h=>h) (Or.inr ⟨by rfl,rfl⟩) (by assumption) ?_)
    try simp only [Act.put,List.getElem_toArray,List.getElem_cons_succ,List.getElem_cons_zero,List.setIfInBounds_toArray,List.set_cons_zero,List.set_cons_succ]
    first
     | (refine tkv 27 (.bool false) rfl (by kernel_rfl) (fun _ _ _ h=>h) (Or.inl ⟨by rfl,?_⟩) (by assumption) ?_;focus (intro w hSw;(try dsimp only at hSw);go_simp;done))
     | (refine tkv 27 (.bool true) rfl (by kernel_rfl) (fun _ _ _ h=>h) (Or.inl ⟨by rfl,?_⟩) (by assumption) ?_;focus (intro w hSw;(try dsimp only at hSw);go_simp;done))
     | (refine tkv 27 undef rfl (by kernel_rfl) (fun _ _ _ h=>h) (Or.inr ⟨by rfl,rfl⟩) (by assumption) ?_)
    try simp only [Act.put,List.getElem_toArray,List.getElem_cons_succ,List.getElem_cons_zero,List.setIfInBounds_toArray,List.set_cons_zero,List.set_cons_succ]
    first
     | (refine tkv 28 (.bool false) rfl (by kernel_rfl) (fun _ _ _ h=>h) (Or.inl ⟨by rfl,?_⟩) (by assumption) ?_;focus (intro w hSw;(try dsimp only at hSw);go_simp;done))
     | (refine tkv 28 (.bool true) rfl (by kernel_rfl) (fun _ _ _ h=>h) (Or.inl ⟨by rfl,?_⟩) (by assumption) ?_;focus (intro w hSw;(try dsimp only at hSw);go_simp;done))
    try simp only [Act.put,List.getElem_toArray,List.getElem_cons_succ,List.getElem_cons_zero,List.setIfInBounds_toArray,List.set_cons_zero,List.set_cons_succ]
    first
     | (refine tkv 29 (.bool false) rfl (by kernel_rfl) (fun _ _ _ h=>h) (Or.inl ⟨by rfl,?_⟩) (by assumption) ?_;focus (intro w hSw;(try dsimp only at hSw);go_simp;done))
     | (refine tkv 29 (.bool true) rfl (by kernel_rfl) (fun _ _ _ h=>h) (Or.inl ⟨by rfl,?_⟩) (by assumption) ?_;focus (intro w hSw;(try dsimp only at hSw);go_simp;done))
    try simp only [Act.put,List.getElem_toArray,List.getElem_cons_succ,List.getElem_cons_zero,List.setIfInBounds_toArray,List.set_cons_zero,List.set_cons_succ]
    first
     | (refine tkv 30 (.int .i64 (k : Int)) rfl (by kernel_rfl) (fun _ _ _ h=>h) (Or.inl ⟨by rfl,?_⟩) (by assumption) ?_;focus (intro w hSw;(try dsimp only at hSw);go_simp;done))
     | (refine tkv 30 undef rfl (by kernel_rfl) (fun _ _ _ h=>h) (Or.inr ⟨by rfl,rfl⟩) (by assumption) ?_)
    try simp only [Act.put,List.getElem_toArray,List.getElem_cons_succ,List.getElem_cons_zero,List.setIfInBounds_toArray,List.set_cons_zero,List.set_cons_succ]
    first
     | (refine tkv 31 (.bool false) rfl (by kernel_rfl) (fun _ _ _ h=>h) (Or.inl ⟨by rfl,?_⟩) (by assumption) ?_;focus (intro w hSw;(try dsimp only at hSw);go_simp;done))
     | (refine tkv 31 (.bool true) rfl (by kernel_rfl) (fun _ _ _ h=>h) (Or.inl ⟨by rfl,?_⟩) (by assumption) ?_;focus (intro w hSw;(try dsimp only at hSw);go_simp;done))
     | (refine tkv 31 undef rfl (by kernel_rfl) (fun _ _ _ h=>h) (Or.inr ⟨by rfl,rfl⟩) (by assumption) ?_)
    try simp only [Act.put,List.getElem_toArray,List.getElem_cons_succ,List.getElem_cons_zero,List.setIfInBounds_toArray,List.set_cons_zero,List.set_cons_succ]
    first
     | (refine tkv 32 (.bool false) rfl (by kernel_rfl) (fun _ _ _ h=>h) (Or.inl ⟨by rfl,?_⟩) (by assumption) ?_;focus (intro w hSw;(try dsimp only at hSw);go_simp;done))
     | (refine tkv 32 (.bool true) rfl (by kernel_rfl) (fun _ _ _ h=>h) (Or.inl ⟨by rfl,?_⟩) (by assumption) ?_;focus (intro w hSw;(try dsimp only at hSw);go_simp;done))
     | (refine tkv 32 undef rfl (by kernel_rfl) (fun _ _ _ h=>h) (Or.inr ⟨by rfl,rfl⟩) (by assumption) ?_)
    try simp only [Act.put,List.getElem_toArray,List.getElem_cons_succ,List.getElem_cons_zero,List.setIfInBounds_toArray,List.set_cons_zero,List.set_cons_succ]
    first
     | (refine tkv 33 (.slice (some ⟨b,0,none⟩) cs.length cap) rfl (by kernel_rfl) (fun _ _ _ h=>h) (Or.inl ⟨by rfl,?_⟩) (by assumption) ?_;focus (intro w hSw;(try dsimp only at hSw);go_simp;done))
     | (refine tkv 33 undef rfl (by kernel_rfl) (fun _ _ _ h=>h) (Or.inr ⟨by rfl,rfl⟩) (by assumption) ?_)
    try simp only [Act.put,List.getElem_toArray,List.getElem_cons_succ,List.getElem_cons_zero,List.setIfInBounds_toArray,List.set_cons_zero,List.set_cons_succ]
    first
     | (refine tkv 34 (.int .i64 (k : Int)) rfl (by kernel_rfl) (fun _ _ _ h=>h) (Or.inl ⟨by rfl,?_⟩) (by assumption) ?_;focus (intro w hSw;(try dsimp only at hSw);go_simp;done))
     | (refine tkv 34 undef rfl (by kernel_rfl) (fun _ _ _ h=>h) (Or.inr ⟨by rfl,rfl⟩) (by assumption) ?_)
    try simp only [Act.put,List.getElem_toArray,List.getElem_cons_succ,List.getElem_cons_zero,List.setIfInBounds_toArray,List.set_cons_zero,List.set_cons_succ]
    first
     | (refine tkv 35 (.int .i64 ((k : Int) - 1)) rfl (by kernel_rfl) (fun _ _ _ h=>h) (Or.inl ⟨by rfl,?_⟩) (by assumption) ?_;focus (intro w hSw;(try dsimp only at hSw);go_simp;done))
     | (refine tkv 35 undef rfl (by kernel_rfl) (fun _ _ _ h=>h) (Or.inr ⟨by rfl,rfl⟩) (by assumption) ?_)
    try simp only [Act.put,List.getElem_toArray,List.getElem_cons_succ,List.getElem_cons_zero,List.setIfInBounds_toArray,List.set_cons_zero,List.set_cons_succ]
    first
     | (refine tkv 36 (.pointer (some ⟨b,(k - 1) * 2,none⟩)) rfl (by kernel_rfl) (fun _ _ _ h=>h) (Or.inl ⟨by rfl,?_⟩) (by assumption) ?_;focus (intro w hSw;(try dsimp only at hSw);go_simp;done))
     | (refine tkv 36 undef rfl (by kernel_rfl) (fun _ _ _ h=>h) (Or.inr ⟨by rfl,rfl⟩) (by assumption) ?_)
    try simp only [Act.put,List.getElem_toArray,List.getElem_cons_succ,List.getElem_cons_zero,List.setIfInBounds_toArray,List.set_cons_zero,List.set_cons_succ]
    first
     | (refine tkv 37 (.pointer (some ⟨b,(k - 1) * 2,none⟩)) rfl (by kernel_rfl) (fun _ _ _ h=>h) (Or.inl ⟨by rfl,?_⟩) (by assumption) ?_;focus (intro w hSw;(try dsimp only at hSw);go_simp;done))
     | (refine tkv 37 undef rfl (by kernel_rfl) (fun _ _ _ h=>h) (Or.inr ⟨by rfl,rfl⟩) (by assumption) ?_)
    try simp only [Act.put,List.getElem_toArray,List.getElem_cons_succ,List.getElem_cons_zero,List.setIfInBounds_toArray,List.set_cons_zero,List.set_cons_succ]
    first
     | (refine tkv 38 (.slice p0 L0 k0) rfl (by kernel_rfl) (fun _ _ _ h=>h) (Or.inl ⟨by rfl,?_⟩) (by assumption) ?_;focus (intro w hSw;(try dsimp only at hSw);go_simp;done))
     | (refine tkv 38 undef rfl (by kernel_rfl) (fun _ _ _ h=>h) (Or.inr ⟨by rfl,rfl⟩) (by assumption) ?_)
    try simp only [Act.put,List.getElem_toArray,List.getElem_cons_succ,List.getElem_cons_zero,List.setIfInBounds_toArray,List.set_cons_zero,List.set_cons_succ]
    first
     | (refine tkv 39 (.pointer (some ⟨wo.heap.size,0,none⟩)) rfl (by kernel_rfl) (fun _ _ _ h=>h) (Or.inl ⟨by rfl,?_⟩) (by assumption) ?_;focus (intro w hSw;(try dsimp only at hSw);go_simp;done))
     | (refine tkv 39 undef rfl (by kernel_rfl) (fun _ _ _ h=>h) (Or.inr ⟨by rfl,rfl⟩) (by assumption) ?_)
    try simp only [Act.put,List.getElem_toArray,List.getElem_cons_succ,List.getElem_cons_zero,List.setIfInBounds_toArray,List.set_cons_zero,List.set_cons_succ]
    first
     | (refine tkv 40 (.slice p1 xs.length k1) rfl (by kernel_rfl) (fun _ _ _ h=>h) (Or.inl ⟨by rfl,?_⟩) (by assumption) ?_;focus (intro w hSw;(try dsimp only at hSw);go_simp;done))
     | (refine tkv 40 undef rfl (by kernel_rfl) (fun _ _ _ h=>h) (Or.inr ⟨by rfl,rfl⟩) (by assumption) ?_)
    try simp only [Act.put,List.getElem_toArray,List.getElem_cons_succ,List.getElem_cons_zero,List.setIfInBounds_toArray,List.set_cons_zero,List.set_cons_succ]
    first
     | (refine wpAnyH_ready (rs:=[41]) (by kernel_rfl) (by simp) ?_
        refine AllReadyH.cons rfl (fun K hK=> ?_) AllReadyH.nil
        go_simp
        refine (HcC.out _ (held_ints HJ1.out (by assumption)) (held_ints HI1.out (by assumption))).mono ?_
        rintro e w' ⟨rfl,rfl⟩
        go_wp2_with fail
        refine hK.out _ _ (by first | assumption | exact keep3w hb1 (by assumption) | exact keep2 hb1 (by assumption)) (fun hHeld=> ?_)
        clear hK K)
     | (refine tkv 41 undef rfl (by kernel_rfl) (fun _ _ _ h=>h) (Or.inr ⟨by rfl,rfl⟩) (by assumption) ?_)
    try simp only [Act.put,List.getElem_toArray,List.getElem_cons_succ,List.getElem_cons_zero,List.setIfInBounds_toArray,List.set_cons_zero,List.set_cons_succ]
    first
     | (refine tkv 42 (.bool false) rfl (by kernel_rfl) (fun _ _ _ h=>h) (Or.inl ⟨by rfl,?_⟩) (by assumption) ?_;focus (intro w hSw;(try dsimp only at hSw);go_simp;done))
     | (refine tkv 42 (.bool true) rfl (by kernel_rfl) (fun _ _ _ h=>h) (Or.inl ⟨by rfl,?_⟩) (by assumption) ?_;focus (intro w hSw;(try dsimp only at hSw);go_simp;done))
     | (refine tkv 42 undef rfl (by kernel_rfl) (fun _ _ _ h=>h) (Or.inr ⟨by rfl,rfl⟩) (by assumption) ?_)
    try simp only [Act.put,List.getElem_toArray,List.getElem_cons_succ,List.getElem_cons_zero,List.setIfInBounds_toArray,List.set_cons_zero,List.set_cons_succ]
    first
     | (refine tkv 43 (.bool false) rfl (by kernel_rfl) (fun _ _ _ h=>h) (Or.inl ⟨by rfl,?_⟩) (by assumption) ?_;focus (intro w hSw;(try dsimp only at hSw);go_simp;done))
     | (refine tkv 43 (.bool true) rfl (by kernel_rfl) (fun _ _ _ h=>h) (Or.inl ⟨by rfl,?_⟩) (by assumption) ?_;focus (intro w hSw;(try dsimp only at hSw);go_simp;done))
     | (refine tkv 43 undef rfl (by kernel_rfl) (fun _ _ _ h=>h) (Or.inr ⟨by rfl,rfl⟩) (by assumption) ?_)
    try simp only [Act.put,List.getElem_toArray,List.getElem_cons_succ,List.getElem_cons_zero,List.setIfInBounds_toArray,List.set_cons_zero,List.set_cons_succ]
    first
     | (refine tkv 44 (.bool false) rfl (by kernel_rfl) (fun _ _ _ h=>h) (Or.inl ⟨by rfl,?_⟩) (by assumption) ?_;focus (intro w hSw;(try dsimp only at hSw);go_simp;done))
     | (refine tkv 44 (.bool true) rfl (by kernel_rfl) (fun _ _ _ h=>h) (Or.inl ⟨by rfl,?_⟩) (by assumption) ?_;focus (intro w hSw;(try dsimp only at hSw);go_simp;done))
    try simp only [Act.put,List.getElem_toArray,List.getElem_cons_succ,List.getElem_cons_zero,List.setIfInBounds_toArray,List.set_cons_zero,List.set_cons_succ]
    refine wpAnyH_done (by kernel_rfl) ?_ _
    have hbw:=held_below (by assumption)
    have Hbw:=Lib.hid (Hbb.out.trans (Below.mono hbw Hbb.out.size))
    go_wp2_with fail
    first
     | (go_ret;exact ⟨ret_bool He.out.symm,Hbw.out⟩)
     | (go_roundg (cs.length - (k+1))
        case measure=>omega
        case rel=>exact ⟨k+1,by omega,rfl,by go_num,Hbw.out,Hnext.out He.out⟩)
theorem blk5s {w : World} {b : Nat} {x0 x1 x2 x3 x4 : Value} {T : TypeId} (h : w.heap[b]?=some (.cells #[x0,x1,x2,x3,x4] T (0,0))) :
 w.cell? ⟨b,0,none⟩=some x0∧w.cell? ⟨b,1,none⟩=some x1∧w.cell? ⟨b,2,none⟩=some x2∧w.cell? ⟨b,3,none⟩=some x3∧w.cell? ⟨b,4,none⟩=some x4∧(∀ j,w.frozen? ⟨b,j,none⟩=false)∧b < w.heap.size :=
 ⟨cell_of_blk h rfl,cell_of_blk h rfl,cell_of_blk h rfl,cell_of_blk h rfl,cell_of_blk h rfl,free_of_blk h,blk_lt h⟩
def boxOk (xs : List Int) (K N : Int) : Bool:=decide (1≤N∧N≤7∧0≤K∧K≤N) && bxOk xs K.toNat N.toNat
theorem boxOk_no {xs : List Int} {K N : Int} (h : ¬ (1≤N∧N≤7∧0≤K∧K≤N)) : boxOk xs K N=false:=by unfold boxOk;rw [decide_eq_false h];rfl
theorem isSize_b (n : Int) (w : World) : Calls Tryz.prog 80 #[.int .i64 n] w fun e w'=>e=.returned (.bool (decide (1≤n∧n≤7)))∧w=w':=by
 go_enter Tryz.func80,Tryz.ntmps80
 by_cases h1 : 1≤n
 ·by_cases h2 : n≤7
  ·go_wp2
   go_ret
   exact ⟨ret_bool (by simp [h1,h2]),rfl⟩
  ·go_wp2
   go_ret
   exact ⟨ret_bool (by simp [h1,h2]),rfl⟩
 ·go_wp2
  go_ret
  exact ⟨ret_bool (by simp;omega),rfl⟩
theorem isBox_no (K N : Int) (w : World) (h : ¬ (1≤N∧N≤7∧0≤K∧K≤N)) :
 Calls Tryz.prog 43 #[.int .i64 K,.int .i64 N] w fun e w'=>e=.returned (.bool false)∧w=w':=by
 go_enter Tryz.func43,Tryz.ntmps43
 go_wp2_with fail
 refine (isSize_b N w).mono ?_
 rintro e w1 ⟨rfl,rfl⟩
 by_cases h1 : 1≤N∧N≤7
 ·rw [decide_eq_true h1]
  by_cases h2 : 0≤K
  ·have h3 : ¬ K≤N:=by omega
   have H3:=Lib.hid h3
   clear h h1
   go_wp2_with fail
   go_ret
   exact ⟨ret_bool (decide_eq_false (by have:=H3.out;omega)),rfl⟩
  ·clear h h1
   go_wp2_with fail
   go_ret
   exact ⟨rfl,rfl⟩
 ·rw [decide_eq_false h1]
  clear h h1
  go_wp2_with fail
  go_ret
  exact ⟨rfl,rfl⟩
theorem inBox_any (v : Value) (xs : List Int) (K N : Int) (w : World) (h : Ints w v xs) :
 Calls Tryz.prog 40 #[v,.int .i64 K,.int .i64 N] w fun e w'=>e=.returned (.bool (boxOk xs K N))∧Qt w w':=by
 by_cases hb : 1≤N∧N≤7∧0≤K∧K≤N
 ·obtain ⟨h1,h2,h3,h4⟩:=hb
  obtain ⟨k,rfl⟩:=Int.eq_ofNat_of_zero_le h3
  obtain ⟨n,rfl⟩:=Int.eq_ofNat_of_zero_le (show 0≤N by omega)
  unfold boxOk
  rw [decide_eq_true ⟨h1,h2,h3,h4⟩,Bool.true_and,Int.toNat_natCast,Int.toNat_natCast]
  exact IsInBox_any v xs k n w h (by omega) (by omega) (by omega)
 ·rw [boxOk_no hb]
  have Hb:=Lib.hid hb
  clear hb h
  go_enter Tryz.func40,Tryz.ntmps40
  go_wp2_with fail
  refine (isBox_no K N w Hb.out).mono ?_
  rintro e w1 ⟨rfl,rfl⟩
  go_wp2_with fail
  go_ret
  exact ⟨rfl,Qt.refl _⟩
def sessOk (xs : List Int) (cs : List Cls) (ys : List Int) (K N : Int) : Bool:=permOk xs && clsOk cs && boxOk ys K N
theorem implSessionOk_any (dp dc ds : Value) (xs ys : List Int) (cs : List Cls) (K N : Int) (w : World) (h1 : Ints w dp xs) (h2 : RdCl w dc cs) (h3 : Ints w ds ys) :
 Calls Tryz.prog 55 #[.agg #[dp,dc,ds,.int .i64 K,.int .i64 N]] w fun e w'=>e=.returned (.bool (sessOk xs cs ys K N))∧Below w.heap.size w w':=by
 obtain ⟨b1,hb1⟩ : ∃ b,b=permOk xs:=⟨_,rfl⟩
 obtain ⟨b2,hb2⟩ : ∃ b,b=clsOk cs:=⟨_,rfl⟩
 obtain ⟨b3,hb3⟩ : ∃ b,b=boxOk ys K N:=⟨_,rfl⟩
 have He:=Lib.hid (show sessOk xs cs ys K N=(b1 && b2 && b3) by unfold sessOk;rw [← hb1,← hb2,← hb3])
 rw [He.out]
 have C1:=Lib.hid (fun w h=>implIsPerm_b dp xs b1 hb1.symm w h)
 have C2:=Lib.hid (fun w h=>hb2 ▸ implClassesOk_any dc cs w h)
 have C3:=Lib.hid (fun w h=>hb3 ▸ inBox_any ds ys K N w h)
 have hba:=below_alloc w (.cells #[dp,dc,ds,.int .i64 K,.int .i64 N] 61)
 have Z:=Lib.hid (heap_alloc_top w (.cells #[dp,dc,ds,.int .i64 K,.int .i64 N] 61))
 have H1:=Lib.hid (h1.below hba)
 have H2:=Lib.hid (h2.below hba)
 have H3:=Lib.hid (h3.below hba)
 have Hba:=Lib.hid hba
 clear hb1 hb2 hb3 He h1 h2 h3 hba
 go_enter Tryz.func55,Tryz.ntmps55
 go_wp2_with fail
 generalize w.alloc (.cells #[dp,dc,ds,.int .i64 K,.int .i64 N] 61)=w0 at *
 obtain ⟨c0,c1,c2,c3,c4,cf,cz⟩:=blk5s Z.out
 go_wp2_with fail
 refine (C1.out _ H1.out).mono ?_
 rintro e w1 ⟨rfl,hb⟩
 have Z1:=Lib.hid (blk_later Z.out hb)
 have H2':=Lib.hid (H2.out.below hb)
 have H3':=Lib.hid (H3.out.below hb)
 have B1:=Lib.hid (Hba.out.trans (hb.mono Hba.out.size))
 clear hb c0 c1 c2 c3 c4 cf
 obtain ⟨c0,c1,c2,c3,c4,cf,_⟩:=blk5s Z1.out
 cases b1 with
 | false =>
   go_wp2_with fail
   go_ret
   exact ⟨rfl,B1.out⟩
 | true =>
   go_wp2_with fail
   refine (C2.out _ H2'.out).mono ?_
   rintro e w2 ⟨rfl,hb⟩
   have Z2:=Lib.hid (blk_later Z1.out hb)
   have H3'':=Lib.hid (H3'.out.below hb)
   have B2:=Lib.hid (B1.out.trans (hb.mono B1.out.size))
   clear hb c0 c1 c2 c3 c4 cf
   obtain ⟨c0,c1,c2,c3,c4,cf,_⟩:=blk5s Z2.out
   cases b2 with
   | false =>
     go_wp2_with fail
     go_ret
     exact ⟨rfl,B2.out⟩
   | true =>
     go_wp2_with fail
     refine (C3.out _ H3''.out).mono ?_
     rintro e w3 ⟨rfl,hq⟩
     have hb:=Qt.belowS hq
     go_wp2_with fail
     go_ret
     exact ⟨rfl,B2.out.trans (hb.mono B2.out.size)⟩
structure SesR (w : World) (v : Value) (xs : List Int) (cs : List Cls) (ys : List Int) (K N : Int) : Prop where
 ex : ∃ dp dc ds,v=.agg #[dp,dc,ds,.int .i64 K,.int .i64 N]∧Ints w dp xs∧RdCl w dc cs∧Ints w ds ys
theorem SesR.below {w w' : World} {v : Value} {xs ys : List Int} {cs : List Cls} {K N : Int} (h : SesR w v xs cs ys K N) (hb : Below w.heap.size w w') : SesR w' v xs cs ys K N:=by
 obtain ⟨dp,dc,ds,e,h1,h2,h3⟩:=h.ex
 exact ⟨dp,dc,ds,e,h1.below hb,h2.below hb,h3.below hb⟩
theorem SesR.open {w : World} {v : Value} {xs ys : List Int} {cs : List Cls} {K N : Int} (h : SesR w v xs cs ys K N) :
 ∃ pp pk cp ck sp sk,v=.agg #[.slice pp xs.length pk,.slice cp cs.length ck,.slice sp ys.length sk,.int .i64 K,.int .i64 N]∧Ints w (.slice pp xs.length pk) xs∧RdCl w (.slice cp cs.length ck) cs∧Ints w (.slice sp ys.length sk) ys:=by
 obtain ⟨dp,dc,ds,rfl,h1,h2,h3⟩:=h.ex
 obtain ⟨pp,pk,ep,_,_⟩:=id h1
 obtain ⟨sp,sk,es,_,_⟩:=id h3
 obtain ⟨f,⟨cp,ck,ec,_⟩,_⟩:=id h2
 subst ep es ec
 exact ⟨pp,pk,cp,ck,sp,sk,rfl,h1,h2,h3⟩
structure AgT (w W : World) : Prop where
 size : w.heap.size≤W.heap.size
 blk : ∀ (k : Nat) (c : Array Value) (T : TypeId) (q : Nat × Nat),w.heap[k]?=some (Obj.cells c T q)→(T=3 ∨ T=42)→W.heap[k]?=w.heap[k]?
theorem AgT.refl (w : World) : AgT w w:=⟨Nat.le_refl _,fun _ _ _ _ _ _=>rfl⟩
theorem AgT.trans {a b c : World} (h : AgT a b) (g : AgT b c) : AgT a c :=
 ⟨Nat.le_trans h.size g.size,fun k cc T q e hT=>(g.blk k cc T q ((h.blk k cc T q e hT).trans e) hT).trans (h.blk k cc T q e hT)⟩
theorem AgT.of_below {w w' : World} (hb : Below w.heap.size w w') : AgT w w':=⟨hb.size,fun k c T q e _=>hb.block k (blk_lt e)⟩
theorem AgT.of_set {w : World} {a : Addr} {c : Array Value} {T : TypeId} {q : Nat × Nat} (hb : w.heap[a.block]?=some (.cells c T q)) (h1 : T ≠ 3) (h2 : T ≠ 42) (u : Value) : AgT w (w.setCell a u) :=
 ⟨by rw [size_setCell];exact Nat.le_refl _,fun k c' T' q' e hT=>Below.heap_setCell _ _ _ _ fun ek=>by
   subst ek
   rw [hb] at e
   injection e with e
   injection e with _ e
   subst e
   rcases hT with hT | hT
   ·exact h1 hT
   ·exact h2 hT⟩
theorem AgT.of_grown {w w' : World} {ob : Option Nat} (hg : w.grownBy w' ob) (ho : ∀ k,ob=some k → ∃ (c : Array Value) (T : TypeId) (fz : Nat × Nat),w.heap[k]?=some (Obj.cells c T fz)∧T ≠ 3∧T ≠ 42) : AgT w w' :=
 ⟨hg.size,fun k c T q e hT=>hg.block k (blk_lt e) fun ek=>by
   obtain ⟨c',T',fz,e',h1,h2⟩:=ho k ek.symm
   rw [e'] at e
   injection e with e
   injection e with _ e
   subst e
   rcases hT with hT | hT
   ·exact h1 hT
   ·exact h2 hT⟩
theorem AgT.box5 {w : World} {b : Nat} {c : Array Value} {q : Nat × Nat} (hb : w.heap[b]?=some (.cells c 61 q)) (v0 v1 v2 v3 v4 : Value) :
 AgT w (((((w.setCell ⟨b,0,none⟩ v0).setCell ⟨b,1,none⟩ v1).setCell ⟨b,2,none⟩ v2).setCell ⟨b,3,none⟩ v3).setCell ⟨b,4,none⟩ v4):=by
 have b0:=heap_setCell_at hb 0 v0
 have b1:=heap_setCell_at b0 1 v1
 have b2:=heap_setCell_at b1 2 v2
 have b3:=heap_setCell_at b2 3 v3
 exact (((((AgT.refl w).trans (AgT.of_set (a:=⟨b,0,none⟩) hb (by decide) (by decide) v0)).trans (AgT.of_set (a:=⟨b,1,none⟩) b0 (by decide) (by decide) v1)).trans (AgT.of_set (a:=⟨b,2,none⟩) b1 (by decide) (by decide) v2)).trans (AgT.of_set (a:=⟨b,3,none⟩) b2 (by decide) (by decide) v3)).trans (AgT.of_set (a:=⟨b,4,none⟩) b3 (by decide) (by decide) v4)
def IntsT (w : World) (v : Value) (xs : List Int) : Prop:=∀ W,AgT w W→Ints W v xs
def RdClT (w : World) (v : Value) (cs : List Cls) : Prop:=∀ W,AgT w W→RdCl W v cs
theorem IntsT.ints {w : World} {v : Value} {xs : List Int} (h : IntsT w v xs) : Ints w v xs:=h w (AgT.refl w)
theorem RdClT.rd {w : World} {v : Value} {cs : List Cls} (h : RdClT w v cs) : RdCl w v cs:=h w (AgT.refl w)
theorem IntsT.ag {w w' : World} {v : Value} {xs : List Int} (h : IntsT w v xs) (hg : AgT w w') : IntsT w' v xs:=fun W hW=>h W (hg.trans hW)
theorem RdClT.ag {w w' : World} {v : Value} {cs : List Cls} (h : RdClT w v cs) (hg : AgT w w') : RdClT w' v cs:=fun W hW=>h W (hg.trans hW)
theorem IntsT.below {w w' : World} {v : Value} {xs : List Int} (h : IntsT w v xs) (hb : Below w.heap.size w w') : IntsT w' v xs:=h.ag (AgT.of_below hb)
theorem RdClT.below {w w' : World} {v : Value} {cs : List Cls} (h : RdClT w v cs) (hb : Below w.heap.size w w') : RdClT w' v cs:=h.ag (AgT.of_below hb)
theorem IntsT.of_own {w : World} {lo hi : Nat} {v : Value} {xs : List Int} (h : OwnI 3 w lo hi v xs) : IntsT w v xs:=fun W hW =>
 OwnI.ints (lo:=lo) (hi:=hi) (T:=3) ⟨ownsRow_of_block h.1 fun k hk=>by
  obtain ⟨c,fz,e⟩:=OwnI.kind h k hk
  exact hW.blk k c _ fz e (.inl rfl),h.2⟩
theorem IntsT.nil (w : World) : IntsT w (.slice none 0 0) []:=fun W _=>⟨_,_,rfl,⟨Nat.le_refl _,Nat.zero_le _⟩,fun h=>absurd h (Nat.lt_irrefl _)⟩
theorem RdClT.of_own {w : World} {lo hi : Nat} {v : Value} {cs : List Cls} (h : OwnCl w lo hi v cs) : RdClT w v cs:=fun W hW=>by
 obtain ⟨g,h1,h2⟩:=h
 have hk:=h1.kind
 obtain ⟨xs,h1,hf⟩:=h1
 refine ⟨g,OwnS.rd (lo:=lo) (hi:=hi) (T:=42) ⟨xs,⟨ownsRow_of_block h1.1 fun k e=> ?_,h1.2⟩,hf⟩,fun i hi=>IntsT.of_own (h2 i hi) W hW⟩
 obtain ⟨c,fz,ek⟩:=hk k e
 exact hW.blk k c _ fz ek (.inr rfl)
def SesT (w : World) (v : Value) (xs : List Int) (cs : List Cls) (ys : List Int) (K N : Int) : Prop :=
 ∃ dp dc ds,v=.agg #[dp,dc,ds,.int .i64 K,.int .i64 N]∧IntsT w dp xs∧RdClT w dc cs∧IntsT w ds ys
theorem SesT.ses {w : World} {v : Value} {xs ys : List Int} {cs : List Cls} {K N : Int} (h : SesT w v xs cs ys K N) : SesR w v xs cs ys K N:=by
 obtain ⟨dp,dc,ds,e,h1,h2,h3⟩:=h
 exact ⟨dp,dc,ds,e,h1.ints,h2.rd,h3.ints⟩
theorem SesT.ag {w w' : World} {v : Value} {xs ys : List Int} {cs : List Cls} {K N : Int} (h : SesT w v xs cs ys K N) (hg : AgT w w') : SesT w' v xs cs ys K N:=by
 obtain ⟨dp,dc,ds,e,h1,h2,h3⟩:=h
 exact ⟨dp,dc,ds,e,h1.ag hg,h2.ag hg,h3.ag hg⟩
theorem SesT.below {w w' : World} {v : Value} {xs ys : List Int} {cs : List Cls} {K N : Int} (h : SesT w v xs cs ys K N) (hb : Below w.heap.size w w') : SesT w' v xs cs ys K N:=h.ag (AgT.of_below hb)
theorem SesT.parts {w : World} {a b c : Value} {xs ys : List Int} {cs : List Cls} {K N : Int} (h : SesT w (.agg #[a,b,c,.int .i64 K,.int .i64 N]) xs cs ys K N) : Ints w a xs∧RdCl w b cs∧Ints w c ys:=by
 obtain ⟨dp,dc,ds,e,h1,h2,h3⟩:=h
 simp only [Value.agg.injEq,Array.mk.injEq,List.cons.injEq,and_true] at e
 obtain ⟨rfl,rfl,rfl⟩:=e
 exact ⟨h1.ints,h2.rd,h3.ints⟩
theorem SesT.open {w : World} {v : Value} {xs ys : List Int} {cs : List Cls} {K N : Int} (h : SesT w v xs cs ys K N) :
 ∃ pp pk cp ck sp sk,v=.agg #[.slice pp xs.length pk,.slice cp cs.length ck,.slice sp ys.length sk,.int .i64 K,.int .i64 N]∧IntsT w (.slice pp xs.length pk) xs∧RdClT w (.slice cp cs.length ck) cs∧IntsT w (.slice sp ys.length sk) ys:=by
 obtain ⟨dp,dc,ds,rfl,h1,h2,h3⟩:=h
 obtain ⟨pp,pk,ep,_,_⟩:=h1.ints
 obtain ⟨sp,sk,es,_,_⟩:=h3.ints
 obtain ⟨f,⟨cp,ck,ec,_⟩,_⟩:=h2.rd
 subst ep es ec
 exact ⟨pp,pk,cp,ck,sp,sk,rfl,h1,h2,h3⟩
def OwnCd (w : World) (lo hi : Nat) (v : Value) (cs : List Cls) : Prop :=
 ∃ f,OwnS w lo hi 42 2 v cs.length (clF cs f)∧(∀ i,i < cs.length→OwnI 3 w lo hi (f i) (cs.getD i clD).1) ∧
   ∀ i j,i < j→j < cs.length → ∀ k,(f i).ownBlock=some k→(f j).ownBlock ≠ some k
namespace OwnCd
variable {w w' : World} {lo hi : Nat} {v : Value} {cs : List Cls}
theorem cl (h : OwnCd w lo hi v cs) : OwnCl w lo hi v cs:=by
 obtain ⟨f,h1,h2,_⟩:=h
 exact ⟨f,h1,h2⟩
theorem rd (h : OwnCd w lo hi v cs) : RdCl w v cs:=h.cl.rd
theorem keep (h : OwnCd w lo hi v cs) (hb : ∀ k,lo≤k→k < hi→k < w.heap.size→w'.heap[k]?=w.heap[k]?) : OwnCd w' lo hi v cs:=by
 obtain ⟨f,h1,h2,h3⟩:=h
 exact ⟨f,h1.keep hb,fun i hi=>Own.keep (h2 i hi) hb,h3⟩
theorem below (h : OwnCd w lo hi v cs) (hb : Below w.heap.size w w') : OwnCd w' lo hi v cs:=h.keep fun k _ _ h3=>hb.block k h3
theorem frm {lo' hi' : Nat} (h : OwnCd w lo hi v cs) (hb : Frm lo' hi' w w') (ho : hi≤lo' ∨ hi'≤lo) : OwnCd w' lo hi v cs:=h.keep fun k h1 h2 h3=>hb.block k h3 (by omega)
theorem mono {lo' hi' : Nat} (h : OwnCd w lo hi v cs) (h1 : lo'≤lo) (h2 : hi≤hi') : OwnCd w lo' hi' v cs:=by
 obtain ⟨f,g1,g2,g3⟩:=h
 exact ⟨f,g1.mono h1 h2,fun i hi=>(g2 i hi).mono h1 h2,g3⟩
theorem shape (h : OwnCd w lo hi v cs) : ∃ p cap,v=.slice p cs.length cap∧cs.length≤cap∧cap≤maxLen:=h.cl.shape
theorem nil (w : World) (lo hi : Nat) : OwnCd w lo hi (.slice none 0 0) []:=⟨fun _=>undef,OwnS.nil _ _ _ _ _ _,fun i hi=>absurd hi (Nat.not_lt_zero _),fun i j _ hj=>absurd hj (Nat.not_lt_zero _)⟩
theorem made0 (w : World) : OwnCd (w.alloc (.cells #[] 42)) w.heap.size (w.heap.size+1) (.slice (some ⟨w.heap.size,0,none⟩) 0 0) [] :=
 ⟨fun _=>undef,OwnS.made0 _ _ _ _,fun i hi=>absurd hi (Nat.not_lt_zero _),fun i j _ hj=>absurd hj (Nat.not_lt_zero _)⟩
theorem getD_snoc {cs : List Cls} {m : Cls} {i : Nat} : (cs ++ [m]).getD i clD=if i < cs.length then cs.getD i clD else if i=cs.length then m else clD:=by
 by_cases h : i < cs.length
 ·rw [if_pos h];simp [List.getD_eq_getElem?_getD,List.getElem?_append_left h]
 ·rw [if_neg h]
  by_cases e : i=cs.length
  ·subst e;simp [List.getD_eq_getElem?_getD]
  ·rw [if_neg e];simp [List.getD_eq_getElem?_getD];rw [List.getElem?_eq_none (by simp;omega)];rfl
theorem snoc {v' x : Value} {m : Cls} {mid : Nat} {f : Nat→Value} (g1 : OwnS w lo mid 42 2 v cs.length (clF cs f)) (g2 : ∀ i,i < cs.length→OwnI 3 w lo mid (f i) (cs.getD i clD).1)
 (g3 : ∀ i j,i < j→j < cs.length → ∀ k,(f i).ownBlock=some k→(f j).ownBlock ≠ some k) (hx : OwnI 3 w mid hi x m.1) (hm : lo≤mid) (hmh : mid≤hi)
 (hg : w.grownBy w' v.ownBlock) (hsz : hi≤w'.heap.size)
 (hv : OwnS w' lo w'.heap.size 42 2 v' (cs.length+1) (fun i=>if i < cs.length then clF cs f i else fun j=>match j with | 0=>x | _=>.int .i64 m.2)) : OwnCd w' lo w'.heap.size v' (cs ++ [m]):=by
 have hrow : ∀ (y : Value) (ys : List Int) (lo1 hi1 : Nat),OwnI 3 w lo1 hi1 y ys→OwnI 3 w' lo1 hi1 y ys:=fun y ys lo1 hi1 hy =>
  ⟨ownsRow_of_block hy.1 fun k hk=>hg.block k (Own.block hy hk).2.2 fun e=>ne_of_kinds (g1.kind k e.symm) (OwnI.kind hy k hk) (by decide),hy.2⟩
 refine ⟨fun i=>if i < cs.length then f i else x,by
  rw [List.length_append]
  refine hv.congr fun i hi j hj=> ?_
  by_cases h : i < cs.length
  ·rw [if_pos h]
   unfold clF
   rw [getD_snoc,if_pos h]
   have : j=0 ∨ j=1:=by omega
   rcases this with rfl | rfl
   ·show f i=if i < cs.length then f i else x
    rw [if_pos h]
   ·rfl
  ·have e : i=cs.length:=by omega
   rw [if_neg h]
   unfold clF
   rw [getD_snoc,if_neg h,if_pos e]
   have : j=0 ∨ j=1:=by omega
   rcases this with rfl | rfl
   ·show x=if i < cs.length then f i else x
    rw [if_neg h]
   ·rfl,fun i hi=> ?_,fun i j hij hj k hk=> ?_⟩
 ·rw [List.length_append] at hi
  simp only [List.length_singleton] at hi
  rw [getD_snoc]
  by_cases h : i < cs.length
  ·simp only [h,if_true]
   exact (hrow _ _ _ _ (g2 i h)).mono (Nat.le_refl _) (by omega)
  ·have : i=cs.length:=by omega
   simp only [h,if_false]
   rw [if_pos this]
   exact (hrow _ _ _ _ hx).mono hm hsz
 ·rw [List.length_append] at hj
  simp only [List.length_singleton] at hj
  simp only [show i < cs.length by omega,if_true] at hk
  by_cases h : j < cs.length
  ·simp only [h,if_true]
   exact g3 i j hij h k hk
  ·simp only [h,if_false]
   intro e
   have h5:=(Own.block (g2 i (by omega)) hk).2.1
   have h6:=(Own.block hx e).1
   omega
end OwnCd
def fmtCl (c : Cls) : List UInt8:=fmtI c.2 ++ 58 :: fmtL c.1
def fmtCls (cs : List Cls) : List UInt8:=if cs.length=0 then [48] else Lib.join (cs.map fmtCl) [44,32]
theorem map_take_snocC {α : Type} (g : Cls→α) (xs : List Cls) (k : Nat) (hk : k < xs.length) : (xs.take k).map g ++ [g (xs.getD k clD)]=(xs.take (k+1)).map g:=by
 rw [List.take_succ,List.map_append]
 congr 1
 simp [List.getD_eq_getElem?_getD,hk]
theorem clsOk_at {cs : List Cls} (h : clsOk cs=true) {k : Nat} (hk : k < cs.length) : permOk (cs.getD k clD).1=true ∧ -1000000≤(cs.getD k clD).2∧(cs.getD k clD).2≤1000000:=by
 unfold clsOk at h
 rw [Bool.and_eq_true,List.all_eq_true] at h
 have:=h.2 k (List.mem_range.2 hk)
 unfold clAt at this
 simp only [Bool.and_eq_true,decide_eq_true_eq,Bool.not_eq_true',decide_eq_false_iff_not] at this
 refine ⟨this.1.1.1.1.1,?_,?_⟩
 ·have:=this.1.1.2;omega
 ·have:=this.1.2;omega
theorem bytA_cl (m : Nat) (xs : List Int) : bytA (fmtN m ++ 58 :: fmtL xs)=bytA (fmtN m) ++ bytA [58] ++ fmtA xs:=by
 rw [show fmtN m ++ 58 :: fmtL xs=(fmtN m ++ [58]) ++ fmtL xs by simp,bytA_append,bytA_append]
 rfl
theorem keepD {B : Nat} {A W W' : World} {a1 a2 : Addr} {x1 x2 : Value} (hB : B≤A.heap.size) (hb : Below W.heap.size W W') (h : (W.cell? a1=some x1∧W.cell? a2=some x2)∧Below B A W) : (W'.cell? a1=some x1∧W'.cell? a2=some x2)∧Below B A W' :=
 ⟨⟨cell_below hb h.1.1,cell_below hb h.1.2⟩,h.2.trans (hb.mono (Nat.le_trans hB h.2.size))⟩
theorem held_below2 {c : Prop} {B : Nat} {A W : World} (h : c∧Below B A W) : Below B A W:=h.2
theorem keepG {B M : Nat} {A W W' : World} {ob : Option Nat} {a1 a2 : Addr} {x1 x2 : Value} (hB : B≤A.heap.size) (hg : W.grownBy W' ob) (ho : ∀ k,ob=some k→B≤k∧k < M) (h1 : M≤a1.block) (h2 : M≤a2.block)
 (h : (W.cell? a1=some x1∧W.cell? a2=some x2)∧Below B A W) : (W'.cell? a1=some x1∧W'.cell? a2=some x2)∧Below B A W' :=
 ⟨⟨by rw [hg.cell_far a1 (World.block_lt_of_cell? _ _ h.1.1) fun e=>by have:=ho _ e.symm;omega];exact h.1.1,
   by rw [hg.cell_far a2 (World.block_lt_of_cell? _ _ h.1.2) fun e=>by have:=ho _ e.symm;omega];exact h.1.2⟩,
   h.2.trans ((Below.refl B W).grown hg (Nat.le_trans hB h.2.size) fun k hk=>(ho k hk).1)⟩
theorem FormatClasses_any (v : Value) (cs : List Cls) (w : World) (h : RdCl w v cs) (hok : clsOk cs=true) (hp : ∀ k,k < cs.length→0≤(cs.getD k clD).2) :
 Calls Tryz.prog 16 #[v] w fun e w'=>e=.returned (.string (bytA (fmtCls cs)))∧Below w.heap.size w w':=by
 have HH:=Lib.hid h
 have hlen : cs.length≤100:=by
  unfold clsOk at hok
  rw [Bool.and_eq_true,decide_eq_true_eq] at hok
  exact hok.1
 have Hok:=Lib.hid (fun k (hk : k < cs.length)=>clsOk_at hok hk)
 have HCo:=Lib.hid (implClassesOk_any v cs w h)
 rw [hok] at HCo
 have Hp:=Lib.hid hp
 obtain ⟨f,hs1,hf⟩:=h
 obtain ⟨p,cap,rfl,⟨hx1,hx⟩,hxc⟩:=hs1.two
 unfold maxLen at hx
 have Hf:=Lib.hid hf
 have Hxc:=Lib.hid hxc
 clear hf hs1 hxc hok hp
 go_enter Tryz.func16,Tryz.ntmps16
 go_wp2_with fail
 refine HCo.out.mono ?_
 rintro e w1 ⟨rfl,hb1⟩
 have Hb1:=Lib.hid hb1
 have hs1:=hb1.size
 have Ho:=Lib.hid (OwnSt.made0 w1)
 clear hb1
 go_wp2_with fail
 go_loopg [3,5,12] cs.length (fun g s3 s5 s12 wr=> ∃ k : Nat,k≤cs.length∧g=cs.length - k∧s12=.int .i64 k∧Hid (OwnSt wr w.heap.size wr.heap.size s3 ((cs.take k).map fmtCl))∧Hid (Below w.heap.size w wr)∧w.heap.size≤wr.heap.size)
 case atStart=>exact ⟨0,Nat.zero_le _,rfl,rfl,OwnF.mono Ho.out hs1 (by rw [size_alloc];exact Nat.le_refl _),Hb1.out.trans ((below_alloc w1 _).mono hs1),by rw [size_alloc];omega⟩
 case round =>
  obtain ⟨k,hk,rfl,rfl,hO,hB,hsz⟩:=hrel
  obtain ⟨wo,rfl⟩ : ∃ x : World,x=wr:=⟨_,rfl⟩
  have HO:=Lib.hid hO.out
  have HB:=Lib.hid hB.out
  clear hO hB
  obtain ⟨p3,k3,e3,_,_⟩:=HO.out.shape
  subst e3
  have htl : ((cs.take k).map fmtCl).length=k:=by rw [List.length_map,List.length_take];omega
  have HO1:=HO.out
  unfold OwnSt at HO1
  rw [htl] at HO1 ⊢
  have Htl:=Lib.hid htl
  by_cases hlt : k < cs.length
  ·obtain ⟨b,rfl,hc⟩:=Hxc.out (by omega)
   obtain ⟨a0,a1⟩:=hc k hlt
   have c0:=cell_below HB.out a0
   have c1:=cell_below HB.out a1
   have hI:=(Hf.out k hlt).below HB.out
   obtain ⟨h1,h2,h3⟩:=Hok.out k hlt
   have h4:=Hp.out k hlt
   have hsn:=map_take_snocC fmtCl cs k hlt
   obtain ⟨X,hX⟩ : ∃ X,X=cs.getD k clD:=⟨_,rfl⟩
   rw [← hX] at c1 hI h1 h2 h3 h4 hsn
   obtain ⟨xs,c⟩:=X
   dsimp only at c1 hI h1 h2 h3 h4
   obtain ⟨m,rfl⟩:=Int.eq_ofNat_of_zero_le h4
   have hl7 : xs.length≤7:=(of_decide_eq_true h1).2.1
   have hfc : fmtCl (xs,(m : Int))=fmtN m ++ 58 :: fmtL xs:=rfl
   rw [hfc] at hsn
   have Hsn:=Lib.hid hsn
   obtain ⟨s1,hs1'⟩ : ∃ s,s=bytA (fmtN m):=⟨_,rfl⟩
   obtain ⟨s2,hs2'⟩ : ∃ s,s=fmtA xs:=⟨_,rfl⟩
   have hz1 : s1.size≤18:=by rw [hs1',bytA_size];exact fmtN_len m
   have hz2 : s2.size≤7:=by rw [hs2',fmtA_size];exact hl7
   have hz3 : (9223372036854775807 < s1.size+1)=False:=eq_false (by omega)
   have hz4 : (9223372036854775807 < s1.size+1+s2.size)=False:=eq_false (by omega)
   have Hcl:=Lib.hid (bytA_cl m xs)
   rw [← hs1',← hs2'] at Hcl
   have HFi:=Lib.hid (fun W=>FormatInt_any m W (by omega))
   rw [← hs1'] at HFi
   obtain ⟨p1,k1,e1,_,_⟩:=id hI
   rw [e1] at c0 hI
   have HFp:=Lib.hid (fun W (hb : Below wo.heap.size wo W)=>FormatPerm_any (.slice p1 xs.length k1) xs W (hI.below hb) h1)
   rw [← hs2'] at HFp
   have HO2:=Lib.hid HO1
   clear hc a0 a1 hX e1 hsn HO1 h1 h2 h3 h4 hfc hs1' hs2' htl hI
   have hkz : (k : Int) < (cs.length : Int):=by omega
   go_wp2_with fail
   have Hba:=Lib.hid (below_alloc wo (.cells #[.slice p1 xs.length k1,.int .i64 (m : Int)] 42))
   have Zb:=Lib.hid (heap_alloc_top wo (.cells #[.slice p1 xs.length k1,.int .i64 (m : Int)] 42))
   generalize hwb : wo.alloc (.cells #[.slice p1 xs.length k1,.int .i64 (m : Int)] 42)=wb at *
   obtain ⟨d0,d1,df,dz⟩:=blk2 Zb.out
   have Hbb:=Lib.hid (HB.out.trans (Hba.out.mono HB.out.size))
   have hsb:=Hba.out.size
   have Hws:=Lib.hid (Nat.le_trans hsz hsb)
   clear hwb
   go_region_held3 (fun w'=>(w'.cell? ⟨wo.heap.size,0,none⟩=some (.slice p1 xs.length k1)∧w'.cell? ⟨wo.heap.size,1,none⟩=some (.int .i64 (m : Int)))∧Below w.heap.size wb w')
    (first | with_reducible assumption | exact ⟨⟨d0,d1⟩,(Below.refl _ _).drew⟩ | exact keepD Hws.out hb6 (by assumption) | exact keepD Hws.out (below_alloc _ _) (by assumption) | exact keepG Hws.out hg7 HO2.out.blocks (Nat.le_refl _) (Nat.le_refl _) (by assumption))
    (first
      | (go_at_call 9;refine (HFi.out _).mono ?_;rintro e1 w2 ⟨rfl,rfl⟩)
      | (go_at_call 7;refine (HFp.out _ (Hba.out.trans ((Below.refl _ _).drew.mono hsb))).mono ?_;rintro e1 w2 ⟨rfl,hb6⟩;have Hb6:=Lib.hid (show Below wb.heap.size wb w2 from (Below.refl _ _).drew.trans hb6))
      | (refine step_append_F rfl (.tmp 16) (.tmp 25) 30 rfl 9 (.string ByteArray.empty) 16 Tryz.underlying30 info_str rfl w.heap.size wo.heap.size _ k (strV ((cs.take k).map fmtCl)) rfl (HO2.out.below (Hba.out.trans ((Hb6.out.trans ((below_alloc w2 _).mono Hb6.out.size)).mono hsb))) (by rw [size_alloc];have:=Hb6.out.size;have:=Hws.out;omega) (by rw [size_alloc];have:=Hb6.out.size;omega) _ 1 _ rfl (rd_one _ _ _ rfl) (fun j _=>rfl) (by unfold maxLen;omega) (by omega) ?_;intro v' w' hv hg7;have Hv:=Lib.hid hv;clear hv))
   have HO3:=Lib.hid (show OwnSt w' w.heap.size w'.heap.size v' ((cs.take k).map fmtCl ++ [fmtN m ++ 58 :: fmtL xs]) from OwnSt.snoc (by rw [Htl.out,Hcl.out];exact Hv.out))
   rw [Hsn.out] at HO3
   have HB3:=Lib.hid (Hbb.out.trans (held_below2 (by assumption)))
   have hs3:=(held_below2 (by assumption) : Below w.heap.size wb w').size
   clear hg7
   go_wp2_with fail
   go_roundg (cs.length - (k+1))
   case measure=>omega
   case rel=>exact ⟨k+1,by omega,rfl,by go_num,HO3.out,HB3.out,Nat.le_trans Hws.out hs3⟩
  ·obtain rfl : k=cs.length:=by omega
   have HJ:=Lib.hid (Join_any (.slice p3 cs.length k3) (cs.map fmtCl) [44,32] wo (by
    have:=HO1.rd
    rw [List.take_length] at this
    rw [List.length_map]
    exact this) (by rw [List.length_map];omega) (by
    have:=join_len (m:=26) (cs.map fmtCl) [44,32] fun x hx=>by
     obtain ⟨y,hy,rfl⟩:=List.mem_map.1 hx
     obtain ⟨j,hj,rfl⟩:=List.getElem_of_mem hy
     have h1:=(Hok.out j hj).1
     have hl7 : (cs.getD j clD).1.length≤7:=(of_decide_eq_true h1).2.1
     rw [List.getD_eq_getElem?_getD,List.getElem?_eq_getElem hj] at hl7
     have h2:=fmtN_len (cs[j].2).toNat
     unfold fmtCl fmtI
     rw [List.length_append,List.length_cons]
     unfold fmtL
     rw [List.length_map]
     simp at hl7
     omega
    rw [List.length_map] at this
    simp at this
    omega))
   have HF:=Lib.hid (show fmtCls cs=if cs.length=0 then [48] else Lib.join (cs.map fmtCl) [44,32] from rfl)
   clear HO1 htl
   rcases Nat.eq_zero_or_pos cs.length with h0 | h0
   ·have h0' : (cs.length : Int)=0:=by omega
    rw [if_pos h0] at HF
    go_wp2_with fail
    go_ret
    rw [HF.out]
    exact ⟨rfl,HB.out⟩
   ·have h0' : ¬ (cs.length : Int)=0:=by omega
    rw [if_neg (by omega)] at HF
    go_wp2_with fail
    refine HJ.out.mono ?_
    rintro e w2 ⟨rfl,hb2⟩
    have HB2:=Lib.hid (HB.out.trans (hb2.mono HB.out.size))
    clear hb2
    go_wp2_with fail
    go_ret
    rw [HF.out]
    exact ⟨rfl,HB2.out⟩
end
end Go.Proofs.YtincaodpjdeoeaaGreatDoor
