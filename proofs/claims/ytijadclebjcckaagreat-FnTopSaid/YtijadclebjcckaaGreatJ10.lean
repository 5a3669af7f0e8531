/-
  A part of the proof of FnTop (texts of one proof, joined).
-/
import Derived.Test.YtijadclebjcckaaGreatJ9
namespace Go.Proofs.YtijadclebjcckaaGreat
set_option linter.all false
set_option maxRecDepth 100000
set_option maxHeartbeats 16000000
section
open Go.RowKit
def cdN (xs : List Int) (i t : Nat) : Nat:=((List.range t).filter fun (s : Nat)=>decide (xs.getD (i+1+s) 0 < xs.getD i 0)).length
theorem cdN_zero (xs : List Int) (i : Nat) : cdN xs i 0=0:=rfl
theorem cdN_yes {xs : List Int} {i t : Nat} (h : xs.getD (i+1+t) 0 < xs.getD i 0) : cdN xs i (t+1)=cdN xs i t+1:=by
 unfold cdN
 rw [List.range_succ,List.filter_append,List.length_append]
 have e : List.filter (fun (s : Nat)=>decide (xs.getD (i+1+s) 0 < xs.getD i 0)) [t]=[t]:=by
  rw [List.filter_cons,if_pos (decide_eq_true h)];rfl
 rw [e];rfl
theorem cdN_no {xs : List Int} {i t : Nat} (h : ¬ xs.getD (i+1+t) 0 < xs.getD i 0) : cdN xs i (t+1)=cdN xs i t:=by
 unfold cdN
 rw [List.range_succ,List.filter_append,List.length_append]
 have e : List.filter (fun (s : Nat)=>decide (xs.getD (i+1+s) 0 < xs.getD i 0)) [t]=[]:=by
  rw [List.filter_cons,if_neg (by rw [decide_eq_false h];simp)];rfl
 rw [e];rfl
theorem cdN_le (xs : List Int) (i t : Nat) : cdN xs i t≤t:=by
 unfold cdN
 exact Nat.le_trans (List.length_filter_le _ _) (by simp)
def codeN (xs : List Int) (i : Nat) : Nat:=cdN xs i (xs.length - (i+1))
def codeL (xs : List Int) : List Int:=(List.range xs.length).map fun i=>(codeN xs i : Int)
theorem codeL_length (xs : List Int) : (codeL xs).length=xs.length:=by simp [codeL]
theorem codeL_getD {xs : List Int} {i : Nat} (h : i < xs.length) : (codeL xs).getD i 0=(codeN xs i : Int):=by simp [codeL,List.getD_eq_getElem?_getD,h]
def lenTo (xs : List Int) : Nat→Nat
 | 0=>0
 | k+1=>lenTo xs k+codeN xs k
def lenP (xs : List Int) : Nat:=lenTo xs xs.length
theorem lenTo_le (xs : List Int) : ∀ k,lenTo xs k≤k * xs.length
 | 0=>by simp [lenTo]
 | k+1=>by
   have:=lenTo_le xs k
   have h2:=cdN_le xs k (xs.length - (k+1))
   unfold lenTo codeN
   rw [Nat.succ_mul];omega
theorem implCode_any (v : Value) (xs : List Int) (w : World) (h : Ints w v xs) (hp : permOk xs=true) :
 Calls Tryz.prog 131 #[v] w (RetI w (codeL xs)):=by
 obtain ⟨hl1,hl7,_,_⟩:=of_decide_eq_true hp
 have Hp:=Lib.hid hp
 have Hh:=Lib.hid h
 obtain ⟨p,cap,rfl,⟨hx1,hx⟩,hxc⟩:=h
 obtain ⟨b,off,rfl,hc⟩:=hxc (by omega)
 unfold maxLen at hx
 have Hc:=Lib.hid hc
 have hmk:=run_make_row' (P:=Tryz.prog) 24 3 (.int .i64 0) 8 Tryz.underlying24 info_int rfl .i64 .i64 xs.length (by omega) (by omega)
 have Hmk:=Lib.hid hmk
 clear hp hxc hc hmk
 go_enter Tryz.func131,Tryz.ntmps131
 go_wp2_with fail
 refine (implIsPerm_b _ xs _ Hp.out _ Hh.out).mono ?_
 rintro e w1 ⟨rfl,hb⟩
 have Hb1:=Lib.hid hb
 have hmk:=Hmk.out
 clear hb
 go_wp2_with fail
 clear hmk
 obtain ⟨w2,hw2⟩ : ∃ x,x=w1.alloc (.cells (madeCells #[Value.int .i64 0] xs.length) 3):=⟨_,rfl⟩
 have Hbl:=Lib.hid (show Below w.heap.size w w2 by rw [hw2];exact Hb1.out.trans ((below_alloc w1 _).mono Hb1.out.size))
 have Hs:=Lib.hid (show w.heap.size≤w1.heap.size∧w2.heap.size=w1.heap.size+1 from ⟨Hb1.out.size,by rw [hw2,size_alloc]⟩)
 have hO : OwnF w2 w1.heap.size (w1.heap.size+1) 3 (.slice (some ⟨w1.heap.size,0,none⟩) xs.length xs.length) xs.length (fun _=>.int .i64 0):=by
  rw [hw2]
  have:=World.rowIs_alloc w1 (madeCells #[Value.int .i64 0] xs.length) 3 (fun _=>.int .i64 0) (fun k hk=>by
   simp [madeCells] at hk
   simp [madeCells,hk,Nat.mod_one])
  exact OwnF.mk' (F:=fun _=>.int .i64 0) (by simpa [madeCells] using this) (Nat.le_refl _) (by omega) (Nat.le_refl _) (by unfold maxLen;omega) fun j hj=>rfl
 have HO:=Lib.hid hO
 rw [← hw2]
 clear hw2 hO
 go_loopg [15] xs.length (fun gg s15 wr=> ∃ i : Nat,i≤xs.length∧gg=xs.length - i∧s15=.int .i64 i∧Frm w1.heap.size (w1.heap.size+1) w2 wr∧Hid (OwnF wr w1.heap.size (w1.heap.size+1) 3 (.slice (some ⟨w1.heap.size,0,none⟩) xs.length xs.length) xs.length (fun j=>.int .i64 (if j < i then (codeN xs j : Int) else 0))))
 case atStart=>exact ⟨0,Nat.zero_le _,rfl,rfl,Frm.refl _ _ _,HO.out.congr fun j hj=>by simp⟩
 case round =>
  obtain ⟨i,hi,rfl,rfl,hF,hO⟩:=hrel
  obtain ⟨wo,rfl⟩ : ∃ x : World,x=wr:=⟨_,rfl⟩
  have HF:=Lib.hid hF
  have HO1:=Lib.hid hO.out
  clear hO hF
  have Hbw:=fun (W : World) (hf : Frm w1.heap.size (w1.heap.size+1) w2 W)=>show Below w.heap.size w W from Hbl.out.trans (hf.below Hs.out.1 Hbl.out.size)
  have HBw:=Lib.hid Hbw
  clear Hbw
  by_cases hlt : i < xs.length
  ·have hlt2 : (i : Int) < (xs.length : Int):=by omega
   have hlt3 : (0 : Int)≤(i : Int):=by omega
   have hlt4 : (i : Int)+1≤(xs.length : Int):=by omega
   have hlt5 : (0 : Int)≤(i : Int)+1:=by omega
   have hlt6 : ((i : Int)+1).toNat=i+1:=by omega
   by_cases hcap : cap=i+1
   ·have hn : xs.length - (i+1)=0:=by omega
    have Hcap:=Lib.hid hcap
    have hcap3 : cap - (i+1)=0:=by omega
    have hcap4 : (i : Int)+1≤(cap : Int):=by omega
    clear hcap
    go_wp2_with fail
    go_loopg [23] (xs.length - (i+1)) (fun gg s23 wr=> ∃ t : Nat,t≤xs.length - (i+1)∧gg=xs.length - (i+1) - t∧s23=.int .i64 t∧Frm w1.heap.size (w1.heap.size+1) w2 wr∧Hid (OwnF wr w1.heap.size (w1.heap.size+1) 3 (.slice (some ⟨w1.heap.size,0,none⟩) xs.length xs.length) xs.length (fun j=>.int .i64 (if j < i then (codeN xs j : Int) else if j=i then (cdN xs i t : Int) else 0))))
    case atStart=>exact ⟨0,Nat.zero_le _,rfl,rfl,HF.out,HO1.out.congr fun j hj=>by
     by_cases h1 : j < i
     ·simp [h1]
     ·simp [h1,cdN_zero]⟩
    case round =>
     obtain ⟨t,ht,rfl,rfl,hF,hO⟩:=hrel
     have HF2:=Lib.hid hF
     have HO2:=Lib.hid hO.out
     clear hF hO
     by_cases htl : t < xs.length - (i+1)
     ·exact absurd htl (by omega)
     ·obtain rfl : t=xs.length - (i+1):=by omega
      have htl2 : ¬ ((xs.length - (i+1) : Nat) : Int) < ((xs.length - (i+1) : Nat) : Int):=by omega
      have HO3:=Lib.hid (show OwnF wr w1.heap.size (w1.heap.size+1) 3 (.slice (some ⟨w1.heap.size,0,none⟩) xs.length xs.length) xs.length (fun j=>.int .i64 (if j < i+1 then (codeN xs j : Int) else 0)) from HO2.out.congr fun j hj=>by
       by_cases h1 : j < i
       ·rw [if_pos h1,if_pos (by omega)]
       ·by_cases h2 : j=i
        ·subst h2;rw [if_neg h1,if_pos rfl,if_pos (by omega)];rfl
        ·rw [if_neg h1,if_neg h2,if_neg (by omega)])
      go_wp2_with fail
      go_roundg (xs.length - (i+1))
      case measure=>omega
      case rel=>exact ⟨i+1,by omega,rfl,by go_num,HF2.out,HO3.out⟩
   ·have hcap2 : ¬ cap - (i+1)=0:=by omega
    go_wp2_with fail
    go_loopg [23] (xs.length - (i+1)) (fun gg s23 wr=> ∃ t : Nat,t≤xs.length - (i+1)∧gg=xs.length - (i+1) - t∧s23=.int .i64 t∧Frm w1.heap.size (w1.heap.size+1) w2 wr∧Hid (OwnF wr w1.heap.size (w1.heap.size+1) 3 (.slice (some ⟨w1.heap.size,0,none⟩) xs.length xs.length) xs.length (fun j=>.int .i64 (if j < i then (codeN xs j : Int) else if j=i then (cdN xs i t : Int) else 0))))
    case atStart=>exact ⟨0,Nat.zero_le _,rfl,rfl,HF.out,HO1.out.congr fun j hj=>by
     by_cases h1 : j < i
     ·simp [h1]
     ·simp [h1,cdN_zero]⟩
    case round =>
     obtain ⟨t,ht,rfl,rfl,hF,hO⟩:=hrel
     have HF2:=Lib.hid hF
     have HO2:=Lib.hid hO.out
     clear hF hO
     by_cases htl : t < xs.length - (i+1)
     ·have htl2 : (t : Int) < ((xs.length - (i+1) : Nat) : Int):=by omega
      have htl3 : (0 : Int)≤(t : Int):=by omega
      have hk1:=Hc.out (i+1+t) (by omega)
      have hk2:=Hc.out i hlt
      have hbw:=HBw.out wr HF2.out
      have c1 : wr.cell? ⟨b,off+(i+1)+t,none⟩=some (.int .i64 (xs.getD (i+1+t) 0)):=by
       rw [show off+(i+1)+t=off+(i+1+t) by omega,hbw.cell (p:=⟨b,off+(i+1+t),none⟩) (World.block_lt_of_cell? _ _ hk1),hk1];rfl
      have c2 : wr.cell? ⟨b,off+i,none⟩=some (.int .i64 (xs.getD i 0)):=by
       rw [hbw.cell (p:=⟨b,off+i,none⟩) (World.block_lt_of_cell? _ _ hk2),hk2];rfl
      have c3:=HO2.out.cell hlt
      have c4:=HO2.out.frozen i
      rw [if_neg (Nat.lt_irrefl i),if_pos rfl] at c3
      have hle:=cdN_le xs i t
      obtain ⟨x,hx'⟩ : ∃ x,x=xs.getD i 0:=⟨_,rfl⟩
      obtain ⟨y,hy'⟩ : ∃ y,y=xs.getD (i+1+t) 0:=⟨_,rfl⟩
      obtain ⟨c,hc'⟩ : ∃ c,c=cdN xs i t:=⟨_,rfl⟩
      rw [← hy'] at c1
      rw [← hx'] at c2
      rw [← hc'] at c3 hle
      have Hx:=Lib.hid hx'
      have Hy:=Lib.hid hy'
      have Hcc:=Lib.hid hc'
      clear hk1 hk2 hbw hx' hy' hc'
      by_cases hlt9 : y < x
      ·have HG:=Lib.hid (show cdN xs i (t+1)=c+1 by rw [cdN_yes (by rw [← Hx.out,← Hy.out];exact hlt9),Hcc.out])
       go_wp2_with fail
       go_roundg (xs.length - (i+1) - (t+1))
       case measure=>omega
       case rel =>
        refine ⟨t+1,by omega,rfl,by go_num,HF2.out.setCell (p:=⟨w1.heap.size,i,none⟩) (Nat.le_refl _) (Nat.lt_succ_self _) _,?_⟩
        refine (HO2.out.set i _).congr fun j hj=> ?_
        by_cases h1 : j=i
        ·subst h1;rw [if_pos rfl,if_neg (Nat.lt_irrefl _),if_pos rfl,HG.out];go_num
        ·rw [if_neg h1]
         simp only [h1,if_false]
      ·have HG:=Lib.hid (show cdN xs i (t+1)=cdN xs i t from cdN_no (by rw [← Hx.out,← Hy.out];exact hlt9))
       go_wp2_with fail
       go_roundg (xs.length - (i+1) - (t+1))
       case measure=>omega
       case rel=>exact ⟨t+1,by omega,rfl,by go_num,HF2.out,by show OwnF _ _ _ _ _ _ _;rw [HG.out];exact HO2.out⟩
     ·obtain rfl : t=xs.length - (i+1):=by omega
      have htl2 : ¬ ((xs.length - (i+1) : Nat) : Int) < ((xs.length - (i+1) : Nat) : Int):=by omega
      have HO3:=Lib.hid (show OwnF wr w1.heap.size (w1.heap.size+1) 3 (.slice (some ⟨w1.heap.size,0,none⟩) xs.length xs.length) xs.length (fun j=>.int .i64 (if j < i+1 then (codeN xs j : Int) else 0)) from HO2.out.congr fun j hj=>by
       by_cases h1 : j < i
       ·rw [if_pos h1,if_pos (by omega)]
       ·by_cases h2 : j=i
        ·subst h2;rw [if_neg h1,if_pos rfl,if_pos (by omega)];rfl
        ·rw [if_neg h1,if_neg h2,if_neg (by omega)])
      go_wp2_with fail
      go_roundg (xs.length - (i+1))
      case measure=>omega
      case rel=>exact ⟨i+1,by omega,rfl,by go_num,HF2.out,HO3.out⟩
  ·obtain rfl : i=xs.length:=by omega
   have hlt2 : ¬ (xs.length : Int) < (xs.length : Int):=by omega
   have HO9:=Lib.hid (show OwnI 3 wo w1.heap.size (w1.heap.size+1) (.slice (some ⟨w1.heap.size,0,none⟩) xs.length xs.length) (codeL xs) by
    refine OwnF.ints ?_
    rw [codeL_length]
    exact HO1.out.congr fun j hj=>by rw [if_pos hj];unfold iv;rw [codeL_getD hj])
   go_wp2_with fail
   go_ret
   exact ⟨_,rfl,HO9.out.mono Hs.out.1 (by have:=Hs.out.2;have:=HF.out.size;omega),HBw.out _ HF.out⟩
theorem implLength_any (v : Value) (xs : List Int) (w : World) (h : Ints w v xs) (hp : permOk xs=true) :
 Calls Tryz.prog 113 #[v] w fun e w'=>e=.returned (.int .i64 (lenP xs : Int))∧Below w.heap.size w w':=by
 obtain ⟨hl1,hl7,_,_⟩:=of_decide_eq_true hp
 have Hp:=Lib.hid hp
 have Hh:=Lib.hid h
 clear hp h
 go_enter Tryz.func113,Tryz.ntmps113
 go_wp2_with fail
 refine (implIsPerm_b _ xs _ Hp.out _ Hh.out).mono ?_
 rintro e w1 ⟨rfl,hb⟩
 have Hb1:=Lib.hid hb
 have Hh1:=Lib.hid (Hh.out.below hb)
 clear hb
 go_wp2_with fail
 refine (implCode_any _ xs _ Hh1.out Hp.out).mono ?_
 rintro e w2 ⟨u,rfl,ho,hb⟩
 have hoi:=ho.ints
 obtain ⟨p,cap,rfl,⟨hx1,hx⟩,hxc⟩:=hoi
 rw [codeL_length] at *
 unfold maxLen at hx
 have Hb2:=Lib.hid (Hb1.out.trans (hb.mono Hb1.out.size))
 obtain ⟨b,off,rfl,hc⟩:=hxc (by omega)
 have Hc:=Lib.hid hc
 clear hb ho hxc hc
 go_wp2_with fail
 go_loop [3,12] (fun s3 s12=> ∃ k : Nat,k≤xs.length∧s12=.int .i64 k∧s3=.int .i64 (lenTo xs k : Int)) (fun _ s12=>xs.length - (intOf s12).toNat)
 case atStart=>exact ⟨0,Nat.zero_le _,rfl,rfl⟩
 case round =>
  obtain ⟨k,hk,rfl,rfl⟩:=hrel
  by_cases hlt : k < xs.length
  ·have hlt2 : (k : Int) < (xs.length : Int):=by omega
   have hlt3 : (0 : Int)≤(k : Int):=by omega
   have c1:=Hc.out k hlt
   unfold iv at c1
   rw [codeL_getD hlt] at c1
   have hle:=lenTo_le xs k
   have hle2 : codeN xs k≤xs.length - (k+1):=cdN_le xs k _
   have hle3 : k * xs.length≤7 * 7:=Nat.mul_le_mul (by omega) hl7
   have HS:=Lib.hid (show lenTo xs (k+1)=lenTo xs k+codeN xs k from rfl)
   obtain ⟨A,hA⟩ : ∃ A,A=lenTo xs k:=⟨_,rfl⟩
   obtain ⟨B,hB⟩ : ∃ B,B=codeN xs k:=⟨_,rfl⟩
   have hAl : A≤49:=by omega
   have hBl : B≤7:=by omega
   rw [← hA,← hB] at HS
   rw [← hB] at c1
   rw [← hA]
   clear hA hB hle hle2 hle3
   go_wp2_with fail
   go_round
   case rel=>exact ⟨k+1,by omega,by go_num,by rw [HS.out];go_num⟩
   case measure=>simp [intOf];omega
  ·obtain rfl : k=xs.length:=by omega
   have hlt2 : ¬ (xs.length : Int) < (xs.length : Int):=by omega
   go_wp2_with fail
   go_ret
   exact ⟨rfl,Hb2.out⟩
end
section
open Go.RowKit Go.Sort Go.Shelf
variable {α : Type} [Inhabited α]
theorem swd_at (enc : α→Value) {w : World} {blk : Nat} {c : Array Value} {T : TypeId} (h : w.heap[blk]?=some (.cells c T (0,0))) (m : Nat) (d : Array α) (os : Array Obj) :
 (sortWorld enc w blk 0 m d os).heap[blk]?=some (.cells (putCells enc 0 d c) T (0,0)):=by
 have hlt : blk < w.heap.size:=blk_lt h
 unfold sortWorld
 rw [heap_grow_old _ _ (by rw [size_putRow];exact hlt)]
 unfold putRow mapBlock
 simp only [Array.getElem?_modify]
 have : (Sort.ahead w m).heap=w.heap:=rfl
 rw [this,h]
 simp [onCells]
theorem swd_other (enc : α→Value) {w : World} {blk k : Nat} (hk : k < w.heap.size) (hne : k ≠ blk) (m : Nat) (d : Array α) (os : Array Obj) :
 (sortWorld enc w blk 0 m d os).heap[k]?=w.heap[k]?:=by
 unfold sortWorld
 rw [heap_grow_old _ _ (by rw [size_putRow];exact hk)]
 unfold putRow mapBlock
 simp only [Array.getElem?_modify]
 have : (Sort.ahead w m).heap=w.heap:=rfl
 rw [this,if_neg (fun e=>hne e.symm)]
theorem swd_size (enc : α→Value) (w : World) (blk m : Nat) (d : Array α) (os : Array Obj) :
 w.heap.size≤(sortWorld enc w blk 0 m d os).heap.size:=by
 unfold sortWorld
 rw [size_grow,size_putRow]
 exact Nat.le_add_right _ _
theorem SZ.heap {enc : α→Value} {w W : World} {blk : Nat} {d : Array α} (h : SZ enc w blk 0 d W) : ∃ q os,W.os=w.os∧W.tape=w.tape∧W.output=w.output∧W.heap=(sortWorld enc w blk 0 q d os).heap:=by
 obtain ⟨n,q,os,h⟩:=h
 refine ⟨q,os,?_,?_,?_,?_⟩
 ·have:=congrArg World.os h;exact this
 ·have:=congrArg World.tape h;exact this
 ·have:=congrArg World.output h;exact this
 ·have:=congrArg World.heap h;exact this
theorem SZ.frm {enc : α→Value} {w W : World} {blk lo hi : Nat} {d : Array α} (h : SZ enc w blk 0 d W) (h1 : lo≤blk) (h2 : blk < hi) : Frm lo hi w W:=by
 obtain ⟨q,os,e1,e2,e3,e4⟩:=h.heap
 exact ⟨e1,e2,e3,by rw [e4];exact swd_size _ _ _ _ _ _,fun k hk ho=>by rw [e4];exact swd_other enc hk (by omega) q d os⟩
theorem SZ.at_ {enc : α→Value} {w W : World} {blk : Nat} {d : Array α} (h : SZ enc w blk 0 d W) {c : Array Value} {T : TypeId} (hc : w.heap[blk]?=some (.cells c T (0,0))) : W.heap[blk]?=some (.cells (putCells enc 0 d c) T (0,0)):=by
 obtain ⟨q,os,e1,e2,e3,e4⟩:=h.heap
 rw [e4]
 exact swd_at enc hc q d os
end
section
open Go.RowKit Go.Sort
theorem cmpLen_any (bx : Nat) (v : Value) (rows : List (List Int)) (x y : Nat) (w : World) (hb : w.cell? ⟨bx,0,none⟩=some v) (h : RdII w v rows) (hx : x < rows.length) (hy : y < rows.length)
 (hp : ∀ i,i < rows.length→permOk (rows.getD i [])=true) (hl : rows.length≤1000) :
 Calls Tryz.prog 112 #[.int .i64 (x : Int),.int .i64 (y : Int),.pointer (some ⟨bx,0,none⟩)] w fun e w' =>
  e=.returned (.int .i64 ((lenP (rows.getD x []) : Int) - (lenP (rows.getD y []) : Int)))∧Below w.heap.size w w':=by
 obtain ⟨f,⟨p,cap,rfl,⟨hx1,hx2⟩,hxc⟩,hf⟩:=h
 unfold maxLen at hx2
 obtain ⟨b,off,rfl,hc⟩:=hxc (by omega)
 have mixed:=Tryz.insI.mixed
 obtain ⟨N,hN⟩ : ∃ N,N=rows.length:=⟨_,rfl⟩
 rw [← hN] at hx hy hx1 hc hf hp hl hb
 obtain ⟨A,hA⟩ : ∃ A,A=lenP (rows.getD x []):=⟨_,rfl⟩
 obtain ⟨B,hB⟩ : ∃ B,B=lenP (rows.getD y []):=⟨_,rfl⟩
 have hA7 : A≤49:=by
  have h7:=of_decide_eq_true (hp x hx)
  rw [hA]
  have:=lenTo_le (rows.getD x []) (rows.getD x []).length
  have:=Nat.mul_le_mul h7.2.1 h7.2.1
  unfold lenP
  omega
 have hB7 : B≤49:=by
  have h7:=of_decide_eq_true (hp y hy)
  rw [hB]
  have:=lenTo_le (rows.getD y []) (rows.getD y []).length
  have:=Nat.mul_le_mul h7.2.1 h7.2.1
  unfold lenP
  omega
 have gb : ∀ n os,Below w.heap.size w (grow (atd w n) os):=fun n os=>⟨rfl,rfl,rfl,by rw [size_grow];exact Nat.le_add_right _ _,fun k hk=>heap_grow_old _ _ (by exact hk)⟩
 have c0 : ∀ n os,(grow (atd w n) os).cell? ⟨bx,0,none⟩=some (.slice (some ⟨b,off,none⟩) N cap):=fun n os=>cell_below (gb n os) hb
 obtain ⟨fx,hfx⟩ : ∃ z,z=f x:=⟨_,rfl⟩
 obtain ⟨fy,hfy⟩ : ∃ z,z=f y:=⟨_,rfl⟩
 have c1 : ∀ n os,(grow (atd w n) os).cell? ⟨b,off+x,none⟩=some fx:=fun n os=>cell_below (gb n os) (by rw [hfx];exact hc x hx)
 have c2 : ∀ n os,(grow (atd w n) os).cell? ⟨b,off+y,none⟩=some fy:=fun n os=>cell_below (gb n os) (by rw [hfy];exact hc y hy)
 have q1 : ∀ n os,Calls Tryz.prog 113 #[fx] (grow (atd w n) os) fun e w'=>e=.returned (.int .i64 (A : Int)) ∧ ∃ q os',w'=grow (atd (grow (atd w n) os) q) os':=fun n os =>
  (implLength_any fx (rows.getD x []) _ (by rw [hfx];exact (hf x hx).below (gb n os)) (hp x hx)).mono fun e w' ⟨he,hw⟩=>⟨by rw [he,hA],below_grow hw⟩
 have q2 : ∀ n os,Calls Tryz.prog 113 #[fy] (grow (atd w n) os) fun e w'=>e=.returned (.int .i64 (B : Int)) ∧ ∃ q os',w'=grow (atd (grow (atd w n) os) q) os':=fun n os =>
  (implLength_any fy (rows.getD y []) _ (by rw [hfy];exact (hf y hy).below (gb n os)) (hp y hy)).mono fun e w' ⟨he,hw⟩=>⟨by rw [he,hB],below_grow hw⟩
 have hxi : (x : Int) < (N : Int):=by omega
 have hyi : (y : Int) < (N : Int):=by omega
 have Gb:=Lib.hid gb
 have hw1 : IntKind.i64.wrap ((A : Int) - (B : Int))=(A : Int) - (B : Int):=by rw [IntKind.wrap_i64];omega
 rw [← hA,← hB]
 clear hxc hc hf hp hN hA hB hfx hfy gb hb
 go_enter Tryz.func112,Tryz.ntmps112
 go_wp2_with fail
 refine wp_region_quiet_z (by assumption) (by kernel_rfl) ?_
 repeat (quiet_step (first | (with_reducible refine grown_z (q1 _ _)) | (with_reducible refine grown_z (q2 _ _))))
 refine wpQuiet_nil ?_
 intro _ hw'
 obtain ⟨⟨nq,osq⟩,hw''⟩:=hw'
 subst hw''
 go_wp2_with fail
 go_ret
 exact ⟨rfl,Gb.out _ _⟩
theorem upTo_any (n : Nat) (w : World) (hn : n≤1000) : Calls Tryz.prog 110 #[.int .i64 (n : Int)] w (RetI w (idL n)):=by
 have hnn:=Lib.hid hn
 have hn2 : (n : Int)≤1000:=by omega
 go_enter Tryz.func110,Tryz.ntmps110
 go_wp2_with fail
 go_loopg [3,4,7] n (fun g s3 s4 s7 wr=> ∃ i : Nat,i≤n∧g=n - i∧s7=.int .i64 i∧Hid (Below w.heap.size w wr)∧Hid (OwnI 3 wr w.heap.size wr.heap.size s3 (idL i)))
 case atStart =>
  refine ⟨0,Nat.zero_le _,rfl,rfl,below_alloc w _,?_⟩
  exact OwnF.ints ((OwnF.made0 w 3 (iv [])).mono (Nat.le_refl _) (by simp))
 case round =>
  obtain ⟨i,hi,rfl,rfl,hb,ho⟩:=hrel
  have hsr:=hb.out.size
  by_cases hlt : i < n
  ·have hlt2 : (i : Int) < (n : Int):=by omega
   obtain ⟨p5,k5,rfl,_,_⟩:=ho.out.shape
   have hofn:=ho.out.fn
   rw [idL_length] at hofn ⊢
   have Ho:=Lib.hid hofn
   have Hb:=Lib.hid hb.out
   have Hb1:=Lib.hid (show i+1≤maxLen by unfold maxLen;omega)
   have Hb2:=Lib.hid (show (i+1) * 8≤140737488355328 by omega)
   clear ho hofn hb
   go_wp2_with (at_builtin;go_must (refine wpList_append_F rfl (.tmp 10) (.tmp 12) 24 rfl 3 (.int .i64 0) 8 Tryz.underlying24 info_int rfl w.heap.size wr.heap.size _ i (iv (idL i)) rfl (Ho.out.below (below_alloc wr _)) (by rw [size_alloc];omega) (by rw [size_alloc];omega) _ 1 _ rfl (rd_one _ _ _ rfl) (fun j _=>rfl) Hb1.out Hb2.out ?_;intro v2 w2 ho2 hg2))
   go_roundg (n - (i+1))
   case measure=>omega
   case rel =>
    have hbx : Below w.heap.size wr w2:=((below_alloc wr _).mono (by omega)).trans (grownBy_below hg2 Ho.out.blocks (Nat.le_refl _) (by rw [size_alloc];omega))
    refine ⟨i+1,by omega,rfl,by go_num,Hb.out.trans hbx,?_⟩
    rw [idL_succ]
    exact OwnI.snoc1 (by rw [idL_length];exact ho2)
  ·obtain rfl : i=n:=by omega
   have hlt2 : ¬ (i : Int) < (i : Int):=by omega
   have Ho:=Lib.hid ho.out
   have Hb:=Lib.hid hb.out
   clear ho hb
   go_wp2_with fail
   go_ret
   exact ⟨_,rfl,Ho.out,Hb.out⟩
def lenAt (n x : Nat) : Nat:=lnN ((permsL n).getD (x % fact n) [])
def cmpN (n x y : Nat) : Int:=(lenAt n x : Int) - (lenAt n y : Int)
def encN (n x : Nat) : Value:=.int .i64 ((x % fact n : Nat) : Int)
def ordL (n : Nat) : List Nat:=(List.range (n * (n - 1) / 2+1)).flatMap fun s=>(List.range (fact n)).filter fun x=>decide (lnN ((permsL n).getD x [])=s)
def ordB (n : Nat) : Bool:=decide ((stbS (ltOf (cmpN n)) (Array.range (fact n))).toList=ordL n) && (ordL n).isPerm (List.range (fact n)) && decide ((ordL n).Pairwise fun x y=>lnN ((permsL n).getD x [])≤lnN ((permsL n).getD y []))
 && (permsL n).all fun v=>decide (lenP v=lnN v)
theorem ord_all : ∀ n : Fin 4,ordB (n.val+1)=true:=by decide +kernel
structure OrdIs (n : Nat) : Prop where
 srt : (stbS (ltOf (cmpN n)) (Array.range (fact n))).toList=ordL n
 perm : (ordL n).Perm (List.range (fact n))
 asc : (ordL n).Pairwise fun x y=>lnN ((permsL n).getD x [])≤lnN ((permsL n).getD y [])
 len : ∀ v ∈ permsL n,lenP v=lnN v
theorem ordIs {n : Nat} (h1 : 1≤n) (h4 : n≤4) : OrdIs n:=by
 have:=ord_all ⟨n - 1,by omega⟩
 rw [show (⟨n - 1,by omega⟩ : Fin 4).val+1=n by simp;omega] at this
 simp only [ordB,Bool.and_eq_true,decide_eq_true_eq,List.all_eq_true] at this
 obtain ⟨⟨⟨a,b⟩,c⟩,e⟩:=this
 exact ⟨a,List.isPerm_iff.1 b,c,e⟩
theorem OrdIs.length {n : Nat} (h : OrdIs n) : (ordL n).length=fact n:=by rw [h.perm.length_eq];simp
theorem OrdIs.at_ {n : Nat} (h : OrdIs n) {i : Nat} (hi : i < fact n) : (ordL n).getD i 0 < fact n:=by
 have hm : (ordL n).getD i 0 ∈ ordL n:=by
  rw [List.getD_eq_getElem?_getD,List.getElem?_eq_getElem (by rw [h.length];exact hi)]
  exact List.getElem_mem _
 simpa using h.perm.mem_iff.1 hm
def ordZ (n : Nat) : List Int:=(ordL n).map fun (x : Nat)=>(x : Int)
theorem sortOrder_any (v : Value) (n lo hi bx : Nat) (av : Value) (w : World) (h1 : 1≤n) (h4 : n≤4) (hv : OwnI 3 w lo hi v (idL (fact n)))
 (hk : ∀ W,Frm lo hi w W→W.cell? ⟨bx,0,none⟩=some av∧RdII W av (permsL n)) :
 Calls Tryz.prog 111 #[v,.func (.func 112) #[] #[.pointer (some ⟨bx,0,none⟩)]] w fun e w' =>
  e=.returned (.tuple #[])∧OwnI 3 w' lo hi v (ordZ n)∧Frm lo hi w w':=by
 have OI:=ordIs h1 h4
 have hf:=fact4 h1 (show n≤5 by omega)
 have hf24 : fact n < 20 ∨ fact n=24:=by
  have : n=1 ∨ n=2 ∨ n=3 ∨ n=4:=by omega
  rcases this with rfl | rfl | rfl | rfl <;> decide
 have hfn:=hv.fn
 rw [idL_length] at hfn
 obtain ⟨p,cap,rfl,hnc,hcm,hp⟩:=hfn.shape
 obtain ⟨g,rfl,hg1,hg2,hg3⟩:=hp (by omega)
 obtain ⟨G,hrow,hG,_,_,_,_,_⟩:=hfn.opened
 obtain ⟨N,hN⟩ : ∃ N,N=fact n:=⟨_,rfl⟩
 have rl : (permsL n).length=N:=by rw [permsL_length,hN]
 have sz : (Array.range N).size=N:=by simp
 have enter : ∀ args w,(callFunc 112 args).run Tryz.prog w=.ok (.enter 112 args) w:=enters_of Tryz.func112 (by kernel_rfl) rfl
 have hcmp : CmpZ Tryz.prog 112 #[.pointer (some ⟨bx,0,none⟩)] (encN n) (cmpN n) g 0 (Array.range N).size w:=by
  intro W dk hW _ x y
  obtain ⟨b1,b2⟩:=hk W (hW.frm hg1 hg2)
  have hx : x % fact n < (permsL n).length:=by rw [rl,hN];exact Nat.mod_lt _ (by omega)
  have hy : y % fact n < (permsL n).length:=by rw [rl,hN];exact Nat.mod_lt _ (by omega)
  have:=cmpLen_any bx av (permsL n) (x % fact n) (y % fact n) W b1 b2 hx hy (fun i hi=>(prm_p5 h1 (by omega) (by rw [← hN,← rl];exact hi)).ok) (by rw [rl];omega)
  refine this.mono ?_
  rintro e w' ⟨rfl,hb⟩
  refine ⟨?_,hb⟩
  have m1 : ∀ x,x < (permsL n).length→(permsL n).getD x [] ∈ permsL n:=fun x hx=>by
   rw [List.getD_eq_getElem?_getD,List.getElem?_eq_getElem hx]
   exact List.getElem_mem _
  rw [OI.len _ (m1 _ hx),OI.len _ (m1 _ hy)]
  rfl
 have hH : Holds (encN n) w g 0 (Array.range N):=fun j hj=>by
  rw [sz] at hj
  have e : (Array.range N)[j]! = j:=by rw [getElem!_pos _ j (by simpa using hj)];simp
  rw [e,Nat.zero_add]
  refine ⟨?_,hfn.frozen j⟩
  rw [hfn.cell (by rw [← hN];exact hj)]
  unfold encN iv
  rw [idL_getD (by rw [← hN];exact hj),Nat.mod_eq_of_lt (by rw [← hN];exact hj)]
 have hcon:=sortStable_any (encN n) (cmpN n) 112 #[.pointer (some ⟨bx,0,none⟩)] g 0 cap (Array.range N) w enter hcmp ⟨fun _=>rfl,hH,hg3⟩ (by rw [sz,hN];exact hf24)
 rw [sz] at hcon
 rw [← hN]
 refine hcon.mono ?_
 rintro e w' ⟨rfl,hS⟩
 refine ⟨rfl,?_,hS.frm hg1 hg2⟩
 have hd : (stbS (ltOf (cmpN n)) (Array.range N)).toList=ordL n:=by rw [hN];exact OI.srt
 obtain ⟨D,hD⟩ : ∃ D,D=stbS (ltOf (cmpN n)) (Array.range N):=⟨_,rfl⟩
 rw [← hD] at hd hS
 have hDs : D.size=N:=by rw [← Array.length_toList,hd,OI.length,hN]
 have hDat : ∀ j,j < N→D[j]! = (ordL n).getD j 0:=fun j hj=>by
  rw [getElem!_pos D j (by omega),List.getD_eq_getElem?_getD,← hd]
  simp [show j < D.size by omega]
 obtain ⟨c,hc1,hc2,hc3⟩:=hrow
 have hrow' : w'.rowIs g 3 cap (fun k=>if k < N then encN n D[k]! else G k):=by
  refine ⟨_,hS.at_ hc1,by simp [putCells,hc2],fun i hi=> ?_⟩
  simp only [putCells,Array.getElem?_mapIdx,hc3 i hi,Option.map_some,Nat.zero_le,true_and,Nat.zero_add,Nat.sub_zero,hDs]
 refine OwnF.ints ?_
 have hl : (ordZ n).length=N:=by unfold ordZ;rw [List.length_map,OI.length,hN]
 rw [hl]
 refine OwnF.mk' hrow' hg1 hg2 (by rw [hN];exact hnc) hcm fun j hj=> ?_
 simp only [hj,if_true]
 rw [hDat j hj]
 have hj2 : (ordL n).getD j 0 < fact n:=OI.at_ (by rw [← hN];exact hj)
 unfold encN iv ordZ
 rw [Nat.mod_eq_of_lt hj2]
 congr 1
 simp only [List.getD_eq_getElem?_getD,List.getElem?_map]
 rw [List.getElem?_eq_getElem (by rw [OI.length,← hN];exact hj)]
 simp
end
section
open Go.RowKit
def OwnCd (w : World) (lo hi : Nat) (v : Value) (cs : List Cls) : Prop :=
 ∃ f,OwnS w lo hi 74 2 v cs.length (clF cs f)∧(∀ i,i < cs.length→OwnI 3 w lo hi (f i) (cs.getD i clD).1) ∧
   ∀ i j,i < j→j < cs.length → ∀ k,(f i).ownBlock=some k→(f j).ownBlock ≠ some k
namespace OwnCd
variable {w w' : World} {lo hi : Nat} {v : Value} {cs : List Cls}
theorem cl (h : OwnCd w lo hi v cs) : OwnCl w lo hi v cs:=by
 obtain ⟨f,h1,h2,_⟩:=h
 exact ⟨f,h1,h2⟩
theorem rd (h : OwnCd w lo hi v cs) : RdCl w v cs:=h.cl.rd
theorem keep (h : OwnCd w lo hi v cs) (hb : ∀ k,lo≤k→k < hi→k < w.heap.size→w'.heap[k]?=w.heap[k]?) : OwnCd w' lo hi v cs:=by
 obtain ⟨f,h1,h2,h3⟩:=h
 exact ⟨f,h1.keep hb,fun i hi=>Own.keep (h2 i hi) hb,h3⟩
theorem below (h : OwnCd w lo hi v cs) (hb : Below w.heap.size w w') : OwnCd w' lo hi v cs:=h.keep fun k _ _ h3=>hb.block k h3
theorem frm {lo' hi' : Nat} (h : OwnCd w lo hi v cs) (hb : Frm lo' hi' w w') (ho : hi≤lo' ∨ hi'≤lo) : OwnCd w' lo hi v cs:=h.keep fun k h1 h2 h3=>hb.block k h3 (by omega)
theorem mono {lo' hi' : Nat} (h : OwnCd w lo hi v cs) (h1 : lo'≤lo) (h2 : hi≤hi') : OwnCd w lo' hi' v cs:=by
 obtain ⟨f,g1,g2,g3⟩:=h
 exact ⟨f,g1.mono h1 h2,fun i hi=>(g2 i hi).mono h1 h2,g3⟩
theorem shape (h : OwnCd w lo hi v cs) : ∃ p cap,v=.slice p cs.length cap∧cs.length≤cap∧cap≤maxLen:=h.cl.shape
theorem nil (w : World) (lo hi : Nat) : OwnCd w lo hi (.slice none 0 0) []:=⟨fun _=>undef,OwnS.nil _ _ _ _ _ _,fun i hi=>absurd hi (Nat.not_lt_zero _),fun i j _ hj=>absurd hj (Nat.not_lt_zero _)⟩
theorem made0 (w : World) : OwnCd (w.alloc (.cells #[] 74)) w.heap.size (w.heap.size+1) (.slice (some ⟨w.heap.size,0,none⟩) 0 0) [] :=
 ⟨fun _=>undef,OwnS.made0 _ _ _ _,fun i hi=>absurd hi (Nat.not_lt_zero _),fun i j _ hj=>absurd hj (Nat.not_lt_zero _)⟩
theorem getD_snoc {cs : List Cls} {m : Cls} {i : Nat} : (cs ++ [m]).getD i clD=if i < cs.length then cs.getD i clD else if i=cs.length then m else clD:=by
 by_cases h : i < cs.length
 ·rw [if_pos h];simp [List.getD_eq_getElem?_getD,List.getElem?_append_left h]
 ·rw [if_neg h]
  by_cases e : i=cs.length
  ·subst e;simp [List.getD_eq_getElem?_getD]
  ·rw [if_neg e];simp [List.getD_eq_getElem?_getD];rw [List.getElem?_eq_none (by simp;omega)];rfl
theorem snoc {v' x : Value} {m : Cls} {mid : Nat} {f : Nat→Value} (g1 : OwnS w lo mid 74 2 v cs.length (clF cs f)) (g2 : ∀ i,i < cs.length→OwnI 3 w lo mid (f i) (cs.getD i clD).1)
 (g3 : ∀ i j,i < j→j < cs.length → ∀ k,(f i).ownBlock=some k→(f j).ownBlock ≠ some k) (hx : OwnI 3 w mid hi x m.1) (hm : lo≤mid) (hmh : mid≤hi)
 (hg : w.grownBy w' v.ownBlock) (hsz : hi≤w'.heap.size)
 (hv : OwnS w' lo w'.heap.size 74 2 v' (cs.length+1) (fun i=>if i < cs.length then clF cs f i else fun j=>match j with | 0=>x | _=>.int .i64 m.2)) : OwnCd w' lo w'.heap.size v' (cs ++ [m]):=by
 have hrow : ∀ (y : Value) (ys : List Int) (lo1 hi1 : Nat),OwnI 3 w lo1 hi1 y ys→OwnI 3 w' lo1 hi1 y ys:=fun y ys lo1 hi1 hy =>
  ⟨ownsRow_of_block hy.1 fun k hk=>hg.block k (Own.block hy hk).2.2 fun e=>ne_of_kinds (g1.kind k e.symm) (OwnI.kind hy k hk) (by decide),hy.2⟩
 refine ⟨fun i=>if i < cs.length then f i else x,by
  rw [List.length_append]
  refine hv.congr fun i hi j hj=> ?_
  by_cases h : i < cs.length
  ·rw [if_pos h]
   unfold clF
   rw [getD_snoc,if_pos h]
   have : j=0 ∨ j=1:=by omega
   rcases this with rfl | rfl
   ·show f i=if i < cs.length then f i else x
    rw [if_pos h]
   ·rfl
  ·have e : i=cs.length:=by omega
   rw [if_neg h]
   unfold clF
   rw [getD_snoc,if_neg h,if_pos e]
   have : j=0 ∨ j=1:=by omega
   rcases this with rfl | rfl
   ·show x=if i < cs.length then f i else x
    rw [if_neg h]
   ·rfl,fun i hi=> ?_,fun i j hij hj k hk=> ?_⟩
 ·rw [List.length_append] at hi
  simp only [List.length_singleton] at hi
  rw [getD_snoc]
  by_cases h : i < cs.length
  ·simp only [h,if_true]
   exact (hrow _ _ _ _ (g2 i h)).mono (Nat.le_refl _) (by omega)
  ·have : i=cs.length:=by omega
   simp only [h,if_false]
   rw [if_pos this]
   exact (hrow _ _ _ _ hx).mono hm hsz
 ·rw [List.length_append] at hj
  simp only [List.length_singleton] at hj
  simp only [show i < cs.length by omega,if_true] at hk
  by_cases h : j < cs.length
  ·simp only [h,if_true]
   exact g3 i j hij h k hk
  ·simp only [h,if_false]
   intro e
   have h5:=(Own.block (g2 i (by omega)) hk).2.1
   have h6:=(Own.block hx e).1
   omega
end OwnCd
end
section
open Go.RowKit Go.Sort Go.Shelf
theorem cmpCls_any (d d' : Value) (xs ys : List Int) (c c' : Int) (w : World) (h : Ints w d xs) (h' : Ints w d' ys) :
 Calls Tryz.prog 105 #[.agg #[d,.int .i64 c],.agg #[d',.int .i64 c']] w fun e w'=>e=.returned (.int .i64 (cmpB xs ys)) ∧ ∃ q os',w'=grow (w.drewN q) os':=by
 have q1:=fun o o'=>compare_any d d' xs ys ((w.alloc o).alloc o') (h.below (below_alloc2 w o o')) (h'.below (below_alloc2 w o o'))
 have Q1:=Lib.hid q1
 clear q1
 obtain ⟨p,cap,rfl,_,_⟩:=h
 obtain ⟨p',cap',rfl,_,_⟩:=h'
 go_enter Tryz.func105,Tryz.ntmps105
 go_wp2_with fail
 refine (Q1.out _ _).mono ?_
 rintro e w1 ⟨rfl,rfl⟩
 go_wp2_with fail
 go_ret
 exact ⟨rfl,0,_,by rw [alloc_eq_grow,alloc_eq_grow,grow_grow];rfl⟩
theorem swo_cls (R : Nat→List Int) : SWO (ltOf fun i j=>cmpB (R i) (R j)) where
 irrefl x:=by simp only [ltOf,cmpB_neg];exact ltB_irrefl _
 trans x y z h1 h2:=by simp only [ltOf,cmpB_neg] at *;exact ltB_trans _ _ _ h1 h2
 ntrans x y z h1 h2:=by simp only [ltOf,cmpB_neg] at *;exact ltB_ntrans _ _ _ h1 h2
theorem sortFC_any (v : Value) (cs : List Cls) (lo hi : Nat) (w : World) (h : OwnCd w lo hi v cs) (hn : cs.length≤1000) (hnd : (cs.map (·.1)).Nodup) :
 Calls Tryz.prog 104 #[v,.func (.func 105) #[] #[]] w fun e w' =>
  e=.returned (.tuple #[])∧OwnCd w' lo hi v (srtC cs)∧Frm lo hi w w':=by
 have hcl:=h
 obtain ⟨F,g1,g2,g3⟩:=h
 obtain ⟨p,cap,rfl,hnc,hcm,hp⟩:=g1.shape
 by_cases h0 : cs.length=0
 ·have hcs : cs=[]:=List.eq_nil_of_length_eq_zero h0
  subst hcs
  have hcon:=AnyF.slices_SortFunc_none (P:=Tryz.prog) (ρ:=Tryz.sortC_ren) Tryz.sortC p cap (.func (.func 105) #[] #[]) w
  change Calls Tryz.prog 104 _ _ _ at hcon
  refine hcon.mono ?_
  rintro e w' ⟨rfl,rfl⟩
  exact ⟨rfl,hcl,Frm.refl _ _ _⟩
 ·obtain ⟨g,rfl,hg1,hg2,hg3⟩:=hp (by omega)
  have g1':=g1
  obtain ⟨xs,hown,hxf⟩:=g1'
  obtain ⟨cur,hgc,hsz⟩ : ∃ cur : Array Value,w.heap[g]?=some (.cells cur 74 (0,0))∧cur.size=cap * 2:=by
   rcases hown.1.2 with ⟨e,_⟩ | ⟨g',cap',cur,e,hb,hg,hn',hm,hs,ht⟩
   ·injection e with e;cases e
   ·injection e with e1 e2 e3
    injection e1 with e1
    injection e1 with e1
    subst e1 e3
    exact ⟨cur,hg,hs⟩
  obtain ⟨n,hN⟩ : ∃ n,n=cs.length:=⟨_,rfl⟩
  have enter : ∀ args w,(callFunc 105 args).run Tryz.prog w=.ok (.enter 105 args) w:=enters_of Tryz.func105 (by kernel_rfl) rfl
  obtain ⟨D,hD⟩ : ∃ D : Nat→Value,D=fun i=>if i < n then F i else .slice none 0 0:=⟨_,rfl⟩
  obtain ⟨C,hC⟩ : ∃ C : Nat→Int,C=fun i=>if i < n then (cs.getD i clD).2 else 0:=⟨_,rfl⟩
  obtain ⟨R,hR⟩ : ∃ R : Nat→List Int,R=fun i=>if i < n then (cs.getD i clD).1 else []:=⟨_,rfl⟩
  have hDs : ∀ i,∃ p k m,D i=.slice p k m:=fun i=>by
   rw [hD]
   by_cases e : i < n
   ·obtain ⟨p1,k1,e1,_⟩:=(g2 i (by omega)).shape
    simp only [e,if_true]
    exact ⟨_,_,_,e1⟩
   ·simp only [e,if_false];exact ⟨_,_,_,rfl⟩
  have hnb : ∀ i,i < n → ∀ k,(F i).ownBlock=some k→k ≠ g∧k < w.heap.size:=fun i hi k hk=>⟨fun e=>by
   subst e
   exact ne_of_kinds ((g2 i (by omega)).kind k hk) ⟨cur,(0,0),hgc⟩ (by decide),(Own.block (g2 i (by omega)) hk).2.2⟩
  have hcmp : CmpLays Tryz.prog 105 #[] (fun i=>[D i,.int .i64 (C i)]) 2 (fun i j=>cmpB (R i) (R j)) g 0 (Array.range n).size w:=by
   intro m os dk _ x y
   have hI : ∀ i,Ints (sortWorldK (fun i=>[D i,.int .i64 (C i)]) 2 w g 0 m dk os) (D i) (R i):=fun i=>by
    by_cases e : i < n
    ·have d1 : D i=F i:=by rw [hD];simp only [e,if_true]
     have r1 : R i=(cs.getD i clD).1:=by rw [hR];simp only [e,if_true]
     rw [d1,r1]
     refine OwnI.ints (lo:=lo) (hi:=hi) (T:=3) ⟨ownsRow_of_block (g2 i (by omega)).1 fun k hk=> ?_,(g2 i (by omega)).2⟩
     exact swd_other id (hnb i e k hk).2 (hnb i e k hk).1 m (flatK (fun i=>[D i,.int .i64 (C i)]) 2 dk) os
    ·have d1 : D i=.slice none 0 0:=by rw [hD];simp only [e,if_false]
     have r1 : R i=[]:=by rw [hR];simp only [e,if_false]
     rw [d1,r1]
     exact ⟨none,0,rfl,⟨Nat.le_refl _,Nat.zero_le _⟩,fun h=>absurd h (by simp)⟩
   exact cmpCls_any (D x) (D y) (R x) (R y) (C x) (C y) _ (hI x) (hI y)
  have sz : (Array.range n).size=n:=by simp
  have hH : HoldsK (fun i=>[D i,.int .i64 (C i)]) 2 w g 0 (Array.range n):=fun j hj=>by
   rw [size_flatK,sz] at hj
   rw [get_flatK _ _ _ _ (by rw [sz];exact hj),Nat.zero_add]
   have hj2 : j / 2 < n:=by omega
   have e : (Array.range n)[j / 2]! = j / 2:=by rw [getElem!_pos _ _ (by simpa using hj2)];simp
   rw [e]
   refine ⟨?_,g1.frozen j⟩
   have hm : j % 2=0 ∨ j % 2=1:=by omega
   rcases hm with hm | hm
   ·have:=g1.cell (i:=j / 2) (j:=0) (by omega) (by omega)
    rw [show j / 2 * 2+0=j by omega] at this
    rw [this,hm,hD]
    simp [hj2,clF]
   ·have:=g1.cell (i:=j / 2) (j:=1) (by omega) (by omega)
    rw [show j / 2 * 2+1=j by omega] at this
    rw [this,hm,hC]
    simp [hj2,clF]
  have hcon:=AnyQ.slices_SortFunc Tryz.sortC 2 (by intro w;exact Tryz.isAgg74 w) (by intro w;exact Tryz.sizeOf74 w) (fun i=>[D i,.int .i64 (C i)]) (fun _=>rfl) (fun x v hv=>by
   simp only [List.mem_cons,List.not_mem_nil,or_false] at hv
   rcases hv with rfl | rfl
   ·obtain ⟨p,k,m,e⟩:=hDs x
    rw [e];rfl
   ·rfl) (fun i j=>cmpB (R i) (R j)) (swo_cls R) 105 #[] g 0 cap (Array.range n) w enter hcmp hH hg3 (by rw [sz];omega)
  change Calls Tryz.prog 104 _ _ _ at hcon
  rw [sz] at hcon
  rw [← hN]
  refine hcon.mono ?_
  rintro e w' ⟨rfl,d',m,os,hp1,hs1,hw'⟩
  have hw2 : w'=sortWorld id w g 0 m (flatK (fun i=>[D i,.int .i64 (C i)]) 2 d') os:=hw'
  clear hw'
  subst hw2
  have hds : d'.size=n:=by simpa using hp1.1
  have hperm : d'.toList.Perm (List.range n):=by
   have h1:=hp1.2.2
   have e1 : d'.extract 0 n=d':=by rw [← hds];simp
   have e2 : (Array.range n).extract 0 n=Array.range n:=by
    have:=Array.extract_size (xs:=Array.range n)
    rwa [Array.size_range] at this
   rw [e1,e2] at h1
   simpa using h1
  have hat : ∀ i (hi : i < n),d'[i]! = d'.toList[i]'(by simpa [hds] using hi):=fun i hi=>by
   rw [getElem!_pos d' i (by omega)];simp
  have hlt : ∀ i,i < n→d'[i]! < n:=fun i hi=>by
   have : d'[i]! ∈ d'.toList:=by rw [hat i hi];exact List.getElem_mem _
   simpa using hperm.mem_iff.1 this
  have hl : (d'.toList.map fun i=>cs.getD i clD).length=n:=by simp [hds]
  have hgd : ∀ i,i < n→(d'.toList.map fun i=>cs.getD i clD).getD i clD=cs.getD d'[i]! clD:=fun i hi=>by
   rw [List.getD_eq_getElem?_getD,List.getElem?_map,hat i hi,List.getElem?_eq_getElem (by simpa [hds] using hi)]
   rfl
  have hcs : (d'.toList.map fun i=>cs.getD i clD)=srtC cs:=by
   refine srtC_eq hnd ?_ ?_
   ·refine (hperm.map _).trans (List.Perm.of_eq ?_)
    apply List.ext_getElem?
    intro i
    rw [List.getElem?_map]
    by_cases hi : i < n
    ·rw [List.getElem?_range hi,Option.map_some,List.getD_eq_getElem?_getD,List.getElem?_eq_getElem (by omega)];rfl
    ·rw [List.getElem?_eq_none (by simp;omega),List.getElem?_eq_none (by omega)];rfl
   ·rw [List.pairwise_iff_getElem]
    intro i j hi hj hij
    have hi' : i < n:=by omega
    have hj' : j < n:=by omega
    have h1:=hs1 i j (Nat.zero_le _) hij hj'
    simp only [ltOf,cmpB_neg,hR,hlt i hi',hlt j hj',if_true] at h1
    rw [List.getElem_map,List.getElem_map,← hat i hi',← hat j hj']
    exact h1
  rw [← hcs]
  have hfr : Frm lo hi w (sortWorld id w g 0 m (flatK (fun i=>[D i,.int .i64 (C i)]) 2 d') os) :=
   ⟨rfl,rfl,rfl,swd_size _ _ _ _ _ _,fun k hk ho=>swd_other id hk (by omega) m _ os⟩
  have hnod : d'.toList.Nodup:=hperm.nodup_iff.2 List.nodup_range
  have hneq : ∀ i j,i < j→j < n→d'[i]! ≠ d'[j]!:=fun i j hij hj=>by
   rw [hat i (by omega),hat j hj]
   exact (List.pairwise_iff_getElem.1 hnod) i j _ _ hij
  refine ⟨rfl,⟨fun i=>F d'[i]!,?_,fun i hi=> ?_,fun i j hij hj k hk=> ?_⟩,hfr⟩
  ·have hflat : ∀ t,t < n * 2→(putCells id 0 (flatK (fun i=>[D i,.int .i64 (C i)]) 2 d') cur)[t]?=some (clF (d'.toList.map fun i=>cs.getD i clD) (fun i=>F d'[i]!) (t / 2) (t % 2)):=fun t ht=>by
    have htc : t < cur.size:=by omega
    simp only [putCells,Array.getElem?_mapIdx,Array.getElem?_eq_getElem htc,Option.map_some,Nat.zero_le,true_and,Nat.zero_add,Nat.sub_zero,size_flatK,hds,ht,if_true,id]
    rw [get_flatK _ _ _ _ (by rw [hds];exact ht)]
    have ht2 : t / 2 < n:=by omega
    have hm : t % 2=0 ∨ t % 2=1:=by omega
    congr 1
    rcases hm with hm | hm
    ·rw [hm,hD];simp [clF,hlt _ ht2]
    ·rw [hm,hC];simp only [clF];rw [hgd _ ht2];simp [hlt _ ht2]
   rw [hl]
   refine ⟨((putCells id 0 (flatK (fun i=>[D i,.int .i64 (C i)]) 2 d') cur).toList.take (n * 2)),⟨⟨?_,.inr ⟨g,cap,_,rfl,hg1,swd_at id hgc m _ os,by omega,hcm,?_,rfl⟩⟩,fun k hk=> ?_⟩,fun i hi j hj=> ?_⟩
   ·rw [List.length_take];simp [putCells,hsz];omega
   ·simp [putCells,hsz]
   ·simp [Value.ownBlock] at hk;omega
   ·have ht : i * 2+j < n * 2:=by omega
    rw [List.getElem?_take,if_pos ht,Array.getElem?_toList,hflat _ ht,show (i * 2+j) / 2=i by omega,show (i * 2+j) % 2=j by omega]
  ·rw [hl] at hi
   rw [hgd i hi]
   refine ⟨ownsRow_of_block (g2 _ (by have:=hlt i hi;omega)).1 fun k hk=> ?_,(g2 _ (by have:=hlt i hi;omega)).2⟩
   exact swd_other id (hnb _ (hlt i hi) k hk).2 (hnb _ (hlt i hi) k hk).1 m _ os
  ·rw [hl] at hj
   have h1:=hneq i j hij hj
   intro hk2
   rcases Nat.lt_or_gt_of_ne h1 with h2 | h2
   ·exact g3 _ _ h2 (by have:=hlt j hj;omega) k hk hk2
   ·exact g3 _ _ h2 (by have:=hlt i (by omega);omega) k hk2 hk
theorem sortClasses_any (v : Value) (cs : List Cls) (lo hi : Nat) (w : World) (h : OwnCd w lo hi v cs) (hn : cs.length≤1000) (hnd : (cs.map (·.1)).Nodup) :
 Calls Tryz.prog 74 #[v] w fun e w'=>e=.returned (.tuple #[])∧OwnCd w' lo hi v (srtC cs)∧Frm lo hi w w':=by
 have Hi:=Lib.hid (sortFC_any v cs lo hi w h hn hnd)
 obtain ⟨p,cap,rfl,_,_⟩:=h.shape
 clear h hn hnd
 go_enter Tryz.func74,Tryz.ntmps74
 go_wp2_with fail
 refine Hi.out.mono ?_
 rintro e w1 ⟨rfl,ho,hf⟩
 have Ho:=Lib.hid ho
 have Hf:=Lib.hid hf
 clear ho hf
 go_wp2_with fail
 go_end0
 exact ⟨rfl,Ho.out,Hf.out⟩
end
section
open Go.RowKit
theorem ltL_ltB : ∀ xs ys,ltL xs ys=ltB xs ys
 | [],[]=>rfl
 | [],_ :: _=>rfl
 | _ :: _,[]=>rfl
 | x :: xs,y :: ys=>by unfold ltL ltB;rw [ltL_ltB xs ys]
theorem cmpB_same : ∀ xs,cmpB xs xs=0
 | []=>rfl
 | x :: xs=>by unfold cmpB;rw [if_neg (by omega),if_neg (by omega)];exact cmpB_same xs
theorem search_any (v u : Value) (rows : List (List Int)) (t : List Int) (k : Nat) (w : World) (h : RdII w v rows) (hu : Ints w u t) (hl : rows.length≤1000) (hk : k < rows.length)
 (ht : rows.getD k []=t) (ho : ∀ a,a < rows.length→ltB (rows.getD a []) t=decide (a < k)) :
 Calls Tryz.prog 129 #[v,u,.func (.func 56) #[] #[]] w fun e w'=>e=.returned (.tuple #[.int .i64 (k : Int),.bool true])∧w=w':=by
 obtain ⟨f,⟨p,cap,rfl,⟨hx1,hx⟩,hxc⟩,hf⟩:=h
 unfold maxLen at hx
 obtain ⟨n,hn⟩ : ∃ n,n=rows.length:=⟨_,rfl⟩
 obtain ⟨b,off,rfl,hc⟩:=hxc (by omega)
 rw [← hn] at hx1 hc hf hk ho hl ⊢
 have Hc:=Lib.hid hc
 have Hf:=Lib.hid hf
 have Ho:=Lib.hid ho
 have Hu:=Lib.hid hu
 have Ht:=Lib.hid ht
 clear hxc hc hf ho hn hu ht
 go_enter Tryz.func129,Tryz.ntmps129
 go_wp2_with fail
 go_loopg [9,10,11] n (fun g s9 s10 s11 wr=> ∃ i j : Nat,i≤k∧k≤j∧j≤n∧g=j - i∧s9=.int .i64 (i : Int)∧s10=.int .i64 (j : Int)∧w=wr)
 case atStart=>exact ⟨0,n,Nat.zero_le _,by omega,Nat.le_refl _,rfl,rfl,rfl,rfl⟩
 case round =>
  obtain ⟨i,j,hik,hkj,hjn,rfl,rfl,rfl,rfl⟩:=hrel
  by_cases hij : i < j
  ·have hiji : (i : Int) < (j : Int):=by omega
   obtain ⟨m,hm⟩ : ∃ m : Nat,m=(i+j) / 2:=⟨_,rfl⟩
   have hmn : m < n:=by omega
   have hmi : (m : Int) < (n : Int):=by omega
   have d1:=Hc.out m hmn
   have Hm:=Lib.hid hm
   obtain ⟨z,hz⟩ : ∃ z,z=f m:=⟨_,rfl⟩
   have Hz:=Lib.hid (show Ints w z (rows.getD m []) by rw [hz];exact Hf.out m hmn)
   rw [← hz,hm] at d1
   have hmi2 : ((i : Int)+(j : Int)) / 2 < (n : Int):=by omega
   clear hm hz
   go_wp2_with fail
   refine (compare_any _ _ (rows.getD m []) t _ Hz.out Hu.out).mono ?_
   rintro e w' ⟨rfl,rfl⟩
   obtain ⟨c,hcc⟩ : ∃ c,c=cmpB (rows.getD m []) t:=⟨_,rfl⟩
   have hcl : c < 0 ↔ m < k:=by
    have h1:=cmpB_lt (rows.getD m []) t
    rw [← hcc,Ho.out m hmn] at h1
    by_cases h2 : m < k
    ·simp [h2] at h1
     exact ⟨fun _=>h2,fun _=>h1⟩
    ·simp [h2] at h1
     exact ⟨fun h=>absurd h (by omega),fun h=>absurd h h2⟩
   rw [← hcc]
   clear hcc
   by_cases h2 : m < k
   ·have h3 : c < 0:=hcl.2 h2
    go_wp2_with fail
    go_roundg (j - (m+1))
    case measure=>have:=Hm.out;omega
    case rel=>exact ⟨m+1,j,by have:=Hm.out;omega,hkj,hjn,rfl,by have:=Hm.out;go_num,rfl,rfl⟩
   ·have h3 : ¬ c < 0:=fun h=>h2 (hcl.1 h)
    go_wp2_with fail
    go_roundg (m - i)
    case measure=>have:=Hm.out;omega
    case rel=>exact ⟨i,m,hik,by omega,by have:=Hm.out;omega,rfl,rfl,by have:=Hm.out;congr 1;omega,rfl⟩
  ·have hiji : ¬ (i : Int) < (j : Int):=by omega
   obtain rfl : i=k:=by omega
   have hin : (i : Int) < (n : Int):=by omega
   have d1:=Hc.out i hk
   go_wp2_with fail
   refine (compare_any _ _ _ t _ (Hf.out i hk) Hu.out).mono ?_
   rintro e w' ⟨rfl,rfl⟩
   rw [Ht.out,cmpB_same]
   go_wp2_with fail
   go_ret2
   exact ⟨rfl,rfl⟩
theorem implIsGkm_ex (N : Int) (v u : Value) (vs y : List Int) (w : World) (hv : Ints w v vs) (hy : Ints w u y) :
 Calls Tryz.prog 109 #[.int .i64 N,v,u] w fun e w'=> ∃ b,e=.returned (.bool b)∧GkIs N vs y b∧Below w.heap.size w w':=by
 have HV:=Lib.hid hv
 have HY:=Lib.hid hy
 obtain ⟨pv,cv,rfl,⟨hv1,hv2⟩,hvc⟩:=hv
 obtain ⟨py,cy,rfl,⟨hy1,hy2⟩,hyc⟩:=hy
 unfold maxLen at hv2 hy2
 go_enter Tryz.func109,Tryz.ntmps109
 go_wp2_with fail
 refine (weightsOk_any _ _ y _ HY.out).mono ?_
 rintro e w1 ⟨rfl,hq1⟩
 cases ha : apOk N y with
 | false =>
   go_wp2_with fail
   go_ret
   exact ⟨false,rfl,GkIs.no1 ha,hq1.below _⟩
 | true =>
 obtain ⟨n,rfl,hn1,hn4,hyl,hyr,hyd⟩:=ap_facts ha
 have Ha:=Lib.hid ha
 have Hyl:=Lib.hid hyl
 have Hyr:=Lib.hid hyr
 have Hyd:=Lib.hid hyd
 have HQ2:=Lib.hid hq1
 clear ha hyl hyr hyd hq1
 go_wp2_with fail
 refine (implAllPerms_any (n : Int) _).mono ?_
 rintro e w3 ⟨ul,rfl,hol,hb3⟩
 rw [show allPermsL (n : Int)=permsL n by simp only [allPermsL,Int.toNat_natCast];rw [if_pos (by omega)]] at hol
 obtain ⟨L,hL⟩ : ∃ L,L=permsL n:=⟨_,rfl⟩
 have hLl : L.length=fact n:=by rw [hL];simp [permsL]
 obtain ⟨F,hF⟩ : ∃ F,F=fact n:=⟨_,rfl⟩
 have hF24 : F≤24:=by rw [hF];exact Nat.le_trans (fact_le hn4) (by decide)
 have hG:=gkN hn1 hn4
 rw [← hL] at hol
 have HRD:=Lib.hid hol.rd
 obtain ⟨f,hf1,hf2⟩:=hol.rd
 rw [hLl,← hF] at hf1 hf2
 obtain ⟨pl,cl,rfl,hcl,hcl2⟩:=hol.shape
 rw [hLl,← hF] at hcl HRD ⊢
 unfold maxLen at hcl2
 have HL:=Lib.hid hL
 have HF:=Lib.hid hF
 have HLl:=Lib.hid hLl
 have Hf1:=Lib.hid hf1
 have Hf2:=Lib.hid hf2
 have HG:=Lib.hid hG
 have HB3:=Lib.hid ((HQ2.out.below _).trans (hb3.mono (by rw [HQ2.out.size];exact Nat.le_refl _)))
 clear hol hL hLl hF hG hf1 hf2 hb3 HQ2
 by_cases hvF : vs.length=F
 case neg =>
  have hvi : ((vs.length : Int) != (F : Int))=true:=by simp;omega
  go_wp2_with fail
  go_ret
  first | exact ⟨false,rfl,GkIs.no2 (by rw [Int.toNat_natCast,← HF.out];exact hvF),HB3.out⟩ | exact .inl ⟨rfl,GkIs.no2 (by rw [Int.toNat_natCast,← HF.out];exact hvF),HB3.out⟩
 rw [hvF] at HV hvc hv1 ⊢
 have HvF:=Lib.hid hvF
 have hvi : ((F : Int) != (F : Int))=false:=by simp
 rw [Hyl.out] at HY hyc hy1 ⊢
 clear hvF
 go_wp2_with fail
 go_loopg [9,29] F (fun g s9 s29 wr=> ∃ k : Nat,k≤F∧g=F - k∧s29=.int .i64 (k : Int)∧w3=wr∧Hid (∀ j,j < k → -1000000000000≤vs.getD j 0∧vs.getD j 0≤1000000000000))
 case atStart=>exact ⟨0,Nat.zero_le _,rfl,rfl,rfl,Lib.hid fun j hj=>absurd hj (Nat.not_lt_zero _)⟩
 case round =>
  obtain ⟨k,hk,rfl,rfl,rfl,hp⟩:=hrel
  by_cases hlt : k < F
  ·obtain ⟨bv,ov,hpv,hvc'⟩:=hvc (by omega)
   subst hpv
   obtain ⟨x,hx'⟩ : ∃ x,x=vs.getD k 0:=⟨_,rfl⟩
   have c1:=cell_below HB3.out (hvc' k hlt)
   unfold iv at c1
   rw [← hx'] at c1
   have Hx:=Lib.hid hx'
   have hki : (k : Int) < (F : Int):=by omega
   have bad : ¬ (-1000000000000≤x∧x≤1000000000000)→mostB vs=false:=fun hr=>by
    unfold mostB
    exact decide_eq_false fun e=>hr (by rw [Hx.out];exact e _ (getD_mem (by rw [HvF.out];exact hlt)))
   have Bad:=Lib.hid bad
   clear hx' hvc' bad
   by_cases h1 : x < -1000000000000
   ·go_wp2_with fail
    go_ret
    first | exact ⟨false,rfl,GkIs.no3 (Bad.out (by omega)),HB3.out⟩ | exact .inl ⟨rfl,GkIs.no3 (Bad.out (by omega)),HB3.out⟩
   by_cases h2 : 1000000000000 < x
   ·go_wp2_with fail
    go_ret
    first | exact ⟨false,rfl,GkIs.no3 (Bad.out (by omega)),HB3.out⟩ | exact .inl ⟨rfl,GkIs.no3 (Bad.out (by omega)),HB3.out⟩
   go_wp2_with fail
   go_roundg (F - (k+1))
   case measure=>omega
   case rel =>
    refine ⟨k+1,by omega,rfl,by go_num,rfl,Lib.hid fun j hj=> ?_⟩
    by_cases e : j=k
    ·subst e;rw [← Hx.out];omega
    ·exact hp.out j (by omega)
  ·have hki : ¬ (k : Int) < (F : Int):=by omega
   obtain rfl : k=F:=by omega
   have Hm:=Lib.hid (show mostB vs=true by unfold mostB;exact decide_eq_true (all_of_getD fun j hj=>hp.out j (by have:=HvF.out;omega)))
   clear hp
   go_wp2_with fail
   go_loopg [10,11,12,13,14,15,42] k (fun g s10 s11 s12 s13 s14 s15 s42 wr=> ∃ x : Nat,x≤k∧g=k - x∧s42=.int .i64 (x : Int)∧Hid (∀ x' i j,x' < x→i < j→j < n→gkAt n vs y x' i j)∧Hid (Below w3.heap.size w3 wr))
   case atStart=>exact ⟨0,Nat.zero_le _,rfl,rfl,Lib.hid fun x' _ _ h=>absurd h (Nat.not_lt_zero _),Lib.hid (Below.refl _ _)⟩
   case round =>
    obtain ⟨x,hx,rfl,rfl,hp,hb⟩:=hrel
    obtain ⟨w4,rfl⟩ : ∃ x : World,x=wr:=⟨_,rfl⟩
    have Hp:=Lib.hid hp.out
    have Hb:=Lib.hid hb.out
    clear hp hb
    by_cases hxF : x < k
    ·have hxi : (x : Int) < (k : Int):=by omega
     obtain ⟨row,hrow⟩ : ∃ row,row=(permsL n).getD x []:=⟨_,rfl⟩
     have hrl : row.length=n:=by rw [hrow];exact HG.out.len x (by rw [← HF.out];exact hxF)
     have hr:=Hf2.out x hxF
     rw [HL.out,← hrow] at hr
     have hr':=hr
     obtain ⟨pr,kr,er,⟨hkr,hkr2⟩,hrc0⟩:=hr'
     unfold maxLen at hkr2
     rw [er,hrl] at hr
     rw [hrl] at hkr hrc0 er
     obtain ⟨br,orr,hpr,hrc⟩:=hrc0 (by omega)
     subst hpr
     have hf1:=Hf1.out
     obtain ⟨_,_,e0,_,hlc0⟩:=hf1
     injection e0 with e1 e2 e3
     subst e1 e3
     obtain ⟨bl,ol,hpl,hlc⟩:=hlc0 (by omega)
     subst hpl
     have d0:=hlc x hxF
     rw [er] at d0
     have d0':=cell_below Hb.out d0
     have Hr:=Lib.hid hr
     have Hrl:=Lib.hid hrl
     have Hrow:=Lib.hid hrow
     have Hrc:=Lib.hid hrc
     clear hrow hrl hr er hrc0 hrc hlc0 hlc d0 e2
     go_wp2_with fail
     go_loopg [12,13,14,15,48] n (fun g s12 s13 s14 s15 s48 wr=> ∃ j : Nat,j≤n∧g=n - j∧s48=.int .i64 (j : Int)∧Hid (∀ i' j',j' < j→i' < j'→gkAt n vs y x i' j')∧Hid (Below w3.heap.size w3 wr))
     case atStart=>exact ⟨0,Nat.zero_le _,rfl,rfl,Lib.hid fun _ j' h=>absurd h (Nat.not_lt_zero _),Hb⟩
     case round =>
      obtain ⟨j,hjn,rfl,rfl,hp1,hb1⟩:=hrel
      obtain ⟨w5,rfl⟩ : ∃ x : World,x=wr:=⟨_,rfl⟩
      have Hp1:=Lib.hid hp1.out
      have Hb1:=Lib.hid hb1.out
      clear hp1 hb1
      by_cases hj : j < n
      ·have hji : (j : Int) < (n : Int):=by omega
       go_wp2_with fail
       go_loopg [13,14,15,52] j (fun g s13 s14 s15 s52 wr=> ∃ i : Nat,i≤j∧g=j - i∧s52=.int .i64 (i : Int)∧Hid (∀ i',i' < i→gkAt n vs y x i' j)∧Hid (Below w3.heap.size w3 wr))
       case atStart=>exact ⟨0,Nat.zero_le _,rfl,rfl,Lib.hid fun i' h=>absurd h (Nat.not_lt_zero _),Hb1⟩
       case round =>
        obtain ⟨i,hij0,rfl,rfl,hp2,hb2⟩:=hrel
        obtain ⟨w6,rfl⟩ : ∃ x : World,x=wr:=⟨_,rfl⟩
        have Hp2:=Lib.hid hp2.out
        have Hb2:=Lib.hid hb2.out
        clear hp2 hb2
        by_cases hij : i < j
        ·have hiji : (i : Int) < (j : Int):=by omega
         have hin : i < n:=by omega
         obtain ⟨mi,hmi,hmin⟩:=HG.out.rng x i (by rw [← HF.out];exact hxF) hin
         obtain ⟨mj,hmj,hmjn⟩:=HG.out.rng x j (by rw [← HF.out];exact hxF) hj
         have hmne : mi ≠ mj:=fun e=>HG.out.inj x i j (by rw [← HF.out];exact hxF) hij hj (by rw [hmi,hmj,e])
         rw [← Hrow.out] at hmi hmj
         obtain ⟨o,ho⟩ : ∃ o,o=plN (swapL row i j):=⟨_,rfl⟩
         have hpl:=HG.out.plc x i j (by rw [← HF.out];exact hxF) hij hj
         rw [← Hrow.out,← ho,← HF.out] at hpl
         obtain ⟨hoF,hoL⟩:=hpl
         obtain ⟨bv,ov,hpv,hvc'⟩:=hvc (by omega)
         subst hpv
         obtain ⟨by',oy,hpy,hyc'⟩:=hyc (by omega)
         subst hpy
         obtain ⟨v1,hv1'⟩ : ∃ v1,v1=vs.getD x 0:=⟨_,rfl⟩
         obtain ⟨v2,hv2'⟩ : ∃ v2,v2=vs.getD o 0:=⟨_,rfl⟩
         obtain ⟨y1,hy1'⟩ : ∃ y1,y1=y.getD mi 0:=⟨_,rfl⟩
         obtain ⟨y2,hy2'⟩ : ∃ y2,y2=y.getD mj 0:=⟨_,rfl⟩
         have hv1b:=most_at Hm.out (k:=x) (by rw [HvF.out];exact hxF)
         have hv2b:=most_at Hm.out (k:=o) (by rw [HvF.out];exact hoF)
         have hy1b:=Hyr.out mi hmin
         have hy2b:=Hyr.out mj hmjn
         have hyne:=Hyd.out mi mj hmin hmjn hmne
         rw [← hv1'] at hv1b
         rw [← hv2'] at hv2b
         rw [← hy1'] at hy1b hyne
         rw [← hy2'] at hy2b hyne
         have hby3 : ∀ {a : Addr} {z : Value},w.cell? a=some z→w6.cell? a=some z:=fun h=>cell_below Hb2.out (cell_below HB3.out h)
         have d2 : w6.cell? ⟨br,orr+i,none⟩=some (.int .i64 (mi : Int)):=by
          have:=cell_below Hb2.out (Hrc.out i hin)
          unfold iv at this
          rwa [hmi] at this
         have d3 : w6.cell? ⟨br,orr+j,none⟩=some (.int .i64 (mj : Int)):=by
          have:=cell_below Hb2.out (Hrc.out j hj)
          unfold iv at this
          rwa [hmj] at this
         have d4 : w6.cell? ⟨bv,ov+x,none⟩=some (.int .i64 v1):=by rw [hv1'];exact hby3 (hvc' x hxF)
         have d5 : w6.cell? ⟨bv,ov+o,none⟩=some (.int .i64 v2):=by rw [hv2'];exact hby3 (hvc' o hoF)
         have d6 : w6.cell? ⟨by',oy+mi,none⟩=some (.int .i64 y1):=by rw [hy1'];exact hby3 (hyc' mi hmin)
         have d7 : w6.cell? ⟨by',oy+mj,none⟩=some (.int .i64 y2):=by rw [hy2'];exact hby3 (hyc' mj hmjn)
         have Hgk:=Lib.hid (show gkAt n vs y x i j ↔ (v1 - v2).tmod (y1 - y2)=0 by
          unfold gkAt
          rw [← Hrow.out,← ho,hmi,hmj,Int.toNat_natCast,Int.toNat_natCast,← hv1',← hv2',← hy1',← hy2'])
         have Ho:=Lib.hid ho
         have HoL:=Lib.hid hoL
         have Hr6:=Lib.hid (Hr.out.below Hb2.out)
         have HRD6:=Lib.hid (HRD.out.below Hb2.out)
         have hoi : (o : Int) < (k : Int):=by omega
         have hmii : (mi : Int) < (n : Int):=by omega
         have hmji : (mj : Int) < (n : Int):=by omega
         have hyz : ¬ y1 - y2=0:=by omega
         clear hmi hmj ho hoL hvc' hyc' hv1' hv2' hy1' hy2' hby3
         go_wp2_with fail
         refine (exchanged_any _ row i j _ Hr6.out (by rw [Hrl.out];exact hin) (by rw [Hrl.out];exact hj) (by omega) (by rw [Hrl.out];omega)).mono ?_
         rintro e w7 ⟨us,rfl,hos,hb7⟩
         have Hos:=Lib.hid hos.ints
         obtain ⟨ps,ks,rfl,_,_⟩:=hos.shape
         have d2':=cell_below hb7 d2
         have d3':=cell_below hb7 d3
         have d4':=cell_below hb7 d4
         have d5':=cell_below hb7 d5
         have d6':=cell_below hb7 d6
         have d7':=cell_below hb7 d7
         have HRD7:=Lib.hid (HRD6.out.below hb7)
         have Hb7:=Lib.hid (Hb2.out.trans (hb7.mono Hb2.out.size))
         clear hos hb7 d2 d3 d4 d5 d6 d7
         go_wp2_with fail
         refine (search_any _ _ L (swapL row i j) o _ HRD7.out Hos.out (by rw [HLl.out,← HF.out];omega) (by rw [HLl.out,← HF.out];exact hoF) (by rw [HL.out];exact HoL.out) (fun a ha=> ?_)).mono ?_
         ·rw [← HoL.out,HL.out,← ltL_ltB]
          exact HG.out.lt a o (by rwa [HLl.out] at ha) (by rw [← HF.out];exact hoF)
         rintro e w8 ⟨rfl,rfl⟩
         by_cases hz : (v1 - v2).tmod (y1 - y2)=0
         ·go_wp2_with fail
          go_quiet (fail)
          have Hb9:=Lib.hid (Below.drewN Hb7.out nq)
          go_wp2_with fail
          go_roundg (j - (i+1))
          case measure=>omega
          case rel =>
           refine ⟨i+1,by omega,rfl,by go_num,Lib.hid fun i' h1=> ?_,Hb9⟩
           by_cases e : i'=i
           ·subst e;exact Hgk.out.2 hz
           ·exact Hp2.out i' (by omega)
         ·go_wp2_with fail
          go_quiet (fail)
          have Hb9:=Lib.hid (Below.drewN Hb7.out nq)
          go_wp2_with fail
          go_ret
          first | exact ⟨false,rfl,GkIs.no4 (x:=x) (i:=i) (j:=j) (by rw [Int.toNat_natCast,← HF.out];exact hxF) hij (by rw [Int.toNat_natCast];exact hj) (by rw [Int.toNat_natCast,Hgk.out];exact hz),HB3.out.trans (Hb9.out.mono HB3.out.size)⟩ | exact .inl ⟨rfl,GkIs.no4 (x:=x) (i:=i) (j:=j) (by rw [Int.toNat_natCast,← HF.out];exact hxF) hij (by rw [Int.toNat_natCast];exact hj) (by rw [Int.toNat_natCast,Hgk.out];exact hz),HB3.out.trans (Hb9.out.mono HB3.out.size)⟩
        ·have hiji : ¬ (i : Int) < (j : Int):=by omega
         go_wp2_with fail
         go_roundg (n - (j+1))
         case measure=>omega
         case rel =>
          refine ⟨j+1,by omega,rfl,by go_num,Lib.hid fun i' j' h1 h2=> ?_,Hb2⟩
          by_cases e : j'=j
          ·subst e;exact Hp2.out i' (by omega)
          ·exact Hp1.out i' j' (by omega) h2
      ·have hji : ¬ (j : Int) < (n : Int):=by omega
       go_wp2_with fail
       go_roundg (k - (x+1))
       case measure=>omega
       case rel =>
        refine ⟨x+1,by omega,rfl,by go_num,Lib.hid fun x' i' j' h1 h2 h3=> ?_,Hb1⟩
        by_cases e : x'=x
        ·subst e;exact Hp1.out i' j' (by omega) h2
        ·exact Hp.out x' i' j' (by omega) h2 h3
    ·have hxi : ¬ (x : Int) < (k : Int):=by omega
     go_wp2_with fail
     go_ret
     refine .inr ⟨rfl,⟨fun _=>⟨Ha.out,by rw [Int.toNat_natCast,HvF.out];exact HF.out,Hm.out,fun x' i' j' h1 h2 h3=> ?_⟩,fun _=>rfl⟩,HB3.out.trans (Hb.out.mono HB3.out.size)⟩
     rw [Int.toNat_natCast] at h1 h3 ⊢
     exact Hp.out x' i' j' (by rw [← HF.out] at h1;omega) h2 h3
theorem implIsGkm_any (N : Int) (v u : Value) (vs y : List Int) (w : World) (hv : Ints w v vs) (hy : Ints w u y) :
 Calls Tryz.prog 109 #[.int .i64 N,v,u] w fun e w'=>e=.returned (.bool (Classical.epsilon (GkIs N vs y)))∧Below w.heap.size w w' :=
 (implIsGkm_ex N v u vs y w hv hy).mono fun e w' ⟨b,h1,h2,h3⟩=>⟨by rw [h1,h2.eps],h3⟩
end
end Go.Proofs.YtijadclebjcckaaGreat
