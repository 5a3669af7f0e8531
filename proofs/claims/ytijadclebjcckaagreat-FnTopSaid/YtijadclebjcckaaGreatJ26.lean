/-
  A part of the proof of FnTop (texts of one proof, joined).
-/
import Derived.Test.YtijadclebjcckaaGreatJ25
namespace Go.Proofs.YtijadclebjcckaaGreat
set_option linter.all false
set_option maxRecDepth 100000
set_option maxHeartbeats 16000000
section
open Go.RowKit Go.Shelf Go.Sort Go.Lib
theorem PuzzleProduct_any (va vb : Value) (a b : List Int) (n : Nat) (w : World) (h1 : 1≤n) (h4 : n≤4) (ha : Ints w va a) (hb : Ints w vb b) (sa : strOk a=true) (sb : strOk b=true) (hal : a.length=n) (hbl : b.length=n) (hs : sumI a=sumI b)
 (hq : ∀ q ∈ puzU n a b,pzB n q=true) (hm : (puzU n a b).length≤1000) :
 Calls Tryz.prog 7 #[va,vb] w fun e w'=> ∃ u,e=.returned (.tuple #[u,.bool true])∧RdCl w' u (finU n (puzU n a b) [])∧Below w.heap.size w w':=by
 have HAl:=Lib.hid (alike_any _ _ a b w ha hb sa sb (by rw [hal,hbl]) hs)
 obtain ⟨pa,ka,rfl,⟨m1,m2⟩,_⟩:=id ha
 obtain ⟨pb,kb,rfl,⟨m3,m4⟩,_⟩:=id hb
 have HA:=Lib.hid ha
 have HB:=Lib.hid hb
 have Hq:=Lib.hid hq
 have Hm:=Lib.hid hm
 have Hal:=Lib.hid hal
 have Hbl:=Lib.hid hbl
 rw [hal] at HAl HA m1 ⊢
 unfold maxLen at m2 m4
 clear ha hb sa sb hs hq hm hal hbl
 go_enter Tryz.func7,Tryz.ntmps7
 go_wp2_with fail
 refine HAl.out.mono ?_
 rintro e wB ⟨rfl,hqB⟩
 have HqB:=Lib.hid hqB
 clear hqB
 obtain ⟨O,hO⟩ : ∃ O : Obj,O=.cells #[.slice (some ⟨wB.heap.size,0,none⟩) 0 0] 27:=⟨_,rfl⟩
 obtain ⟨W3,hW3⟩ : ∃ W3,W3=(wB.alloc (.cells #[] 39)).alloc O:=⟨_,rfl⟩
 have hb3 : Below wB.heap.size wB W3:=by rw [hW3];exact below_alloc2 _ _ _
 have hz3 : W3.heap[wB.heap.size+1]?=some (.cells #[.slice (some ⟨wB.heap.size,0,none⟩) 0 0] 27 (0,0)):=by rw [hW3,hO];exact heap_alloc_at _ _ (by rw [size_alloc])
 have ho3 : OwnPl W3 wB.heap.size W3.heap.size (.slice (some ⟨wB.heap.size,0,none⟩) 0 0) []:=by
  rw [hW3]
  exact ((OwnPl.made0 wB).below (below_alloc _ _)).mono (Nat.le_refl _) (by rw [size_alloc,size_alloc];omega)
 have HT:=Lib.hid (tilingsU_any wB wB.heap.size (wB.heap.size+1) n (.slice pa n ka) (.slice pb b.length kb) _ a b W3 h1 h4 hb3 (Nat.le_refl _) hb3.size (by omega) hz3 ho3 (HA.out.qt HqB.out) Hal.out (HB.out.qt HqB.out) Hbl.out Hq.out Hm.out)
 have HW3:=Lib.hid (hW3.trans (congrArg (fun o=>(wB.alloc (.cells #[] 39)).alloc o) hO))
 clear hb3 hz3 ho3 hO hW3
 go_wp2_with fail
 rw [← HW3.out]
 refine HT.out.mono ?_
 rintro e w4 ⟨rfl,lo2,hE⟩
 obtain ⟨u,hu1,hu2⟩:=hE.out
 have hub:=cell_of_blk hu1 (j:=0) rfl
 have HBs:=Lib.hid hE.base
 have Hr4:=Lib.hid hu2.rd
 clear hu1 hu2 hE
 go_wp2_with fail
 go_ret2
 exact ⟨_,rfl,Hr4.out,(HqB.out.below w.heap.size).trans (HBs.out.mono (by rw [HqB.out.size];exact Nat.le_refl _))⟩
end
section
open Go.RowKit
theorem cur_new {w : World} {p : Option Addr} {n cap : Nat} (x : Int) (h : Byts w (.slice p n cap) n) : Cur (w.alloc (.cells #[.slice p n cap,.int .i64 0,.int .i64 x] 85)) w.heap.size:=by
 have h':=h
 obtain ⟨f,p',cap',e,_,hx⟩:=h'
 injection e with e1 _ e3
 subst e1 e3
 refine ⟨p,n,cap,0,x,heap_alloc_top _ _,Nat.zero_le _,h.below (below_alloc _ _),fun h0 a ha=> ?_⟩
 obtain ⟨b,off,e,hc⟩:=hx h0
 rw [e] at ha
 injection ha with ha
 subst ha
 have:=World.block_lt_of_cell? _ _ (hc 0 h0)
 dsimp only at this ⊢
 omega
theorem l1New_any (v : Value) (n : Nat) (w : World) (h : Byts w v n) :
 Calls Tryz.prog 19 #[v] w fun e w'=>e=.returned (.pointer (some ⟨w.heap.size,0,none⟩))∧Cur w' w.heap.size∧Below w.heap.size w w':=by
 have Hh:=Lib.hid h
 obtain ⟨f,p,cap,rfl,⟨hx1,hx2⟩,hxc⟩:=h
 unfold maxLen at hx2
 have Hxc:=Lib.hid hxc
 clear hxc
 go_enter Tryz.func19,Tryz.ntmps19
 go_wp2_with fail
 go_loopg [3,4] n (fun g s3 s4 wr=> ∃ (k : Nat) (x : Int),k≤n∧g=n - k∧s3=.int .i64 x∧s4=.int .i64 k∧wr=w)
 case atStart=>exact ⟨0,_,Nat.zero_le _,rfl,rfl,rfl,rfl⟩
 case round =>
  obtain ⟨k,x,hk,rfl,rfl,rfl,rfl⟩:=hrel
  by_cases hlt : k < n
  ·by_cases h4 : k < 4000
   ·obtain ⟨b,off,rfl,hc⟩:=Hxc.out (by omega)
    have c1:=hc k hlt
    have i1 : (k : Int) < (n : Int):=by omega
    have i2 : (k : Int) < 4000:=by omega
    clear hc
    go_wp2_with fail
    go_roundg (n - (k+1))
    case measure=>omega
    case rel=>exact ⟨k+1,_,by omega,rfl,rfl,by go_num,rfl⟩
   ·have i1 : (k : Int) < (n : Int):=by omega
    have i2 : ¬ (k : Int) < 4000:=by omega
    go_wp2_with fail
    go_ret
    exact ⟨rfl,cur_new x Hh.out,below_alloc _ _⟩
  ·have i1 : ¬ (k : Int) < (n : Int):=by omega
   go_wp2_with fail
   go_ret
   exact ⟨rfl,cur_new x Hh.out,below_alloc _ _⟩
def codes : Nat→List (List Nat)
 | 0=>[[]]
 | m+1=>(List.range (m+1)).flatMap fun x=>(codes m).map (x :: ·)
def cyc (x : Int) : Int:=(x+10) % 19 - 9
def cycN : Nat→Int→Int
 | 0,x=>x
 | j+1,x=>cycN j (cyc x)
theorem cyc_rng (x : Int) : -9≤cyc x∧cyc x≤9:=by unfold cyc;omega
theorem cyc_free {x : Int} (hx : -9≤x∧x≤9) : ∀ {out : List Int},out.length≤3 → ∃ j,j < 4∧cycN j x ∉ out:=by
 intro out hl
 have d01 : cycN 0 x ≠ cycN 1 x:=by simp only [cycN,cyc];omega
 have d02 : cycN 0 x ≠ cycN 2 x:=by simp only [cycN,cyc];omega
 have d03 : cycN 0 x ≠ cycN 3 x:=by simp only [cycN,cyc];omega
 have d12 : cycN 1 x ≠ cycN 2 x:=by simp only [cycN,cyc];omega
 have d13 : cycN 1 x ≠ cycN 3 x:=by simp only [cycN,cyc];omega
 have d23 : cycN 2 x ≠ cycN 3 x:=by simp only [cycN,cyc];omega
 apply Classical.byContradiction
 intro h
 have a : ∀ j,j < 4→cycN j x ∈ out:=fun j hj=>Classical.byContradiction fun e=>h ⟨j,hj,e⟩
 have a0:=a 0 (by omega)
 have a1:=a 1 (by omega)
 have a2:=a 2 (by omega)
 have a3:=a 3 (by omega)
 clear a h
 generalize cycN 0 x=c0 at *
 generalize cycN 1 x=c1 at *
 generalize cycN 2 x=c2 at *
 generalize cycN 3 x=c3 at *
 match out,hl with
 | [],_=>cases a0
 | [a],_=>simp at a0 a1;omega
 | [a,b],_=>simp at a0 a1 a2;omega
 | [a,b,c],_=>simp at a0 a1 a2 a3;omega
theorem dApart_any (k n : Nat) (w : World) (h : Cur w k) (h4 : n≤4) :
 Calls Tryz.prog 22 #[.pointer (some ⟨k,0,none⟩),.int .i64 (n : Int)] w fun e w' =>
  ∃ (u : Value) (ys : List Int),e=.returned u∧OwnI 3 w' w.heap.size w'.heap.size u ys∧ys.length=n∧ys.Nodup∧(∀ x ∈ ys,-9≤x∧x≤9)∧Cur w' k∧Frm k (k+1) w w':=by
 have Hc:=Lib.hid h
 have hk:=h.lt
 clear h
 go_enter Tryz.func22,Tryz.ntmps22
 go_wp2_with fail
 go_loopg [5] n (fun g s5 wr=> ∃ (i : Nat) (cs : List Int),i≤n∧g=n - i∧Hid (cs.length=i)∧Hid (cs.Nodup)∧Hid (∀ x ∈ cs,-9≤x∧x≤9)∧Hid (OwnI 3 wr w.heap.size wr.heap.size s5 cs)∧Hid (Cur wr k)∧Hid (Frm k (k+1) w wr))
 case atStart =>
  refine ⟨0,[],Nat.zero_le _,rfl,Lib.hid rfl,Lib.hid List.nodup_nil,Lib.hid (by simp),?_,Hc.out.below (below_alloc w _),Frm.of_below (below_alloc w _) _ _⟩
  exact OwnF.ints ((OwnF.made0 w 3 (iv [])).mono (Nat.le_refl _) (by simp))
 case round =>
  obtain ⟨i,cs,hi,rfl,hcl,hnd,hrg,ho,hcu,hf⟩:=hrel
  obtain ⟨wx,rfl⟩ : ∃ x : World,x=wr:=⟨_,rfl⟩
  have hsr:=hf.out.size
  obtain ⟨p5,k5,rfl,hk5,hk55⟩:=ho.out.shape
  have hofn:=ho.out.fn
  rw [hcl.out] at hofn hk5 ⊢
  unfold maxLen at hk55
  have Ho:=Lib.hid ho.out
  have Hofn:=Lib.hid hofn
  have Hcl:=Lib.hid hcl.out
  have Hnd:=Lib.hid hnd.out
  have Hrg:=Lib.hid hrg.out
  have Hcu:=Lib.hid hcu.out
  have Hf:=Lib.hid hf.out
  clear hcl hnd hrg ho hcu hf hofn
  by_cases hlt : i < n
  ·have hlt2 : (i : Int) < (n : Int):=by omega
   have Hb1:=Lib.hid (show i+1≤maxLen by unfold maxLen;omega)
   have Hb2:=Lib.hid (show (i+1) * 8≤140737488355328 by omega)
   go_wp2_with fail
   refine (l1Below_any k 19 _ Hcu.out (by omega) (by omega)).mono ?_
   rintro e w1 ⟨x0,rfl,hx0,hc1,hf1⟩
   have hs1:=hf1.size
   have Ho1:=Lib.hid (Ho.out.frm hf1 (Or.inr (by omega)))
   have Hofn1:=Lib.hid (Hofn.out.frm hf1 (Or.inr (by omega)))
   have Hc1:=Lib.hid hc1
   have Hf1:=Lib.hid (Hf.out.trans hf1)
   clear hc1 hf1
   rw [Hcl.out] at Ho1
   go_wp2_with fail
   go_loopg [6] 4 (fun g s6 wr=> ∃ x : Int,s6=.int .i64 x ∧ -9≤x∧x≤9∧Hid (∃ j,j < g∧cycN j x ∉ cs)∧Hid (Qt w1 wr))
   case atStart=>exact ⟨(x0 : Int) - 9,by go_num,by omega,by omega,Lib.hid (cyc_free ⟨by omega,by omega⟩ (by rw [Hcl.out];omega)),Lib.hid (Qt.refl _)⟩
   case round =>
    obtain ⟨x,rfl,hx1,hx2,hfr,hq⟩:=hrel
    obtain ⟨wy,rfl⟩ : ∃ x : World,x=wr:=⟨_,rfl⟩
    have Hfr:=Lib.hid hfr.out
    have Hq:=Lib.hid hq.out
    obtain ⟨bb,hbb⟩ : ∃ bb,bb=decide (x ∈ cs):=⟨_,rfl⟩
    have Hbb:=Lib.hid hbb
    clear hfr hq hbb
    go_wp2_with fail
    refine (l1Has_any _ cs x _ (Ho1.out.ints.qt Hq.out)).mono ?_
    rintro e w2 ⟨rfl,hq2⟩
    rw [← Hbb.out]
    have Hq2:=Lib.hid (Hq.out.trans hq2)
    clear hq2
    cases bb with
    | true =>
      have hin : x ∈ cs:=of_decide_eq_true Hbb.out.symm
      obtain ⟨j,hj,hjn⟩:=Hfr.out
      have hj0 : ∃ i,j=i+1:=by
       cases j with
       | zero=>exact absurd hin hjn
       | succ i=>exact ⟨i,rfl⟩
      obtain ⟨j',rfl⟩:=hj0
      have hcr:=cyc_rng x
      have Hc:=Lib.hid (show ∃ j,j < gk - 1∧cycN j (cyc x) ∉ cs from ⟨j',by omega,hjn⟩)
      have hcy : cyc x=(x+10) % 19 - 9:=rfl
      have hx10 : 0≤x+10:=by omega
      clear hin hjn
      go_wp2_with fail
      go_roundg (gk - 1)
      case measure=>omega
      case rel =>
       exact ⟨cyc x,by rw [hcy],hcr.1,hcr.2,Hc,Hq2⟩
    | false =>
      have Hnin:=Lib.hid (show x ∉ cs from of_decide_eq_false Hbb.out.symm)
      clear Hbb
      have Hofn2:=Lib.hid (Hofn1.out.below (Hq2.out.below _))
      have Hsq:=Lib.hid Hq2.out.size
      have hsq1 : w.heap.size≤w2.heap.size:=by rw [Hsq.out];omega
      have hsq2 : wx.heap.size≤w2.heap.size:=by rw [Hsq.out];omega
      go_wp2_with (at_builtin;go_must (refine wpList_append_F rfl (.tmp 22) (.tmp 24) 24 rfl 3 (.int .i64 0) 8 Tryz.underlying24 info_int rfl w.heap.size wx.heap.size _ i (iv cs) rfl (Hofn2.out.below (below_alloc w2 _)) (by rw [size_alloc];omega) (by rw [size_alloc];omega) _ 1 _ rfl (rd_one _ _ _ rfl) (fun j _=>rfl) Hb1.out Hb2.out ?_;intro v3 w3 ho3 hg3))
      go_roundg (n - (i+1))
      case measure=>omega
      case rel =>
       have hbx : Below w.heap.size w2 w3:=((below_alloc w2 _).mono (by omega)).trans (grownBy_below hg3 Hofn2.out.blocks (Nat.le_refl _) (by rw [size_alloc];omega))
       have hb1 : Below w.heap.size w1 w3:=(Hq2.out.below _).trans hbx
       refine ⟨i+1,cs ++ [x],by omega,rfl,Lib.hid (by rw [List.length_append,Hcl.out];rfl),Lib.hid ?_,Lib.hid ?_,Lib.hid ?_,Lib.hid (Hc1.out.keepB hb1 hk),Lib.hid (Hf1.out.thenB hb1 (Nat.le_refl _))⟩
       ·rw [List.nodup_append]
        exact ⟨Hnd.out,by simp,fun a ha b hb e=>by
         rw [List.mem_singleton] at hb
         exact Hnin.out (by rw [← hb,← e];exact ha)⟩
       ·intro z hz
        rcases List.mem_append.1 hz with hz | hz
        ·exact Hrg.out z hz
        ·rw [List.mem_singleton] at hz;omega
       ·exact OwnI.snoc1 (by rw [Hcl.out];exact ho3)
  ·obtain rfl : i=n:=by omega
   have hlt2 : ¬ (i : Int) < (i : Int):=by omega
   go_wp2_with fail
   go_ret
   first | exact ⟨_,rfl,cs,by rw [Hcl.out] at Ho;exact Ho.out,Hcl.out,Hnd.out,Hrg.out,Hcu.out,Hf.out⟩ | exact ⟨_,cs,rfl,by rw [Hcl.out] at Ho;exact Ho.out,Hcl.out,Hnd.out,Hrg.out,Hcu.out,Hf.out⟩
structure ShUp (xs : List Int) (i c m : Nat) : Prop where
 len : xs.length=i
 each : ∀ j,j < i→shAt xs j
 le : m≤c
 zero : i=0→m=c
 last : 0 < i→xs.getD (i - 1) 0=(m : Int)
 first : 0 < i→xs.getD 0 0≤(c : Int)
theorem ShUp.nil (c : Nat) : ShUp [] 0 c c:=⟨rfl,fun j h=>absurd h (Nat.not_lt_zero _),Nat.le_refl _,fun _=>rfl,fun h=>absurd h (Nat.lt_irrefl _),fun h=>absurd h (Nat.lt_irrefl _)⟩
theorem ShUp.snoc {xs : List Int} {i c m x : Nat} (h : ShUp xs i c m) (hc : c≤16) (h1 : 1≤x) (hx : x≤m) : ShUp (xs ++ [(x : Int)]) (i+1) c x:=by
 obtain ⟨hl,he,hle,hz,hla,hfi⟩:=h
 have old : ∀ j,j < i→(xs ++ [(x : Int)]).getD j 0=xs.getD j 0:=fun j hj=>by
  rw [List.getD_eq_getElem?_getD,List.getElem?_append_left (by omega),← List.getD_eq_getElem?_getD]
 have new : (xs ++ [(x : Int)]).getD i 0=(x : Int):=by
  rw [List.getD_eq_getElem?_getD,List.getElem?_append_right (by omega)]
  simp [hl]
 refine ⟨by simp [hl],fun j hj=> ?_,by omega,fun e=>absurd e (by omega),fun _=>by rw [Nat.add_sub_cancel];exact new,fun _=> ?_⟩
 ·unfold shAt
  by_cases e : j < i
  ·have:=he j e
   unfold shAt at this
   rw [old j e]
   refine ⟨this.1,this.2.1,fun h0=> ?_⟩
   rw [old (j - 1) (by omega)]
   exact this.2.2 h0
  ·obtain rfl : j=i:=by omega
   rw [new]
   refine ⟨by omega,by omega,fun h0=> ?_⟩
   rw [old (j - 1) (by omega),hla h0]
   omega
 ·by_cases e : i=0
  ·subst e
   rw [new];omega
  ·rw [old 0 (by omega)];exact hfi (by omega)
theorem ShUp.box {xs : List Int} {i r c m : Nat} (h : ShUp xs i c m) (hi : i≤r) (hr : r≤16) : bxOk xs r (r+c)=true:=by
 obtain ⟨hl,he,hle,hz,hla,hfi⟩:=h
 rw [bx_end (shOk_yes (by omega) (fun j hj=>he j (by omega))) (by omega)]
 refine decide_eq_true ?_
 by_cases e : i=0
 ·have : xs=[]:=List.eq_nil_of_length_eq_zero (by omega)
  subst this
  show (0 : Int)≤_
  omega
 ·have:=hfi (by omega)
  omega
theorem dShape_any (k r c : Nat) (w : World) (h : Cur w k) (hr : r≤7) (hc : c≤7) :
 Calls Tryz.prog 21 #[.pointer (some ⟨k,0,none⟩),.int .i64 (r : Int),.int .i64 (c : Int)] w fun e w' =>
  ∃ (u : Value) (xs : List Int),e=.returned u∧OwnI 3 w' w.heap.size w'.heap.size u xs∧bxOk xs r (r+c)=true∧Cur w' k∧Frm k (k+1) w w':=by
 have Hc:=Lib.hid h
 have hk:=h.lt
 clear h
 go_enter Tryz.func21,Tryz.ntmps21
 go_wp2_with fail
 go_loopg [7,8,9] r (fun g s7 s8 s9 wr=> ∃ (i m : Nat) (xs : List Int),i≤r∧g=r - i∧s9=.int .i64 i∧s8=.int .i64 m∧m≤c∧Hid (ShUp xs i c m)∧Hid (OwnI 3 wr w.heap.size wr.heap.size s7 xs)∧Hid (Cur wr k)∧Hid (Frm k (k+1) w wr))
 case atStart =>
  refine ⟨0,c,[],Nat.zero_le _,rfl,rfl,rfl,Nat.le_refl _,ShUp.nil c,?_,Hc.out.below (below_alloc w _),Frm.of_below (below_alloc w _) _ _⟩
  exact OwnF.ints ((OwnF.made0 w 3 (iv [])).mono (Nat.le_refl _) (by simp))
 case round =>
  obtain ⟨i,m,xs,hi,rfl,rfl,rfl,hm,hu,ho,hcu,hf⟩:=hrel
  have hsr:=hf.out.size
  by_cases hlt : i < r
  ·have hlt2 : (i : Int) < (r : Int):=by omega
   by_cases hm0 : 0 < m
   ·have hm2 : (0 : Int) < (m : Int):=by omega
    have Hm1:=Lib.hid (show (m : Int)+1=((m+1 : Nat) : Int) by omega)
    obtain ⟨p5,k5,rfl,_,_⟩:=ho.out.shape
    have hofn:=ho.out.fn
    have hml : xs.length=i:=hu.out.len
    rw [hml] at hofn ⊢
    have Ho:=Lib.hid hofn
    have Hoi:=Lib.hid (show OwnI 3 wr w.heap.size wr.heap.size (.slice p5 i k5) xs by rw [← hml];exact ho.out)
    have Hml:=Lib.hid hml
    have Hcu:=Lib.hid hcu.out
    have Hf:=Lib.hid hf.out
    have Hu:=Lib.hid hu.out
    have Hb1:=Lib.hid (show i+1≤maxLen by unfold maxLen;omega)
    have Hb2:=Lib.hid (show (i+1) * 8≤140737488355328 by omega)
    clear ho hofn hml hcu hf hu
    go_wp2_with fail
    rw [Hm1.out]
    refine (l1Below_any k (m+1) _ Hcu.out (by omega) (by omega)).mono ?_
    rintro e w1 ⟨x,rfl,hx,hc1,hf1⟩
    have hs1:=hf1.size
    have Ho1:=Lib.hid (Ho.out.frm hf1 (Or.inr (by omega)))
    have Hoi1:=Lib.hid (Hoi.out.frm hf1 (Or.inr (by omega)))
    have Hc1:=Lib.hid hc1
    have Hf1:=Lib.hid (Hf.out.trans hf1)
    clear hc1 hf1
    by_cases hx0 : x=0
    ·subst hx0
     go_wp2_with fail
     go_ret
     exact ⟨_,xs,rfl,by have:=Hoi1.out.mono (Nat.le_refl _) hs1;exact this,Hu.out.box hi (by omega),Hc1.out,Hf1.out⟩
    ·have hx2 : ¬ (x : Int)=0:=by omega
     go_wp2_with (at_builtin;go_must (refine wpList_append_F rfl (.tmp 29) (.tmp 31) 24 rfl 3 (.int .i64 0) 8 Tryz.underlying24 info_int rfl w.heap.size wr.heap.size _ i (iv xs) rfl (Ho1.out.below (below_alloc w1 _)) (by rw [size_alloc];omega) (by rw [size_alloc];omega) _ 1 _ rfl (rd_one _ _ _ rfl) (fun j _=>rfl) Hb1.out Hb2.out ?_;intro v2 w2 ho2 hg2))
     go_roundg (r - (i+1))
     case measure=>omega
     case rel =>
      have hbx : Below w.heap.size w1 w2:=((below_alloc w1 _).mono (by omega)).trans (grownBy_below hg2 Ho1.out.blocks (Nat.le_refl _) (by rw [size_alloc];omega))
      refine ⟨i+1,x,xs ++ [(x : Int)],by omega,rfl,by go_num,rfl,by omega,Hu.out.snoc (by omega) (by omega) (by omega),?_,Hc1.out.keepB hbx hk,Hf1.out.thenB hbx (Nat.le_refl _)⟩
      exact OwnI.snoc1 (by rw [Hml.out];exact ho2)
   ·have hm2 : ¬ (0 : Int) < (m : Int):=by omega
    obtain ⟨p5,k5,rfl,_,_⟩:=ho.out.shape
    go_wp2_with fail
    go_ret
    exact ⟨_,rfl,xs,ho.out,hu.out.box hi (by omega),hcu.out,hf.out⟩
  ·have hlt2 : ¬ (i : Int) < (r : Int):=by omega
   obtain ⟨p5,k5,rfl,_,_⟩:=ho.out.shape
   go_wp2_with fail
   go_ret
   exact ⟨_,rfl,xs,ho.out,hu.out.box hi (by omega),hcu.out,hf.out⟩
theorem dBox4_any (k : Nat) (w : World) (h : Cur w k) :
 Calls Tryz.prog 20 #[.pointer (some ⟨k,0,none⟩),.int .i64 4] w fun e w'=> ∃ (r n : Nat),e=.returned (.tuple #[.int .i64 (r : Int),.int .i64 (n : Int)])∧2≤n∧n≤4∧r≤n∧Cur w' k∧Frm k (k+1) w w':=by
 have Hc:=Lib.hid h
 have hk:=h.lt
 clear h
 go_enter Tryz.func20,Tryz.ntmps20
 go_wp2_with fail
 refine (l1Below_any k 3 _ Hc.out (by omega) (by omega)).mono ?_
 rintro e w1 ⟨x,rfl,hx,hc1,hf1⟩
 obtain ⟨n,hn⟩ : ∃ n,n=x+2:=⟨_,rfl⟩
 have hnz : (2 : Int)+(x : Int)=(n : Int):=by omega
 have Hc1:=Lib.hid hc1
 have Hf1:=Lib.hid hf1
 have hn2 : 2≤n:=by omega
 have hn4 : n≤4:=by omega
 have hs1:=hf1.size
 have hk1:=hc1.lt
 clear hc1 hf1 hn
 go_wp2_with fail
 try rw [hnz]
 clear hnz
 refine (l1Once_any k 12 _ Hc1.out (by omega) (by omega)).mono ?_
 rintro e w2 ⟨b,rfl,hc2,hf2⟩
 have Hc2:=Lib.hid hc2
 have Hf2:=Lib.hid (Hf1.out.trans hf2)
 have hk2:=hc2.lt
 clear hc2 hf2
 cases b with
 | true =>
   have hb3:=below_alloc w2 (.cells #[.int .i64 0,.int .i64 (n : Int)] 3)
   have ho3 : Ints (w2.alloc (.cells #[.int .i64 0,.int .i64 (n : Int)] 3)) (.slice (some ⟨w2.heap.size,0,none⟩) 2 2) [0,(n : Int)]:=by
    have z0 : (w2.alloc (.cells #[.int .i64 0,.int .i64 (n : Int)] 3)).heap[w2.heap.size]?=some (.cells #[.int .i64 0,.int .i64 (n : Int)] 3 (0,0)):=heap_alloc_top _ _
    refine ⟨_,_,rfl,⟨Nat.le_refl _,by unfold maxLen;decide⟩,fun _=>⟨w2.heap.size,0,rfl,fun j hj=> ?_⟩⟩
    match j,hj with
    | 0,_=>exact cell_of_blk z0 (j:=0) rfl
    | 1,_=>exact cell_of_blk z0 (j:=1) rfl
   have Hb3:=Lib.hid hb3
   have Ho3:=Lib.hid ho3
   clear hb3 ho3
   go_wp2_with fail
   refine (l1PickInt_any k _ [0,(n : Int)] _ (Hc2.out.below Hb3.out) Ho3.out (fun p n' c e a ha=> ?_) (by show 1≤2;omega) (by show 2≤256;omega)).mono ?_
   ·injection e with e1 e2 e3
    rw [← e1] at ha
    injection ha with ha
    rw [← ha]
    show w2.heap.size ≠ k
    omega
   rintro e w4 ⟨x,hx,rfl,hc4,hf4⟩
   have Hc4:=Lib.hid hc4
   have Hf4:=Lib.hid ((Hf2.out.thenB (Hb3.out.mono (Hf2.out.size)) (Nat.le_refl _)).trans hf4)
   have Hx:=Lib.hid hx
   clear hc4 hf4 hx
   go_wp2_with fail
   go_ret2
   have hx:=Hx.out
   simp only [List.mem_cons,List.not_mem_nil,or_false] at hx
   rcases hx with rfl | rfl
   ·exact ⟨0,n,rfl,hn2,hn4,by omega,Hc4.out,Hf4.out⟩
   ·exact ⟨n,n,rfl,hn2,hn4,by omega,Hc4.out,Hf4.out⟩
 | false =>
   obtain ⟨m,hm⟩ : ∃ m,m+1=n:=⟨n - 1,by omega⟩
   have hmz : (n : Int) - 1=(m : Int):=by omega
   have hm1 : 1≤m:=by omega
   have hmm : m≤256:=by omega
   have Hm:=Lib.hid hm
   clear hm
   go_wp2_with fail
   try rw [hmz]
   clear hmz
   refine (l1Below_any k m _ Hc2.out hm1 hmm).mono ?_
   rintro e w4 ⟨x,rfl,hx,hc4,hf4⟩
   have Hc4:=Lib.hid hc4
   have Hf4:=Lib.hid (Hf2.out.trans hf4)
   have hx1 : 1+(x : Int)=((x+1 : Nat) : Int):=by omega
   have Hx1:=Lib.hid hx1
   clear hc4 hf4 hx1
   go_wp2_with fail
   go_ret2
   have:=Hm.out
   exact ⟨x+1,n,by rw [← Hx1.out];rfl,hn2,hn4,by omega,Hc4.out,Hf4.out⟩
theorem results_tmp5 {fn : Func} {t u v x y : Tmp} (h : fn.results = #[.tmp t,.tmp u,.tmp v,.tmp x,.tmp y]) (tmps : Array Value) (P : Program) (w : World) :
 (results fn tmps).run P w=.ok (.tuple #[tmps.getD t undef,tmps.getD u undef,tmps.getD v undef,tmps.getD x undef,tmps.getD y undef]) w:=by
 simp [results,h]
theorem DrawWeights_any (v : Value) (l : Nat) (w : World) (h : Byts w v l) :
 Calls Tryz.prog 5 #[v] w fun e w' =>
  ∃ (u1 u2 u3 : Value) (xs zs ys : List Int) (k n : Nat),e=.returned (.tuple #[u1,u2,.int .i64 (k : Int),.int .i64 (n : Int),u3])∧Ints w' u1 xs∧Ints w' u2 zs∧Ints w' u3 ys∧bxOk xs k n=true∧bxOk zs k n=true∧ys.length=n∧ys.Nodup∧(∀ y ∈ ys,-9≤y∧y≤9)∧2≤n∧n≤4∧k≤n∧Below w.heap.size w w':=by
 have Hh:=Lib.hid h
 obtain ⟨_,_,cap,rfl,_⟩:=h
 go_enter Tryz.func5,Tryz.ntmps5
 go_wp2_with fail
 refine (l1New_any _ l _ Hh.out).mono ?_
 rintro e w2 ⟨rfl,hc2,hb2⟩
 have HC2:=Lib.hid hc2
 have HB2:=Lib.hid hb2
 have hk2:=hc2.lt
 clear hc2 hb2
 go_wp2_with fail
 refine (dBox4_any w.heap.size _ HC2.out).mono ?_
 rintro e w3 ⟨k,n,rfl,hn2,hn4,hkn,hc3,hf3⟩
 have HC3:=Lib.hid hc3
 have HB3:=Lib.hid (HB2.out.trans (hf3.below (Nat.le_refl _) (by omega)))
 have hs3:=hf3.size
 obtain ⟨m,hm⟩ : ∃ m,k+m=n:=⟨n - k,by omega⟩
 have hmz : (n : Int) - (k : Int)=(m : Int):=by omega
 have Hmz:=Lib.hid hmz
 have Hm:=Lib.hid hm
 have hk7 : k≤7:=by omega
 have hm7 : m≤7:=by omega
 clear hc3 hf3 hm
 go_wp2_with fail
 try rw [hmz]
 clear hmz
 refine (dShape_any w.heap.size k m _ HC3.out hk7 hm7).mono ?_
 rintro e w4 ⟨u1,xs,rfl,ho1,hx1,hc4,hf4⟩
 have HX4:=Lib.hid ho1
 have HBX:=Lib.hid (show bxOk xs k n=true by rw [← Hm.out];exact hx1)
 have HC4:=Lib.hid hc4
 have HB4:=Lib.hid (HB3.out.trans (hf4.below (Nat.le_refl _) (by omega)))
 have hs4:=hf4.size
 clear ho1 hx1 hc4 hf4
 have hmz:=Hmz.out
 go_wp2_with fail
 try rw [hmz]
 clear hmz
 refine (dShape_any w.heap.size k m _ HC4.out hk7 hm7).mono ?_
 rintro e w5 ⟨u2,zs,rfl,ho2,hx2,hc5,hf5⟩
 have HZ5:=Lib.hid ho2
 have HX5:=Lib.hid (HX4.out.frm hf5 (Or.inr (by omega)))
 have HBZ:=Lib.hid (show bxOk zs k n=true by rw [← Hm.out];exact hx2)
 have HC5:=Lib.hid hc5
 have HB5:=Lib.hid (HB4.out.trans (hf5.below (Nat.le_refl _) (by omega)))
 have hs5:=hf5.size
 clear ho2 hx2 hc5 hf5
 go_wp2_with fail
 refine (dApart_any w.heap.size n _ HC5.out (by omega)).mono ?_
 rintro e w6 ⟨u3,ys,rfl,ho4,hl4,hd4,hr4,hc6,hf6⟩
 have HY6:=Lib.hid ho4
 have HL:=Lib.hid hl4
 have HD:=Lib.hid hd4
 have HR:=Lib.hid hr4
 have HX6:=Lib.hid (HX5.out.frm hf6 (Or.inr (by omega)))
 have HZ6:=Lib.hid (HZ5.out.frm hf6 (Or.inr (by omega)))
 have HB6:=Lib.hid (HB5.out.trans (hf6.below (Nat.le_refl _) (by omega)))
 clear ho4 hl4 hd4 hr4 hc6 hf6
 go_wp2_with fail
 (try simp only [Exit.inBlock,Exit.then])
 refine bodyPost_ret (results_tmp5 rfl _ _ _) rfl ?_
 exact ⟨u1,u2,u3,xs,zs,ys,k,n,rfl,HX6.out.ints,HZ6.out.ints,HY6.out.ints,HBX.out,HBZ.out,HL.out,HD.out,HR.out,hn2,hn4,hkn,HB6.out⟩
theorem StringOfShape0_any (v : Value) (sh : List Int) (k n : Nat) (w : World) (h : Ints w v sh) (hx : bxOk sh k n=true) (hkn : k≤n) (hn1 : 1≤n) (hn7 : n≤7) :
 Calls Tryz.prog 8 #[v,.int .i64 (k : Int),.int .i64 (n : Int)] w (RetI w (gsL sh k n)):=by
 have Hh:=Lib.hid h
 have Hx:=Lib.hid hx
 have Hr:=Lib.hid (bx_facts hx hkn)
 have hmk:=run_make_row' (P:=Tryz.prog) 24 3 (.int .i64 0) 8 Tryz.underlying24 info_int rfl .i64 .i64 n (by omega) (by omega)
 have Hmk:=Lib.hid hmk
 obtain ⟨p,cap,rfl,⟨hx1,hx2⟩,hxc⟩:=h
 unfold maxLen at hx2
 clear hx hxc hmk
 go_enter Tryz.func8,Tryz.ntmps8
 go_wp2_with fail
 refine (GrassmannianPerm_any _ sh k n _ Hh.out Hx.out hkn (by omega) hn7).mono ?_
 rintro e w1 ⟨u,rfl,hou,hb1⟩
 obtain ⟨N,hN⟩ : ∃ N,N=(gpW sh k n).length:=⟨_,rfl⟩
 have hkN : k≤N:=by rw [hN];unfold gpW;rw [List.length_append,gpA_length];omega
 have hN1 : 1≤N:=by
  rw [hN]
  unfold gpW
  rw [List.length_append,gpA_length]
  by_cases e : k=0
  ·subst e
   have e0 : gpA sh 0 0=[]:=rfl
   rw [e0]
   have : (gpB [] n).length=n:=by
    unfold gpB
    rw [List.length_map,List.filter_eq_self.2 (fun x _=>by simp)]
    simp
   omega
  ·omega
 have hN14 : N≤14:=by rw [hN];unfold gpW;rw [List.length_append,gpA_length];have:=gpB_len (gpA sh k k) n;omega
 obtain ⟨A,hA⟩ : ∃ A,A=gpA sh k k:=⟨_,rfl⟩
 have hAl : A.length=k:=by rw [hA,gpA_length]
 have hAt : (gpW sh k n).take k=A:=by
  unfold gpW
  rw [← hA,List.take_append_of_le_length (by rw [hAl];exact Nat.le_refl _),List.take_of_length_le (by rw [hAl];exact Nat.le_refl _)]
 have hAr : ∀ t,t < k → ∃ m : Nat,A.getD t 0=(m : Int)∧m < n:=fun t ht=>by
  have a:=Hr.out (k - 1 - t) (by omega)
  rw [hA,gpA_getD ht]
  exact ⟨((t : Int)+sh.getD (k - 1 - t) 0).toNat,by omega,by omega⟩
 have hI:=hou.ints
 obtain ⟨pu,ku,eu,hku,hku2⟩:=hou.shape
 rw [← hN] at eu hku
 unfold maxLen at hku2
 subst eu
 rw [hN] at hI
 obtain ⟨b,off,hpb,hcw⟩ : ∃ b off,pu=some ⟨b,off,none⟩ ∧ ∀ t,t < k→w1.cell? ⟨b,off+t,none⟩=some (iv A t):=by
  obtain ⟨_,_,e,_,hc0⟩:=hI
  injection e with e1 e2 e3
  subst e1 e3
  obtain ⟨b,off,hpb,hc⟩:=hc0 (by omega)
  refine ⟨b,off,hpb,fun t ht=> ?_⟩
  rw [hc t (by omega)]
  have : (gpW sh k n).getD t 0=A.getD t 0:=by
   rw [← hAt,List.getD_eq_getElem?_getD,List.getD_eq_getElem?_getD,List.getElem?_take,if_pos ht]
  show some (Value.int .i64 ((gpW sh k n).getD t 0))=some (Value.int .i64 (A.getD t 0))
  rw [this]
 have HA:=Lib.hid hA
 have HAl:=Lib.hid hAl
 have HAr:=Lib.hid hAr
 have HB1:=Lib.hid hb1
 subst hpb
 have Hc:=Lib.hid hcw
 have keq:=Lib.run_eql_slice_nil (P:=Tryz.prog) w1 24 3 (some ⟨b,off,none⟩) N ku 0 0 Tryz.underlying24
 have hmk:=Hmk.out
 clear hou hb1 hI hA hAl hAt hAr hN hcw
 have hki : (k : Int)≤(ku : Int):=by omega
 go_wp2_with fail
 clear keq hmk
 go_loopg [10,23] k (fun g s10 s23 wr=> ∃ t : Nat,t≤k∧g=k - t∧s23=.int .i64 t∧Hid (Below w1.heap.size w1 wr)∧Hid (wr.rowIs w1.heap.size 3 n (fun j=>.int .i64 (gsK A t j))))
 case atStart =>
  refine ⟨0,Nat.zero_le _,rfl,rfl,Lib.hid (below_alloc _ _),Lib.hid ?_⟩
  exact (World.rowIs_made w1 (.int .i64 0) n 3).congr fun j _=>by simp [gsK]
 case round =>
  obtain ⟨t,ht,rfl,rfl,hbw,hrow⟩:=hrel
  by_cases hlt : t < k
  ·obtain ⟨m,hm,hmn⟩:=HAr.out t hlt
   have c1 : wr.cell? ⟨b,off+t,none⟩=some (.int .i64 (m : Int)):=by
    rw [hbw.out.cell (p:=⟨b,off+t,none⟩) (World.block_lt_of_cell? _ _ (Hc.out t hlt)),Hc.out t hlt];simp only [iv,hm]
   obtain ⟨z,c2⟩ : ∃ z,wr.cell? ⟨w1.heap.size,m,none⟩=some (.int .i64 z):=⟨_,hrow.out.cell hmn⟩
   have c3:=hrow.out.frozen m
   have i1 : (t : Int) < (k : Int):=by omega
   have i2 : (m : Int) < (n : Int):=by omega
   have Hm:=Lib.hid hm
   have Hrow:=Lib.hid hrow.out
   have Hbw:=Lib.hid hbw.out
   clear hm hrow hbw
   go_wp2_with fail
   go_roundg (k - (t+1))
   case measure=>omega
   case rel =>
    refine ⟨t+1,by omega,rfl,by go_num,Lib.hid (Hbw.out.setCell (Nat.le_refl _) _),Lib.hid ((Hrow.out.set m _).congr fun j hj=> ?_)⟩
    rw [gsK_succ (by rw [HAl.out];exact hlt),Hm.out]
    by_cases e : j=m
    ·subst e;simp
    ·simp [e,show ¬ (j : Int)=(m : Int) by omega]
  ·obtain rfl : t=k:=by omega
   have i1 : ¬ (t : Int) < (t : Int):=by omega
   have ho:=rowIs_ints (xs:=gsL sh t n) (by rw [gsL_length];exact hrow.out.congr fun j hj=>by rw [iv,gsL_getD hj,HA.out]) (by rw [gsL_length];unfold maxLen;omega)
   rw [gsL_length] at ho
   have Ho:=Lib.hid (ho.mono HB1.out.size (Nat.le_refl _))
   clear ho hrow
   go_wp2_with fail
   go_ret
   exact ⟨_,rfl,Ho.out,HB1.out.trans (hbw.out.mono HB1.out.size)⟩
theorem parts_same (v1 v2 : Value) (cs : List Cls) (w : World) (h1 : RdCl w v1 cs) (h2 : RdCl w v2 cs) :
 Calls Tryz.prog 12 #[v1,v2] w fun e w'=>e=.returned (.bool true)∧Qt w w':=by
 obtain ⟨f,hs1,hf⟩:=h1
 obtain ⟨g,hs2,hg⟩:=h2
 obtain ⟨p,cap,rfl,⟨hx1,hx⟩,hxc⟩:=hs1.two
 obtain ⟨q,cap',rfl,⟨hy1,hy⟩,hyc⟩:=hs2.two
 unfold maxLen at hx hy
 obtain ⟨N,hN⟩ : ∃ N,N=cs.length:=⟨_,rfl⟩
 have HN:=Lib.hid hN
 rw [← hN] at hx1 hy1 hxc hyc hf hg ⊢
 have hz : ((N : Int) != (N : Int))=false:=by simp
 have Hf:=Lib.hid hf
 have Hg:=Lib.hid hg
 have Hxc:=Lib.hid hxc
 have Hyc:=Lib.hid hyc
 clear hf hg hs1 hs2 hxc hyc hN
 go_enter Tryz.func12,Tryz.ntmps12
 go_wp2_with fail
 go_loopg [5] N (fun n i wr=> ∃ k : Nat,k≤N∧n=N - k∧i=.int .i64 k∧Hid (Qt w wr))
 case atStart=>exact ⟨0,Nat.zero_le _,rfl,rfl,Lib.hid (Qt.refl _)⟩
 case round =>
  obtain ⟨k,hk,rfl,rfl,hq⟩:=hrel
  obtain ⟨wx,rfl⟩ : ∃ x : World,x=wr:=⟨_,rfl⟩
  have HQ:=Lib.hid hq.out
  clear hq
  by_cases hlt : k < N
  ·have hlti : (k : Int) < (N : Int):=by omega
   obtain ⟨b,rfl,hc⟩:=Hxc.out (by omega)
   obtain ⟨b',rfl,hc'⟩:=Hyc.out (by omega)
   obtain ⟨a0,a1⟩:=hc k hlt
   obtain ⟨d0,d1⟩:=hc' k hlt
   have c0:=HQ.out.cell a0
   have c1:=HQ.out.cell a1
   have c2:=HQ.out.cell d0
   have c3:=HQ.out.cell d1
   have i1:=(Hf.out k hlt).qt HQ.out
   have i2:=(Hg.out k hlt).qt HQ.out
   obtain ⟨y1,hy1'⟩ : ∃ y,y=f k:=⟨_,rfl⟩
   obtain ⟨y2,hy2'⟩ : ∃ y,y=g k:=⟨_,rfl⟩
   rw [← hy1'] at c0 i1
   rw [← hy2'] at c2 i2
   obtain ⟨c,hcc⟩ : ∃ c,c=(cs.getD k clD).2:=⟨_,rfl⟩
   obtain ⟨xs,hxx⟩ : ∃ xs,xs=(cs.getD k clD).1:=⟨_,rfl⟩
   rw [← hcc] at c1 c3
   rw [← hxx] at i1 i2
   have hq : ∀ m,Calls Tryz.prog 40 #[y1,y2] (wx.drewN m) fun e w'=>e=.returned (.bool true)∧Qt (wx.drewN m) w':=fun m =>
    (lawInts_any y1 y2 xs xs (wx.drewN m) (i1.drewN m) (i2.drewN m)).mono fun e w' ⟨h1,h2⟩=>⟨by rw [h1];simp,h2⟩
   have Hq:=Lib.hid hq
   clear hq
   have hcne : (c != c)=false:=by simp
   clear hc hc' a0 a1 d0 d1 i1 i2 hy1' hy2' hcc hxx
   go_wp2_with fail
   go_quiet (first | (go_at_call 40;refine quiet_q (Hq.out _)))
   go_wp2_with fail
   go_roundg (N - (k+1))
   case measure=>omega
   case rel=>exact ⟨k+1,by omega,rfl,by go_num,Lib.hid (HQ.out.drewN nq)⟩
  ·have hlti : ¬ (k : Int) < (N : Int):=by omega
   go_wp2
   go_ret
   exact ⟨rfl,HQ.out⟩
def EsSt (w : World) (lo : Nat) (vS : Value) (G : List (List Int)) (sv : Nat→Value) : Prop :=
 OwnF w lo w.heap.size 24 vS G.length sv ∧ ∀ q,q < G.length→OwnI 3 w lo w.heap.size (sv q) (G.getD q [])
theorem EsSt.below {w w' : World} {lo : Nat} {vS : Value} {G : List (List Int)} {sv : Nat→Value} (h : EsSt w lo vS G sv) (hb : Below w.heap.size w w') : EsSt w' lo vS G sv :=
 ⟨(h.1.below hb).mono (Nat.le_refl _) hb.size,fun q hq=>((h.2 q hq).below hb).mono (Nat.le_refl _) hb.size⟩
theorem OwnF.kind' {T : TypeId} {w : World} {lo hi : Nat} {v : Value} {n : Nat} {f : Nat→Value} (h : OwnF w lo hi T v n f) : ∀ g,v.ownBlock=some g → ∃ c fz,w.heap[g]?=some (.cells c T fz):=by
 obtain ⟨xs,ho,_⟩:=h
 exact Lib.ownsRow_kind ho.1
theorem EsSt.grown {w w' : World} {lo lo' hi' n : Nat} {vS v : Value} {G : List (List Int)} {sv : Nat→Value} {F : Nat→Nat→Value} (h : EsSt w lo vS G sv) (g1 : OwnS w lo' hi' 39 2 v n F) (hg : w.grownBy w' v.ownBlock) : EsSt w' lo vS G sv :=
 ⟨(h.1.grown hg fun k hk e=>ne_of_kinds (g1.kind k e) (OwnF.kind' h.1 k hk) (by decide)).mono (Nat.le_refl _) hg.size,
  fun q hq=>(show OwnI 3 w' lo w.heap.size (sv q) (G.getD q []) from
   ⟨ownsRow_of_block (h.2 q hq).1 fun k hk=>hg.block k (Own.block (h.2 q hq) hk).2.2 fun e=>ne_of_kinds (g1.kind k e.symm) (OwnI.kind (h.2 q hq) k hk) (by decide),(h.2 q hq).2⟩).mono (Nat.le_refl _) hg.size⟩
def EsOut (w : World) (lo : Nat) (v : Value) (cs : List Cls) (G : List (List Int)) (sv : Nat→Value) (b : Nat) : Prop :=
 ∃ ix : Nat→Nat,OwnS w lo w.heap.size 39 2 v cs.length (clF cs fun t=>sv (ix t))∧(∀ t,t < cs.length→ix t < b∧(cs.getD t clD).1=G.getD (ix t) [])∧(∀ s t,s < t→t < cs.length→ix s < ix t)∧cs.length≤b
theorem EsOut.below {w w' : World} {lo : Nat} {v : Value} {cs : List Cls} {G : List (List Int)} {sv : Nat→Value} {b : Nat} (h : EsOut w lo v cs G sv b) (hb : Below w.heap.size w w') : EsOut w' lo v cs G sv b:=by
 obtain ⟨ix,h1,h2⟩:=h
 exact ⟨ix,(h1.below hb).mono (Nat.le_refl _) hb.size,h2⟩
theorem EsOut.more {w : World} {lo : Nat} {v : Value} {cs : List Cls} {G : List (List Int)} {sv : Nat→Value} {b b' : Nat} (h : EsOut w lo v cs G sv b) (hb : b≤b') : EsOut w lo v cs G sv b':=by
 obtain ⟨ix,h1,h2,h3,h4⟩:=h
 exact ⟨ix,h1,fun t ht=>⟨Nat.lt_of_lt_of_le (h2 t ht).1 hb,(h2 t ht).2⟩,h3,Nat.le_trans h4 hb⟩
theorem EsOut.snoc {w' : World} {lo : Nat} {v' : Value} {cs : List Cls} {G : List (List Int)} {sv : Nat→Value} {jx : Nat→Nat} {b : Nat} {c : Int}
 (h2 : ∀ t,t < cs.length→jx t < b∧(cs.getD t clD).1=G.getD (jx t) []) (h3 : ∀ s t,s < t→t < cs.length→jx s < jx t) (h4 : cs.length≤b)
 (hv : OwnS w' lo w'.heap.size 39 2 v' (cs.length+1) (fun k=>if k < cs.length then clF cs (fun t=>sv (jx t)) k else fun j=>match j with | 0=>sv b | _=>.int .i64 c)) :
 EsOut w' lo v' (cs ++ [(G.getD b [],c)]) G sv (b+1):=by
 refine ⟨fun t=>if t < cs.length then jx t else b,?_,fun t ht=> ?_,fun s t hst ht=> ?_,by simp;omega⟩
 ·rw [List.length_append]
  refine hv.congr fun i hi j hj=> ?_
  by_cases h : i < cs.length
  ·rw [if_pos h]
   unfold clF
   rw [OwnCd.getD_snoc,if_pos h]
   have : j=0 ∨ j=1:=by omega
   rcases this with rfl | rfl
   ·show sv (jx i)=sv (if i < cs.length then jx i else b)
    rw [if_pos h]
   ·rfl
  ·have e : i=cs.length:=by have : i < cs.length+1:=hi;omega
   rw [if_neg h]
   unfold clF
   rw [OwnCd.getD_snoc,if_neg h,if_pos e]
   have : j=0 ∨ j=1:=by omega
   rcases this with rfl | rfl
   ·show sv b=sv (if i < cs.length then jx i else b)
    rw [if_neg h]
   ·rfl
 ·rw [List.length_append] at ht
  simp only [List.length_singleton] at ht
  rw [OwnCd.getD_snoc]
  by_cases h : t < cs.length
  ·simp only [h,if_true]
   exact ⟨Nat.lt_succ_of_lt (h2 t h).1,(h2 t h).2⟩
  ·have e : t=cs.length:=by omega
   simp only [h,if_false]
   rw [if_pos e]
   exact ⟨Nat.lt_succ_self _,rfl⟩
 ·rw [List.length_append] at ht
  simp only [List.length_singleton] at ht
  simp only [show s < cs.length by omega,if_true]
  by_cases h : t < cs.length
  ·simp only [h,if_true]
   exact h3 s t hst h
  ·simp only [h,if_false]
   exact (h2 s (by omega)).1
theorem EsOut.own {w : World} {lo : Nat} {vS v : Value} {cs : List Cls} {G : List (List Int)} {sv : Nat→Value} {b : Nat} (h : EsOut w lo v cs G sv b) (hb : b≤G.length) (hs : EsSt w lo vS G sv)
 (hd : ∀ i j,i < j→j < G.length → ∀ k,(sv i).ownBlock=some k→(sv j).ownBlock ≠ some k) : OwnPd w lo w.heap.size v cs:=by
 obtain ⟨ix,h1,h2,h3,h4⟩:=h
 refine ⟨fun t=>sv (ix t),h1,fun t ht=> ?_,fun s t hst ht k hk=> ?_⟩
 ·rw [(h2 t ht).2]
  exact hs.2 _ (Nat.lt_of_lt_of_le (h2 t ht).1 hb)
 ·exact hd _ _ (h3 s t hst ht) (Nat.lt_of_lt_of_le (h2 t ht).1 hb) k hk
def esT (k n : Nat) (L : List Cls) (sh : List Int) : List Cls:=(L.filter fun x=>decide (x.1=trimL (gpW sh k n))).map fun x=>(sh,x.2)
def esA (k n : Nat) (L : List Cls) (i : Nat) : List Cls:=((ishs k (n - k)).take i).flatMap (esT k n L)
def esB (k n : Nat) (L : List Cls) (i j : Nat) : List Cls:=esA k n L i ++ esT k n (L.take j) ((ishs k (n - k)).getD i [])
theorem esB_zero (k n : Nat) (L : List Cls) (i : Nat) : esB k n L i 0=esA k n L i:=by simp [esB,esT]
theorem esB_all {k n i : Nat} (L : List Cls) (h : i < (ishs k (n - k)).length) : esB k n L i L.length=esA k n L (i+1):=by
 unfold esB esA
 rw [List.take_length,List.take_add_one,List.getElem?_eq_getElem h,List.flatMap_append,List.getD_eq_getElem?_getD,List.getElem?_eq_getElem h]
 simp
theorem esA_all (k n : Nat) (L : List Cls) : esA k n L (ishs k (n - k)).length=impP k n L:=by unfold esA;rw [List.take_length];rfl
theorem esT_step {k n : Nat} {L : List Cls} {j : Nat} (sh : List Int) (h : j < L.length) : esT k n (L.take (j+1)) sh=esT k n (L.take j) sh ++ if (L.getD j clD).1=trimL (gpW sh k n) then [(sh,(L.getD j clD).2)] else []:=by
 unfold esT
 rw [take_snocC h,List.filter_append,List.map_append]
 congr 1
 by_cases e : (L.getD j clD).1=trimL (gpW sh k n)
 ·rw [if_pos e,List.filter_cons_of_pos (by simpa using e)];rfl
 ·rw [if_neg e,List.filter_cons_of_neg (by simpa using e)];rfl
theorem esB_no {k n : Nat} {L : List Cls} {i j : Nat} (h : j < L.length) (e : ¬ (L.getD j clD).1=trimL (gpW ((ishs k (n - k)).getD i []) k n)) : esB k n L i (j+1)=esB k n L i j:=by
 unfold esB
 rw [esT_step _ h,if_neg e,List.append_nil]
theorem esB_yes {k n : Nat} {L : List Cls} {i j : Nat} (h : j < L.length) (e : (L.getD j clD).1=trimL (gpW ((ishs k (n - k)).getD i []) k n)) : esB k n L i (j+1)=esB k n L i j ++ [((ishs k (n - k)).getD i [],(L.getD j clD).2)]:=by
 unfold esB
 rw [esT_step _ h,if_pos e,List.append_assoc]
theorem esT_once {k n : Nat} {L P : List Cls} (hs : ShpL k n L P) {j : Nat} (sh : List Int) (h : j < L.length) (e : (L.getD j clD).1=trimL (gpW sh k n)) : esT k n (L.take j) sh=[]:=by
 unfold esT
 rw [List.map_eq_nil_iff,List.filter_eq_nil_iff]
 intro x hx hxe
 have hxe' : x.1=trimL (gpW sh k n):=by simpa using hxe
 obtain ⟨t,ht,rfl⟩:=List.getElem_of_mem hx
 have htj : t < j:=by rw [List.length_take] at ht;omega
 have hn:=List.pairwise_iff_getElem.1 hs.nodup t j (by simp;omega) (by simpa using h) htj
 refine hn ?_
 rw [List.getElem_map,List.getElem_map]
 have e1 : (L.take j)[t]=L[t]:=by rw [List.getElem_take]
 have e3 : L.getD j clD=L[j]:=by rw [List.getD_eq_getElem?_getD,List.getElem?_eq_getElem h];rfl
 rw [e1] at hxe'
 rw [e3] at e
 rw [hxe',e]
def esN (k n : Nat) (L : List Cls) (i j : Nat) : Nat:=if esT k n (L.take j) ((ishs k (n - k)).getD i [])=[] then i else i+1
theorem esN_zero (k n : Nat) (L : List Cls) (i : Nat) : esN k n L i 0=i:=by unfold esN;rw [if_pos (by simp [esT])]
theorem esN_le (k n : Nat) (L : List Cls) (i j : Nat) : esN k n L i j≤i+1:=by unfold esN;split <;> omega
theorem esN_no {k n : Nat} {L : List Cls} {i j : Nat} (h : j < L.length) (e : ¬ (L.getD j clD).1=trimL (gpW ((ishs k (n - k)).getD i []) k n)) : esN k n L i (j+1)=esN k n L i j:=by
 unfold esN
 rw [esT_step _ h,if_neg e,List.append_nil]
theorem esN_yes {k n : Nat} {L P : List Cls} (hs : ShpL k n L P) {i j : Nat} (h : j < L.length) (e : (L.getD j clD).1=trimL (gpW ((ishs k (n - k)).getD i []) k n)) : esN k n L i j=i∧esN k n L i (j+1)=i+1:=by
 unfold esN
 rw [esT_step _ h,if_pos e,if_pos (esT_once hs _ h e),if_neg (by simp)]
 exact ⟨rfl,rfl⟩
def RetPB (w : World) (r : List Cls × Bool) (e : Ending) (w' : World) : Prop :=
 ∃ u,e=.returned (.tuple #[u,.bool r.2])∧OwnPd w' w.heap.size w'.heap.size u r.1∧Below w.heap.size w w'
theorem retPB_no {w w' : World} (hb : Below w.heap.size w w') : RetPB w ([],false) (.returned (.tuple #[.slice none 0 0,.bool false])) w':=⟨_,rfl,OwnPd.nil _ _ _,hb⟩
theorem OwnI.grownP {w w' : World} {lo hi lo' hi' n : Nat} {v y : Value} {ys : List Int} {F : Nat→Nat→Value} (h : OwnI 3 w lo hi y ys) (g1 : OwnS w lo' hi' 39 2 v n F) (hg : w.grownBy w' v.ownBlock) : OwnI 3 w' lo hi y ys :=
 ⟨ownsRow_of_block h.1 fun k hk=>hg.block k (Own.block h hk).2.2 fun e=>ne_of_kinds (g1.kind k e.symm) (OwnI.kind h k hk) (by decide),h.2⟩
theorem box_pow {k n : Nat} (hk : k≤n) (h4 : n≤4) : (n - k+1) ^ k≤1000000 :=
 Nat.le_trans (Nat.pow_le_pow_left (show n - k+1≤5 by omega) k) (Nat.le_trans (Nat.pow_le_pow_right (by omega) (show k≤4 by omega)) (by decide))
theorem implShapes_any (v1 v2 v3 : Value) (aas bs ys : List Int) (K N : Int) (w : World) (ha : Ints w v1 aas) (hb : Ints w v2 bs) (hy : Ints w v3 ys) :
 Calls Tryz.prog 11 #[v1,v2,.int .i64 K,.int .i64 N,v3] w (RetPB w (esR aas bs K N ys)):=by
 have HA:=Lib.hid ha
 have HB:=Lib.hid hb
 have HY:=Lib.hid hy
 obtain ⟨p1,k1,rfl,⟨_,m1⟩,_⟩:=ha
 obtain ⟨p2,k2,rfl,⟨_,m2⟩,_⟩:=hb
 obtain ⟨p3,k3,rfl,⟨_,m3⟩,_⟩:=hy
 unfold maxLen at m1 m2 m3
 cases hok : esOk aas bs K N ys with
 | false =>
   rw [esR_no hok]
   unfold esOk at hok
   cases h1 : boxOk aas K N with
   | false =>
     have H1:=Lib.hid h1
     clear hok h1
     go_enter Tryz.func11,Tryz.ntmps11
     go_wp2_with fail
     refine (inBox_any _ aas K N _ HA.out).mono ?_
     rintro e w1 ⟨rfl,q1⟩
     rw [H1.out]
     go_wp2_with fail
     go_ret2
     exact retPB_no (q1.below _)
   | true =>
     cases h2 : boxOk bs K N with
     | false =>
       have H1:=Lib.hid h1
       have H2:=Lib.hid h2
       clear hok h1 h2
       go_enter Tryz.func11,Tryz.ntmps11
       go_wp2_with fail
       refine (inBox_any _ aas K N _ HA.out).mono ?_
       rintro e w1 ⟨rfl,q1⟩
       rw [H1.out]
       have HQ1:=Lib.hid q1
       clear q1
       go_wp2_with fail
       refine (inBox_any _ bs K N _ (HB.out.qt HQ1.out)).mono ?_
       rintro e w2 ⟨rfl,q2⟩
       rw [H2.out]
       go_wp2_with fail
       go_ret2
       exact retPB_no ((HQ1.out.trans q2).below _)
     | true =>
       have h3 : apOk N ys=false:=by rw [h1,h2] at hok;simpa using hok
       have H1:=Lib.hid h1
       have H2:=Lib.hid h2
       have H3:=Lib.hid h3
       clear hok h1 h2 h3
       go_enter Tryz.func11,Tryz.ntmps11
       go_wp2_with fail
       refine (inBox_any _ aas K N _ HA.out).mono ?_
       rintro e w1 ⟨rfl,q1⟩
       rw [H1.out]
       have HQ1:=Lib.hid q1
       clear q1
       go_wp2_with fail
       refine (inBox_any _ bs K N _ (HB.out.qt HQ1.out)).mono ?_
       rintro e w2 ⟨rfl,q2⟩
       rw [H2.out]
       have HQ2:=Lib.hid (HQ1.out.trans q2)
       clear q2
       go_wp2_with fail
       refine (weightsOk_any N _ ys _ (HY.out.qt HQ2.out)).mono ?_
       rintro e w3 ⟨rfl,q3⟩
       rw [H3.out]
       go_wp2_with fail
       go_ret2
       exact retPB_no ((HQ2.out.trans q3).below _)
 | true =>
   have h:=hok
   unfold esOk at h
   simp only [Bool.and_eq_true] at h
   obtain ⟨⟨h1,h2⟩,h3⟩:=h
   obtain ⟨k,n,L,P,rfl,rfl,E⟩:=esIs hok
   have HE:=Lib.hid E
   have S:=shpIs E.yok.one E.yok.four E.kn
   have HS:=Lib.hid S
   have Hpa:=Lib.hid (S.p5 aas (bx_mem E.ba E.kn))
   have Hpb:=Lib.hid (S.p5 bs (bx_mem E.bb E.kn))
   have hn1:=E.yok.one
   have hn4:=E.yok.four
   have hkn:=E.kn
   rw [E.res]
   have H1:=Lib.hid h1
   have H2:=Lib.hid h2
   have H3:=Lib.hid h3
   clear hok h1 h2 h3 E S
   go_enter Tryz.func11,Tryz.ntmps11
   go_wp2_with fail
   refine (inBox_any _ aas k n _ HA.out).mono ?_
   rintro e w1 ⟨rfl,q1⟩
   rw [H1.out]
   have HQ1:=Lib.hid q1
   clear q1
   go_wp2_with fail
   refine (inBox_any _ bs k n _ (HB.out.qt HQ1.out)).mono ?_
   rintro e w2 ⟨rfl,q2⟩
   rw [H2.out]
   have HQ2:=Lib.hid (HQ1.out.trans q2)
   clear q2
   go_wp2_with fail
   refine (weightsOk_any n _ ys _ (HY.out.qt HQ2.out)).mono ?_
   rintro e w3 ⟨rfl,q3⟩
   rw [H3.out]
   have HB3:=Lib.hid ((HQ2.out.trans q3).below w.heap.size)
   clear q3
   go_wp2_with fail
   refine (GrassmannianPerm_any _ aas k n _ (HA.out.below HB3.out) HE.out.ba hkn hn1 (by omega)).mono ?_
   rintro e w4 ⟨u4,rfl,ho4,hb4⟩
   have hi4:=ho4.ints
   obtain ⟨q4,c4,rfl,_,_⟩:=ho4.shape
   rw [Hpa.out.len] at hi4 ⊢
   have HI4:=Lib.hid hi4
   have HB4:=Lib.hid (below_trans HB3.out hb4)
   clear ho4 hi4 hb4
   go_wp2_with fail
   refine (GrassmannianPerm_any _ bs k n _ (HB.out.below HB4.out) HE.out.bb hkn hn1 (by omega)).mono ?_
   rintro e w5 ⟨u5,rfl,ho5,hb5⟩
   have hi5:=ho5.ints
   obtain ⟨q5,c5,rfl,_,_⟩:=ho5.shape
   rw [Hpb.out.len] at hi5 ⊢
   have HI5:=Lib.hid hi5
   have HI45:=Lib.hid (HI4.out.below hb5)
   have HB5:=Lib.hid (below_trans HB4.out hb5)
   clear ho5 hi5 hb5
   have hq:=implEqui_any _ _ _ (gpW aas k n) (gpW bs k n) ys w5 HI45.out HI5.out (HY.out.below HB5.out)
   rw [HE.out.eq] at hq
   have Hq:=Lib.hid hq
   clear hq
   go_wp2_with fail
   refine Hq.out.mono ?_
   rintro e w6 ⟨ul,rfl,hol,hb6⟩
   have HRL:=Lib.hid hol.rd
   obtain ⟨pl,kl,rfl,_,hkl⟩:=hol.shape
   unfold maxLen at hkl
   have hL6:=HE.out.shp.len
   have HB6:=Lib.hid (below_trans HB5.out hb6)
   obtain ⟨NL,hNL⟩ : ∃ NL,NL=L.length:=⟨_,rfl⟩
   dsimp only
   rw [← hNL] at hL6 ⊢
   have HNL:=Lib.hid hNL
   clear hol hb6 Hq hNL
   go_wp2_with fail
   have hsub : (n : Int) - (k : Int)=((n - k : Nat) : Int):=by omega
   rw [hsub]
   refine (shapesIn_go k _ _ (n - k) _ rfl rfl (by omega) (by omega) (box_pow hkn hn4)).mono ?_
   rintro e w7 ⟨uS,rfl,hoS,hb7⟩
   obtain ⟨G,hG⟩ : ∃ G,G=ishs k (n - k):=⟨_,rfl⟩
   rw [← hG] at hoS
   obtain ⟨sv,hs1,hs2,hs3⟩:=hoS
   obtain ⟨pS,kS,rfl,hkS,hkSm⟩:=hs1.shape
   unfold maxLen at hkSm
   obtain ⟨NG,hNG⟩ : ∃ NG,NG=G.length:=⟨_,rfl⟩
   have hG6 : NG≤6:=by rw [hNG,hG];exact HS.out.six
   rw [← hNG] at hkS ⊢
   have hb67 : Below w6.heap.size w6 w7:=(below_alloc w6 _).trans (hb7.mono (by rw [size_alloc];exact Nat.le_succ _))
   have hs6 : w6.heap.size≤w7.heap.size:=hb67.size
   have hw6:=HB6.out.size
   obtain ⟨B6,hB6⟩ : ∃ B,B=w6.heap.size:=⟨_,rfl⟩
   have HB6e:=Lib.hid hB6
   have hsz6 : (w6.alloc (.cells #[] 39)).heap.size=B6+1:=by rw [size_alloc,hB6]
   have HSt:=Lib.hid (show EsSt w7 B6 (.slice pS NG kS) G sv from ⟨by rw [← hNG];exact (hNG ▸ hs1).mono (by rw [hsz6];omega) (Nat.le_refl _),fun q hq=>(hs2 q hq).mono (by rw [hsz6];omega) (Nat.le_refl _)⟩)
   have HD:=Lib.hid hs3
   have HG:=Lib.hid hG
   have HNG:=Lib.hid hNG
   have HO0:=Lib.hid (show EsOut w7 B6 (.slice (some ⟨w6.heap.size,0,none⟩) 0 0) [] G sv 0 from ⟨fun t=>t,by
    have h1:=(OwnS.made0 w6 39 2 (clF [] fun t=>sv t)).below (by rw [size_alloc] at hb7 ⊢;exact hb7)
    rw [← hB6] at h1 ⊢
    exact h1.mono (Nat.le_refl _) (by have:=hb7.size;rw [hsz6] at this;omega),fun t ht=>absurd ht (Nat.not_lt_zero _),fun s t _ ht=>absurd ht (Nat.not_lt_zero _),Nat.le_refl _⟩)
   have HB67:=Lib.hid (show Below B6 w6 w7 by rw [hB6];exact hb67)
   have hw7 : B6≤w7.heap.size:=by rw [hB6];exact hs6
   clear hb7 hs1 hs2 hs3 hb67 hG hNG hsz6 hsub
   go_wp2_with fail
   go_loopg [14,60] NG (fun g s14 s60 wr=> ∃ i : Nat,i≤NG∧g=NG - i∧s60=.int .i64 (i : Int)∧Hid (EsSt wr B6 (.slice pS NG kS) G sv)∧Hid (EsOut wr B6 s14 (esA k n L i) G sv i)∧Hid (Below B6 w6 wr))
   case atStart=>exact ⟨0,Nat.zero_le _,rfl,rfl,HSt,HO0,HB67⟩
   case round =>
    obtain ⟨i,hi,rfl,rfl,hst,ho,hb⟩:=hrel
    obtain ⟨wx,rfl⟩ : ∃ x : World,x=wr:=⟨_,rfl⟩
    have Hst:=Lib.hid hst.out
    have Ho:=Lib.hid ho.out
    have Hb:=Lib.hid hb.out
    clear hst ho hb
    by_cases hlt : i < NG
    ·have hlti : (i : Int) < (NG : Int):=by omega
     have hst1:=Hst.out.1
     rw [← HNG.out] at hst1
     obtain ⟨bS,rfl,_,_,_⟩:=hst1.at_ (by omega)
     have cS:=hst1.cell hlt
     have hi2:=Hst.out.2 i (by rw [← HNG.out];exact hlt)
     obtain ⟨sh,hsh⟩ : ∃ z,z=G.getD i []:=⟨_,rfl⟩
     have hgi : (ishs k (n - k)).getD i []=sh:=by rw [hsh,HG.out]
     have hshm : sh ∈ ishs k (n - k):=by rw [← hgi,List.getD_eq_getElem?_getD,List.getElem?_eq_getElem (by rw [← HG.out,← HNG.out];exact hlt)];exact List.getElem_mem _
     rw [← hsh] at hi2
     obtain ⟨ps,ks,hps,hks,hksm⟩:=hi2.shape
     have hI:=hi2.ints
     rw [hps] at cS hI
     have hns4:=HS.out.short sh hshm
     obtain ⟨ns,hns⟩ : ∃ ns,ns=sh.length:=⟨_,rfl⟩
     rw [← hns] at cS hI hks hps
     have HI:=Lib.hid hI
     have Hps:=Lib.hid hps
     have Hbx:=Lib.hid (HS.out.box sh hshm)
     have Hp5:=Lib.hid (HS.out.p5 sh hshm)
     have Hsh:=Lib.hid hsh
     have Hgi:=Lib.hid hgi
     have Hns:=Lib.hid hns
     obtain ⟨ix,ho1,_⟩:=Ho.out
     obtain ⟨po,ko,rfl,hko,hkom,_⟩:=ho1.shape
     obtain ⟨no,hno⟩ : ∃ no,no=(esA k n L i).length:=⟨_,rfl⟩
     have ho2:=Ho.out
     rw [← hno] at hko ho2 ⊢
     have Ho2:=Lib.hid ho2
     clear hst1 hi2 hsh hgi hshm hps hI ho1 ho2 hns hno Ho
     go_wp2_with fail
     refine (GrassmannianPerm_any _ sh k n _ HI.out Hbx.out hkn hn1 (by omega)).mono ?_
     rintro e w8 ⟨u8,rfl,ho8,hb8⟩
     have hi8:=ho8.ints
     obtain ⟨p8,k8,rfl,_,_⟩:=ho8.shape
     rw [Hp5.out.len] at hi8 ⊢
     have HI8:=Lib.hid hi8
     have Hb8:=Lib.hid hb8
     clear ho8 hi8 hb8
     go_wp2_with fail
     refine (implTrim_yes _ (gpW sh k n) _ HI8.out Hp5.out.ok).mono ?_
     rintro e w9 ⟨u9,rfl,ho9,hb9⟩
     obtain ⟨T,hT⟩ : ∃ T,T=trimL (gpW sh k n):=⟨_,rfl⟩
     rw [← hT] at ho9
     obtain ⟨p9,k9,rfl,hk9,_⟩:=ho9.shape
     obtain ⟨nt,hnt⟩ : ∃ nt,nt=T.length:=⟨_,rfl⟩
     rw [← hnt] at hk9 ho9 ⊢
     have hb89:=below_trans Hb8.out hb9
     have hsx:=hb89.size
     have hwx:=Hb.out.size
     have HT9:=Lib.hid (show OwnI 3 w9 B6 w9.heap.size (.slice p9 nt k9) T from ho9.mono (by have:=Hb8.out.size;have:=HB6e.out;omega) (Nat.le_refl _))
     have Hst9:=Lib.hid (Hst.out.below hb89)
     have Ho9:=Lib.hid (Ho2.out.below hb89)
     have Hb9:=Lib.hid (Hb.out.trans (hb89.mono (by have:=HB6e.out;omega)))
     have HT:=Lib.hid hT
     clear ho9 hb9 hb89 hT hnt Ho2
     go_wp2_with fail
     go_loopg [14,71] NL (fun g s14 s71 wr=> ∃ j : Nat,j≤NL∧g=NL - j∧s71=.int .i64 (j : Int)∧Hid (EsSt wr B6 (.slice (some ⟨bS,0,none⟩) NG kS) G sv)∧Hid (EsOut wr B6 s14 (esB k n L i j) G sv (esN k n L i j))∧Hid (OwnI 3 wr B6 wr.heap.size (.slice p9 nt k9) T)∧Hid (Below B6 w6 wr))
     case atStart=>exact ⟨0,Nat.zero_le _,rfl,rfl,Hst9,by rw [esB_zero,esN_zero];exact Ho9,HT9,Hb9⟩
     case round =>
      obtain ⟨j,hj,rfl,rfl,hst,ho,ht,hb⟩:=hrel
      obtain ⟨wz,rfl⟩ : ∃ x : World,x=wr:=⟨_,rfl⟩
      have HstZ:=Lib.hid hst.out
      have HoZ:=Lib.hid ho.out
      have HtZ:=Lib.hid ht.out
      have HbZ:=Lib.hid hb.out
      clear hst ho ht hb
      by_cases hjl : j < NL
      ·have hjli : (j : Int) < (NL : Int):=by omega
       obtain ⟨fl,hrl,hfl⟩:=HRL.out
       obtain ⟨pl',kl',ell,_,hxc⟩:=hrl.two
       rw [← HNL.out] at ell hxc
       injection ell with ell1 ell2 ell3
       obtain ⟨bl,hbl,hcl⟩:=hxc (by omega)
       rw [← ell1] at hbl
       subst hbl
       obtain ⟨d1,d2⟩:=hcl j hjl
       have hiv:=hfl j (by rw [← HNL.out];exact hjl)
       obtain ⟨vi,hvi⟩ : ∃ z,z=fl j:=⟨_,rfl⟩
       obtain ⟨X,hX⟩ : ∃ z,z=L.getD j clD:=⟨_,rfl⟩
       rw [← hX] at d2 hiv
       rw [← hvi] at d1 hiv
       have HX:=Lib.hid hX
       obtain ⟨ts,ci⟩:=X
       dsimp only at d2 hiv
       have hbz : Below w6.heap.size w6 wz:=by rw [← HB6e.out];exact HbZ.out
       have cA:=cell_below hbz d1
       have cB:=cell_below hbz d2
       have HiX:=Lib.hid (hiv.below hbz)
       obtain ⟨pv,kv,rfl,⟨hkv,hkvm⟩,_⟩:=HiX.out
       unfold maxLen at hkvm
       obtain ⟨nv,hnv⟩ : ∃ nv,nv=ts.length:=⟨_,rfl⟩
       rw [← hnv] at hkv cA HiX
       have HbW2:=Lib.hid (below_alloc wz (.cells #[.slice pv nv kv,.int .i64 ci] 74))
       have HbW3:=Lib.hid (heap_alloc_top wz (.cells #[.slice pv nv kv,.int .i64 ci] 74))
       obtain ⟨ix,ho1,ho2,ho3,ho4⟩:=HoZ.out
       obtain ⟨pz,kz,rfl,hkz,hkzm,_⟩:=ho1.shape
       obtain ⟨nz,hnz⟩ : ∃ nz,nz=(esB k n L i j).length:=⟨_,rfl⟩
       rw [← hnz] at hkz ho1 ho2 ho3 ho4 ⊢
       have Ho1:=Lib.hid ho1
       have Ho2:=Lib.hid ho2
       have Ho3:=Lib.hid ho3
       have Ho4:=Lib.hid ho4
       have Hnz:=Lib.hid hnz
       clear d1 d2 hiv hvi hX hrl hfl hxc hcl ell1 ell2 ell3 hbz ho1 ho2 ho3 ho4 hnz hnv
       go_wp2_with fail
       refine (sliceEq_any _ _ ts T _ (HiX.out.below HbW2.out) (HtZ.out.below HbW2.out).ints).mono ?_
       rintro e wq ⟨rfl,q,rfl⟩
       obtain ⟨Q,hQ⟩ : ∃ Q,Q=(wz.alloc (.cells #[.slice pv nv kv,.int .i64 ci] 74)).drewN q:=⟨_,rfl⟩
       have hqq : Qt (wz.alloc (.cells #[.slice pv nv kv,.int .i64 ci] 74)) Q:=⟨q,hQ⟩
       rw [← hQ]
       have hbQ : Below wz.heap.size wz Q:=HbW2.out.trans (hqq.below _)
       have cQ1:=hqq.cell (cell_of_blk HbW3.out (j:=1) rfl)
       have hsQ:=hbQ.size
       have hBz : B6≤wz.heap.size:=by have:=HbZ.out.size;have:=HB6e.out;omega
       by_cases e : ts=T
       ·rw [decide_eq_true e]
        have e2 : (L.getD j clD).1=trimL (gpW ((ishs k (n - k)).getD i []) k n):=by rw [← HX.out,Hgi.out,← HT.out];exact e
        have HY1:=Lib.hid (esB_yes (by rw [← HNL.out];exact hjl) e2)
        have HN1:=Lib.hid (esN_yes HE.out.shp (by rw [← HNL.out];exact hjl) e2)
        have hni : nz≤i:=by have:=Ho4.out;rw [HN1.out.1] at this;exact this
        have hal:=below_alloc Q (.cells #[.slice ps ns ks,.int .i64 ci] 39)
        have hbQa : Below wz.heap.size wz (Q.alloc (.cells #[.slice ps ns ks,.int .i64 ci] 39)):=hbQ.trans (hal.mono hsQ)
        have G15:=Lib.hid (Ho1.out.below hbQa)
        have Hlo5:=Lib.hid (show B6≤(Q.alloc (.cells #[.slice ps ns ks,.int .i64 ci] 39)).heap.size by rw [size_alloc];omega)
        have Hcl5:=Lib.hid (show ∀ j,j < 2→(Q.alloc (.cells #[.slice ps ns ks,.int .i64 ci] 39)).cell? ⟨Q.heap.size,j,none⟩=some (match j with | 0=>.slice ps ns ks | _=>.int .i64 ci) from fun j hj =>
         match j,hj with
         | 0,_=>cell_of_blk (heap_alloc_top Q _) (j:=0) rfl
         | 1,_=>cell_of_blk (heap_alloc_top Q _) (j:=1) rfl)
        have Hone5:=Lib.hid (show ∀ j,j < 2→(match j with | 0=>Value.slice ps ns ks | _=>.int .i64 ci).oneCell'=true from fun j hj =>
         match j,hj with
         | 0,_=>rfl
         | 1,_=>rfl)
        have Hn1:=Lib.hid (show nz+1≤maxLen by unfold maxLen;omega)
        have Hn2:=Lib.hid (show (nz+1) * 32≤140737488355328 by omega)
        have HbQa:=Lib.hid hbQa
        clear e e2 hqq hbQ hQ hal hbQa hsQ
        go_wp2_with (at_builtin;go_must (refine wpList_append_S rfl (.tmp 79) (.tmp 84) 27 rfl 39 _ 2 32 Tryz.underlying27 info_prt rfl (by omega) B6 wz.heap.size _ nz (clF (esB k n L i j) fun t=>sv (ix t)) rfl G15.out Hlo5.out _ _ _ rfl Hcl5.out Hone5.out Hn1.out Hn2.out ?_;intro v2 w2 hv2 hg0;have hg2 : (Q.alloc (.cells #[.slice ps ns ks,.int .i64 ci] 39)).grownBy w2 (Value.slice pz nz kz).ownBlock:=hg0;clear hg0;have Hv2:=Lib.hid hv2;have Hg2:=Lib.hid hg2;clear hv2 hg2))
        go_roundg (NL - (j+1))
        case measure=>omega
        case rel =>
         have hv2:=Hv2.out
         have hg2:=Hg2.out
         have hgb : Below B6 (Q.alloc (.cells #[.slice ps ns ks,.int .i64 ci] 39)) w2:=grownBy_below hg2 G15.out.blocks (Nat.le_refl _) Hlo5.out
         refine ⟨j+1,by omega,rfl,by go_num,Lib.hid ((HstZ.out.below HbQa.out).grown G15.out hg2),Lib.hid ?_,Lib.hid ?_,Lib.hid ((HbZ.out.trans (HbQa.out.mono hBz)).trans hgb)⟩
         ·rw [HY1.out,HN1.out.2,Hgi.out,Hsh.out,← HX.out]
          have h4:=Ho4.out
          rw [HN1.out.1] at h4
          have h2:=Ho2.out
          rw [HN1.out.1] at h2
          rw [Hnz.out] at hv2 h2 h4
          have h3:=Ho3.out
          rw [Hnz.out] at h3
          refine EsOut.snoc h2 h3 h4 ?_
          rw [Hps.out]
          exact hv2
         ·exact (OwnI.grownP (HtZ.out.below HbQa.out) G15.out hg2).mono (Nat.le_refl _) (Nat.le_trans HbQa.out.size hg2.size)
       ·rw [decide_eq_false e]
        have e2 : ¬ (L.getD j clD).1=trimL (gpW ((ishs k (n - k)).getD i []) k n):=by rw [← HX.out,Hgi.out,← HT.out];exact e
        have HY1:=Lib.hid (esB_no (by rw [← HNL.out];exact hjl) e2)
        have HN1:=Lib.hid (esN_no (by rw [← HNL.out];exact hjl) e2)
        have HbQ:=Lib.hid hbQ
        have HoQ:=Lib.hid (show EsOut Q B6 (.slice pz nz kz) (esB k n L i j) G sv (esN k n L i j) from ⟨ix,by rw [← Hnz.out];exact (Ho1.out.below hbQ).mono (Nat.le_refl _) hsQ,by rw [← Hnz.out];exact Ho2.out,by rw [← Hnz.out];exact Ho3.out,by rw [← Hnz.out];exact Ho4.out⟩)
        clear e e2 hqq hQ hbQ
        go_wp2_with fail
        go_roundg (NL - (j+1))
        case measure=>omega
        case rel =>
         refine ⟨j+1,by omega,rfl,by go_num,Lib.hid (HstZ.out.below HbQ.out),Lib.hid ?_,Lib.hid ((HtZ.out.below HbQ.out).mono (Nat.le_refl _) hsQ),Lib.hid (HbZ.out.trans (HbQ.out.mono hBz))⟩
         rw [HY1.out,HN1.out]
         exact HoQ.out
      ·obtain rfl : j=NL:=by omega
       have hjli : ¬ (j : Int) < (j : Int):=by omega
       have Hall:=Lib.hid (show esB k n L i j=esA k n L (i+1) by rw [HNL.out];exact esB_all L (by rw [← HG.out,← HNG.out];exact hlt))
       go_wp2_with fail
       go_roundg (NG - (i+1))
       case measure=>omega
       case rel=>exact ⟨i+1,by omega,rfl,by go_num,HstZ,Lib.hid (by rw [← Hall.out];exact HoZ.out.more (esN_le k n L i j)),HbZ⟩
    ·obtain rfl : i=NG:=by omega
     have hlti : ¬ (i : Int) < (i : Int):=by omega
     have Hta:=Lib.hid (show esA k n L i=P by rw [HNG.out,HG.out,esA_all];exact HE.out.shp.imp)
     obtain ⟨ix,ho1,_⟩:=Ho.out
     obtain ⟨po,ko,rfl,_⟩:=ho1.shape
     clear ho1
     go_wp2_with fail
     go_ret2
     have how:=Ho.out.own (by rw [HNG.out];exact Nat.le_refl _) Hst.out HD.out
     rw [Hta.out] at how ⊢
     refine ⟨_,rfl,how.mono (by rw [HB6e.out];exact hw6) (Nat.le_refl _),below_trans HB6.out ?_⟩
     have:=Hb.out
     rw [HB6e.out] at this
     exact this
end
end Go.Proofs.YtijadclebjcckaaGreat
