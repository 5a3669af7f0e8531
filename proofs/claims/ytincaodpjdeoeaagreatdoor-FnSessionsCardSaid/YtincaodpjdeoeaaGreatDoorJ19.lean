/-
  A part of the proof of FnSessions (texts of one proof, joined).
-/
import Derived.Test.YtincaodpjdeoeaaGreatDoorJ18
namespace Go.Proofs.YtincaodpjdeoeaaGreatDoor
set_option linter.all false
set_option maxRecDepth 100000
set_option maxHeartbeats 16000000
section
open Go.RowKit
structure ShUp (xs : List Int) (i c m : Nat) : Prop where
 len : xs.length=i
 each : ∀ j,j < i→shAt xs j
 le : m≤c
 zero : i=0→m=c
 last : 0 < i→xs.getD (i - 1) 0=(m : Int)
 first : 0 < i→xs.getD 0 0≤(c : Int)
theorem ShUp.nil (c : Nat) : ShUp [] 0 c c:=⟨rfl,fun j h=>absurd h (Nat.not_lt_zero _),Nat.le_refl _,fun _=>rfl,fun h=>absurd h (Nat.lt_irrefl _),fun h=>absurd h (Nat.lt_irrefl _)⟩
theorem ShUp.snoc {xs : List Int} {i c m x : Nat} (h : ShUp xs i c m) (hc : c≤16) (h1 : 1≤x) (hx : x≤m) : ShUp (xs ++ [(x : Int)]) (i+1) c x:=by
 obtain ⟨hl,he,hle,hz,hla,hfi⟩:=h
 have old : ∀ j,j < i→(xs ++ [(x : Int)]).getD j 0=xs.getD j 0:=fun j hj=>by
  rw [List.getD_eq_getElem?_getD,List.getElem?_append_left (by omega),← List.getD_eq_getElem?_getD]
 have new : (xs ++ [(x : Int)]).getD i 0=(x : Int):=by
  rw [List.getD_eq_getElem?_getD,List.getElem?_append_right (by omega)]
  simp [hl]
 refine ⟨by simp [hl],fun j hj=> ?_,by omega,fun e=>absurd e (by omega),fun _=>by rw [Nat.add_sub_cancel];exact new,fun _=> ?_⟩
 ·unfold shAt
  by_cases e : j < i
  ·have:=he j e
   unfold shAt at this
   rw [old j e]
   refine ⟨this.1,this.2.1,fun h0=> ?_⟩
   rw [old (j - 1) (by omega)]
   exact this.2.2 h0
  ·obtain rfl : j=i:=by omega
   rw [new]
   refine ⟨by omega,by omega,fun h0=> ?_⟩
   rw [old (j - 1) (by omega),hla h0]
   omega
 ·by_cases e : i=0
  ·subst e
   rw [new];omega
  ·rw [old 0 (by omega)];exact hfi (by omega)
theorem ShUp.box {xs : List Int} {i r c m : Nat} (h : ShUp xs i c m) (hi : i≤r) (hr : r≤16) : bxOk xs r (r+c)=true:=by
 obtain ⟨hl,he,hle,hz,hla,hfi⟩:=h
 rw [bx_end (shOk_yes (by omega) (fun j hj=>he j (by omega))) (by omega)]
 refine decide_eq_true ?_
 by_cases e : i=0
 ·have : xs=[]:=List.eq_nil_of_length_eq_zero (by omega)
  subst this
  show (0 : Int)≤_
  omega
 ·have:=hfi (by omega)
  omega
theorem dShape_any (k r c : Nat) (w : World) (h : Cur w k) (hr : r≤7) (hc : c≤7) :
 Calls Tryz.prog 27 #[.pointer (some ⟨k,0,none⟩),.int .i64 (r : Int),.int .i64 (c : Int)] w fun e w' =>
  ∃ (u : Value) (xs : List Int),e=.returned u∧OwnI 3 w' w.heap.size w'.heap.size u xs∧bxOk xs r (r+c)=true∧Cur w' k∧Frm k (k+1) w w':=by
 have Hc:=Lib.hid h
 have hk:=h.lt
 clear h
 go_enter Tryz.func27,Tryz.ntmps27
 go_wp2_with fail
 go_loopg [7,8,9] r (fun g s7 s8 s9 wr=> ∃ (i m : Nat) (xs : List Int),i≤r∧g=r - i∧s9=.int .i64 i∧s8=.int .i64 m∧m≤c∧Hid (ShUp xs i c m)∧Hid (OwnI 3 wr w.heap.size wr.heap.size s7 xs)∧Hid (Cur wr k)∧Hid (Frm k (k+1) w wr))
 case atStart =>
  refine ⟨0,c,[],Nat.zero_le _,rfl,rfl,rfl,Nat.le_refl _,ShUp.nil c,?_,Hc.out.below (below_alloc w _),Frm.of_below (below_alloc w _) _ _⟩
  exact OwnF.ints ((OwnF.made0 w 3 (iv [])).mono (Nat.le_refl _) (by simp))
 case round =>
  obtain ⟨i,m,xs,hi,rfl,rfl,rfl,hm,hu,ho,hcu,hf⟩:=hrel
  have hsr:=hf.out.size
  by_cases hlt : i < r
  ·have hlt2 : (i : Int) < (r : Int):=by omega
   by_cases hm0 : 0 < m
   ·have hm2 : (0 : Int) < (m : Int):=by omega
    have Hm1:=Lib.hid (show (m : Int)+1=((m+1 : Nat) : Int) by omega)
    obtain ⟨p5,k5,rfl,_,_⟩:=ho.out.shape
    have hofn:=ho.out.fn
    have hml : xs.length=i:=hu.out.len
    rw [hml] at hofn ⊢
    have Ho:=Lib.hid hofn
    have Hoi:=Lib.hid (show OwnI 3 wr w.heap.size wr.heap.size (.slice p5 i k5) xs by rw [← hml];exact ho.out)
    have Hml:=Lib.hid hml
    have Hcu:=Lib.hid hcu.out
    have Hf:=Lib.hid hf.out
    have Hu:=Lib.hid hu.out
    have Hb1:=Lib.hid (show i+1≤maxLen by unfold maxLen;omega)
    have Hb2:=Lib.hid (show (i+1) * 8≤140737488355328 by omega)
    clear ho hofn hml hcu hf hu
    go_wp2_with fail
    rw [Hm1.out]
    refine (l1Below_any k (m+1) _ Hcu.out (by omega) (by omega)).mono ?_
    rintro e w1 ⟨x,rfl,hx,hc1,hf1⟩
    have hs1:=hf1.size
    have Ho1:=Lib.hid (Ho.out.frm hf1 (Or.inr (by omega)))
    have Hoi1:=Lib.hid (Hoi.out.frm hf1 (Or.inr (by omega)))
    have Hc1:=Lib.hid hc1
    have Hf1:=Lib.hid (Hf.out.trans hf1)
    clear hc1 hf1
    by_cases hx0 : x=0
    ·subst hx0
     go_wp2_with fail
     go_ret
     exact ⟨_,xs,rfl,by have:=Hoi1.out.mono (Nat.le_refl _) hs1;exact this,Hu.out.box hi (by omega),Hc1.out,Hf1.out⟩
    ·have hx2 : ¬ (x : Int)=0:=by omega
     go_wp2_with (at_builtin;go_must (refine wpList_append_F rfl (.tmp 29) (.tmp 31) 24 rfl 3 (.int .i64 0) 8 Tryz.underlying24 info_int rfl w.heap.size wr.heap.size _ i (iv xs) rfl (Ho1.out.below (below_alloc w1 _)) (by rw [size_alloc];omega) (by rw [size_alloc];omega) _ 1 _ rfl (rd_one _ _ _ rfl) (fun j _=>rfl) Hb1.out Hb2.out ?_;intro v2 w2 ho2 hg2))
     go_roundg (r - (i+1))
     case measure=>omega
     case rel =>
      have hbx : Below w.heap.size w1 w2:=((below_alloc w1 _).mono (by omega)).trans (grownBy_below hg2 Ho1.out.blocks (Nat.le_refl _) (by rw [size_alloc];omega))
      refine ⟨i+1,x,xs ++ [(x : Int)],by omega,rfl,by go_num,rfl,by omega,Hu.out.snoc (by omega) (by omega) (by omega),?_,Hc1.out.keepB hbx hk,Hf1.out.thenB hbx (Nat.le_refl _)⟩
      exact OwnI.snoc1 (by rw [Hml.out];exact ho2)
   ·have hm2 : ¬ (0 : Int) < (m : Int):=by omega
    obtain ⟨p5,k5,rfl,_,_⟩:=ho.out.shape
    go_wp2_with fail
    go_ret
    exact ⟨_,rfl,xs,ho.out,hu.out.box hi (by omega),hcu.out,hf.out⟩
  ·have hlt2 : ¬ (i : Int) < (r : Int):=by omega
   obtain ⟨p5,k5,rfl,_,_⟩:=ho.out.shape
   go_wp2_with fail
   go_ret
   exact ⟨_,rfl,xs,ho.out,hu.out.box hi (by omega),hcu.out,hf.out⟩
theorem dBox6_any (k : Nat) (w : World) (h : Cur w k) :
 Calls Tryz.prog 26 #[.pointer (some ⟨k,0,none⟩),.int .i64 6] w fun e w'=> ∃ (r n : Nat),e=.returned (.tuple #[.int .i64 (r : Int),.int .i64 (n : Int)])∧2≤n∧n≤6∧r≤n∧Cur w' k∧Frm k (k+1) w w':=by
 have Hc:=Lib.hid h
 have hk:=h.lt
 clear h
 go_enter Tryz.func26,Tryz.ntmps26
 go_wp2_with fail
 refine (l1Below_any k 5 _ Hc.out (by omega) (by omega)).mono ?_
 rintro e w1 ⟨x,rfl,hx,hc1,hf1⟩
 obtain ⟨n,hn⟩ : ∃ n,n=x+2:=⟨_,rfl⟩
 have hnz : (2 : Int)+(x : Int)=(n : Int):=by omega
 have Hc1:=Lib.hid hc1
 have Hf1:=Lib.hid hf1
 have hn2 : 2≤n:=by omega
 have hn4 : n≤6:=by omega
 have hs1:=hf1.size
 have hk1:=hc1.lt
 clear hc1 hf1 hn
 go_wp2_with fail
 try rw [hnz]
 clear hnz
 refine (l1Once_any k 12 _ Hc1.out (by omega) (by omega)).mono ?_
 rintro e w2 ⟨b,rfl,hc2,hf2⟩
 have Hc2:=Lib.hid hc2
 have Hf2:=Lib.hid (Hf1.out.trans hf2)
 have hk2:=hc2.lt
 clear hc2 hf2
 cases b with
 | true =>
   have hb3:=below_alloc w2 (.cells #[.int .i64 0,.int .i64 (n : Int)] 3)
   have ho3 : Ints (w2.alloc (.cells #[.int .i64 0,.int .i64 (n : Int)] 3)) (.slice (some ⟨w2.heap.size,0,none⟩) 2 2) [0,(n : Int)]:=by
    have z0 : (w2.alloc (.cells #[.int .i64 0,.int .i64 (n : Int)] 3)).heap[w2.heap.size]?=some (.cells #[.int .i64 0,.int .i64 (n : Int)] 3 (0,0)):=heap_alloc_top _ _
    refine ⟨_,_,rfl,⟨Nat.le_refl _,by unfold maxLen;decide⟩,fun _=>⟨w2.heap.size,0,rfl,fun j hj=> ?_⟩⟩
    match j,hj with
    | 0,_=>exact cell_of_blk z0 (j:=0) rfl
    | 1,_=>exact cell_of_blk z0 (j:=1) rfl
   have Hb3:=Lib.hid hb3
   have Ho3:=Lib.hid ho3
   clear hb3 ho3
   go_wp2_with fail
   refine (l1PickInt_any k _ [0,(n : Int)] _ (Hc2.out.below Hb3.out) Ho3.out (fun p n' c e a ha=> ?_) (by show 1≤2;omega) (by show 2≤256;omega)).mono ?_
   ·injection e with e1 e2 e3
    rw [← e1] at ha
    injection ha with ha
    rw [← ha]
    show w2.heap.size ≠ k
    omega
   rintro e w4 ⟨x,hx,rfl,hc4,hf4⟩
   have Hc4:=Lib.hid hc4
   have Hf4:=Lib.hid ((Hf2.out.thenB (Hb3.out.mono (Hf2.out.size)) (Nat.le_refl _)).trans hf4)
   have Hx:=Lib.hid hx
   clear hc4 hf4 hx
   go_wp2_with fail
   go_ret2
   have hx:=Hx.out
   simp only [List.mem_cons,List.not_mem_nil,or_false] at hx
   rcases hx with rfl | rfl
   ·exact ⟨0,n,rfl,hn2,hn4,by omega,Hc4.out,Hf4.out⟩
   ·exact ⟨n,n,rfl,hn2,hn4,by omega,Hc4.out,Hf4.out⟩
 | false =>
   obtain ⟨m,hm⟩ : ∃ m,m+1=n:=⟨n - 1,by omega⟩
   have hmz : (n : Int) - 1=(m : Int):=by omega
   have hm1 : 1≤m:=by omega
   have hmm : m≤256:=by omega
   have Hm:=Lib.hid hm
   clear hm
   go_wp2_with fail
   try rw [hmz]
   clear hmz
   refine (l1Below_any k m _ Hc2.out hm1 hmm).mono ?_
   rintro e w4 ⟨x,rfl,hx,hc4,hf4⟩
   have Hc4:=Lib.hid hc4
   have Hf4:=Lib.hid (Hf2.out.trans hf4)
   have hx1 : 1+(x : Int)=((x+1 : Nat) : Int):=by omega
   have Hx1:=Lib.hid hx1
   clear hc4 hf4 hx1
   go_wp2_with fail
   go_ret2
   have:=Hm.out
   exact ⟨x+1,n,by rw [← Hx1.out];rfl,hn2,hn4,by omega,Hc4.out,Hf4.out⟩
theorem results_tmp5b {fn : Func} {t u v x y : Tmp} (h : fn.results = #[.tmp t,.tmp u,.tmp v,.tmp x,.tmp y]) (tmps : Array Value) (P : Program) (w : World) :
 (results fn tmps).run P w=.ok (.tuple #[tmps.getD t undef,tmps.getD u undef,tmps.getD v undef,tmps.getD x undef,tmps.getD y undef]) w:=by
 simp [results,h]
theorem DrawBoxes_any (v : Value) (l : Nat) (w : World) (h : Byts w v l) :
 Calls Tryz.prog 6 #[v] w fun e w' =>
  ∃ (u1 u2 u3 : Value) (xs zs ys : List Int) (k n : Nat),e=.returned (.tuple #[u1,u2,u3,.int .i64 (k : Int),.int .i64 (n : Int)])∧Ints w' u1 xs∧Ints w' u2 zs∧Ints w' u3 ys∧bxOk xs k n=true∧bxOk zs k n=true∧bxOk ys k n=true∧2≤n∧n≤6∧k≤n∧Below w.heap.size w w':=by
 have Hh:=Lib.hid h
 obtain ⟨_,_,cap,rfl,_⟩:=h
 go_enter Tryz.func6,Tryz.ntmps6
 go_wp2_with fail
 refine (l1New_any _ l _ Hh.out).mono ?_
 rintro e w2 ⟨rfl,hc2,hb2⟩
 have HC2:=Lib.hid hc2
 have HB2:=Lib.hid hb2
 have hk2:=hc2.lt
 clear hc2 hb2
 go_wp2_with fail
 refine (dBox6_any w.heap.size _ HC2.out).mono ?_
 rintro e w3 ⟨k,n,rfl,hn2,hn4,hkn,hc3,hf3⟩
 have HC3:=Lib.hid hc3
 have HB3:=Lib.hid (HB2.out.trans (hf3.below (Nat.le_refl _) (by omega)))
 have hs3:=hf3.size
 obtain ⟨m,hm⟩ : ∃ m,k+m=n:=⟨n - k,by omega⟩
 have hmz : (n : Int) - (k : Int)=(m : Int):=by omega
 have Hmz:=Lib.hid hmz
 have Hm:=Lib.hid hm
 have hk7 : k≤7:=by omega
 have hm7 : m≤7:=by omega
 clear hc3 hf3 hm
 go_wp2_with fail
 try rw [hmz]
 clear hmz
 refine (dShape_any w.heap.size k m _ HC3.out hk7 hm7).mono ?_
 rintro e w4 ⟨u1,xs,rfl,ho1,hx1,hc4,hf4⟩
 have HX4:=Lib.hid ho1
 have HBX:=Lib.hid (show bxOk xs k n=true by rw [← Hm.out];exact hx1)
 have HC4:=Lib.hid hc4
 have HB4:=Lib.hid (HB3.out.trans (hf4.below (Nat.le_refl _) (by omega)))
 have hs4:=hf4.size
 clear ho1 hx1 hc4 hf4
 have hmz:=Hmz.out
 go_wp2_with fail
 try rw [hmz]
 clear hmz
 refine (dShape_any w.heap.size k m _ HC4.out hk7 hm7).mono ?_
 rintro e w5 ⟨u2,zs,rfl,ho2,hx2,hc5,hf5⟩
 have HZ5:=Lib.hid ho2
 have HX5:=Lib.hid (HX4.out.frm hf5 (Or.inr (by omega)))
 have HBZ:=Lib.hid (show bxOk zs k n=true by rw [← Hm.out];exact hx2)
 have HC5:=Lib.hid hc5
 have HB5:=Lib.hid (HB4.out.trans (hf5.below (Nat.le_refl _) (by omega)))
 have hs5:=hf5.size
 clear ho2 hx2 hc5 hf5
 go_wp2_with fail
 try rw [Hmz.out]
 refine (dShape_any w.heap.size k m _ HC5.out hk7 hm7).mono ?_
 rintro e w6 ⟨u3,ys,rfl,ho4,hx4,hc6,hf6⟩
 have HY6:=Lib.hid ho4
 have HBY:=Lib.hid (show bxOk ys k n=true by rw [← Hm.out];exact hx4)
 have HX6:=Lib.hid (HX5.out.frm hf6 (Or.inr (by omega)))
 have HZ6:=Lib.hid (HZ5.out.frm hf6 (Or.inr (by omega)))
 have HB6:=Lib.hid (HB5.out.trans (hf6.below (Nat.le_refl _) (by omega)))
 clear ho4 hx4 hc6 hf6
 go_wp2_with fail
 (try simp only [Exit.inBlock,Exit.then])
 refine bodyPost_ret (results_tmp5b rfl _ _ _) rfl ?_
 exact ⟨u1,u2,u3,xs,zs,ys,k,n,rfl,HX6.out.ints,HZ6.out.ints,HY6.out.ints,HBX.out,HBZ.out,HBY.out,hn2,hn4,hkn,HB6.out⟩
theorem lawSchub5_any (v : Value) (xs : List Int) (w : World) (h : Ints w v xs) (hp : permOk xs=true) (h5 : xs.length≤5) :
 Calls Tryz.prog 13 #[v] w fun e w'=> ∃ u,e=.returned u∧RetTs w (symS9 xs) u w':=by
 have Hi:=Lib.hid (Schub5_any v xs w h hp h5)
 obtain ⟨p,cap,rfl,_,_⟩:=h
 clear hp
 go_enter Tryz.func13,Tryz.ntmps13
 go_wp2_with fail
 refine Hi.out.mono ?_
 rintro e w1 ⟨u,rfl,hr⟩
 have Hr:=Lib.hid hr
 obtain ⟨ts,ho,_⟩:=hr
 obtain ⟨p3,k3,rfl,_,_⟩:=ho.shape
 clear ho
 go_wp2_with fail
 go_ret
 exact ⟨_,rfl,Hr.out⟩
theorem retTs_shape {w w' : World} {P : Pl} {v : Value} (h : RetTs w P v w') : ∃ p n k,v=.slice p n k:=by
 obtain ⟨ts,h1,_⟩:=h
 obtain ⟨p,k,e,_⟩:=h1.shape
 exact ⟨p,_,k,e⟩
theorem retTs_bel {w w' : World} {P : Pl} {v : Value} (h : RetTs w P v w') : Below w.heap.size w w':=by
 obtain ⟨ts,_,_,_,h4⟩:=h
 exact h4
theorem shw_eq {xs ys : List Int} {cs : List Cls} {k n : Nat} : bytA (Lib.join (shwL xs ys cs k n) [47])=fmtA xs ++ ⟨#[47]⟩ ++ bytA (fmtCls cs) ++ ⟨#[47]⟩ ++ bytA (fmtIs ys) ++ ⟨#[47]⟩ ++ bytA (fmtIs [(k : Int),(n : Int)]):=by
 have e : Lib.join (shwL xs ys cs k n) [47]=fmtL xs ++ [47] ++ fmtCls cs ++ [47] ++ fmtIs ys ++ [47] ++ fmtIs [(k : Int),(n : Int)]:=by
  simp [shwL,Lib.join,List.intercalate,List.intersperse]
 rw [e,bytA_append,bytA_append,bytA_append,bytA_append,bytA_append,bytA_append]
 rfl
theorem keep6D {B : Nat} {A W W' : World} {a0 a1 a2 a3 a4 a5 : Addr} {x0 x1 x2 x3 x4 x5 : Value} (hB : B≤A.heap.size) (hb : Below W.heap.size W W')
 (h : (W.cell? a0=some x0∧W.cell? a1=some x1∧W.cell? a2=some x2∧W.cell? a3=some x3∧W.cell? a4=some x4∧W.cell? a5=some x5)∧Below B A W) :
 (W'.cell? a0=some x0∧W'.cell? a1=some x1∧W'.cell? a2=some x2∧W'.cell? a3=some x3∧W'.cell? a4=some x4∧W'.cell? a5=some x5)∧Below B A W' :=
 ⟨⟨cell_below hb h.1.1,cell_below hb h.1.2.1,cell_below hb h.1.2.2.1,cell_below hb h.1.2.2.2.1,cell_below hb h.1.2.2.2.2.1,cell_below hb h.1.2.2.2.2.2⟩,h.2.trans (hb.mono (Nat.le_trans hB h.2.size))⟩
theorem fmtPo_one {w0 w w' : World} {u : Value} {xs : List Int} {ts : List Cls} (hr : RetTs w0 (symS9 xs) u w) (hb : Below w.heap.size w w') (hp : permOk xs=true) (h5 : xs.length≤5) (ht : TsOk ts) (he : ∀ g,Ev ts g=Ev (symS9 xs) g) :
 Calls Tryz.prog 12 #[u] w' fun e w2=>e=.returned (.string (bytA (fmtPo ts)))∧Below w'.heap.size w' w2:=by
 obtain ⟨us,ho,h1,h2,_⟩:=hr
 obtain rfl : ts=us:=ts_uniq ht h1 fun g=>(he g).trans (h2 g).symm
 exact FormatPoly_any u ts w' (ho.rd.below hb) h1 (ts_pos h1 h2 (sq_is hp h5).pos)
theorem fn_lines (w : World) {xs ys : List Int} {ns : List Nat} {k n : Nat} {tx sk sn sy : ByteArray} (he : ys=inL ns) (hd : ∀ x ∈ ns,x < 10) (hn : n≤6) (hk : k≤n) (htx : tx=fmtA xs) (hsk : sk=bytA (fmtN k)) (hsn : sn=bytA (fmtN n)) (hsy : sy=bytA (fmtIs ys)) :
 Rd (w.alloc (.cells #[.string (⟨#[112,101,114,109,32]⟩ ++ tx),.string ⟨#[108,101,110,103,116,104]⟩,.string ⟨#[112,111,108,121]⟩,.string ⟨#[115,101,116]⟩,.string ⟨#[116,105,109,101,115]⟩,.string (⟨#[98,111,120,32]⟩ ++ sk ++ ⟨#[32]⟩ ++ sn),.string (⟨#[115,104,97,112,101,32]⟩ ++ sy),.string ⟨#[115,113,117,97,114,101]⟩,.string ⟨#[100,101,103,114,101,101]⟩,.string ⟨#[110,111,116,104,105,110,103]⟩,.string ⟨#[115,104,111,119]⟩] 9)) (.slice (some ⟨w.heap.size,0,none⟩) 11 11) 11 (strV (snL xs ns k n)):=by
 have e0 : (⟨#[112,101,114,109,32]⟩ ++ tx : ByteArray)=bytA (lnPerm (fmtL xs)):=by
  rw [htx];exact (bytA_append [112,101,114,109,32] (fmtL xs)).symm
 have e5 : (⟨#[98,111,120,32]⟩ ++ sk ++ ⟨#[32]⟩ ++ sn : ByteArray)=bytA (lnBox (dJ [k,n])):=by
  rw [hsk,hsn,fmtN_dig (show k < 10 by omega),fmtN_dig (show n < 10 by omega)]
  exact (by rw [bytA_append,bytA_append,bytA_append] : bytA ([98,111,120,32] ++ [UInt8.ofNat (48+k)] ++ [32] ++ [UInt8.ofNat (48+n)])=bytA [98,111,120,32] ++ bytA [UInt8.ofNat (48+k)] ++ bytA [32] ++ bytA [UInt8.ofNat (48+n)]).symm
 have e6 : (⟨#[115,104,97,112,101,32]⟩ ++ sy : ByteArray)=bytA (lnShape (dJ ns)):=by
  rw [hsy,he,fmt_dJ hd];exact (bytA_append [115,104,97,112,101,32] (dJ ns)).symm
 rw [e0,e5,e6]
 refine ⟨_,_,rfl,⟨Nat.le_refl _,by unfold maxLen;decide⟩,fun _=>⟨_,_,rfl,fun j hj=> ?_⟩⟩
 rw [Nat.zero_add]
 refine cell_of_blk (heap_alloc_top w _) ?_
 match j,hj with
 | 0,_=>rfl
 | 1,_=>rfl
 | 2,_=>rfl
 | 3,_=>rfl
 | 4,_=>rfl
 | 5,_=>rfl
 | 6,_=>rfl
 | 7,_=>rfl
 | 8,_=>rfl
 | 9,_=>rfl
 | 10,_=>rfl
theorem lawFnSessions (b : Option Addr) (l c : Nat) (w : World) (hl : l≤maxLen) (h : Byts w (.slice b l c) l) :
 Calls Tryz.prog 3 #[.slice b l c] w fun e w'=>e=.returned (.bool true)∧Below w.heap.size w w':=by
 have Hl:=Lib.hid hl
 have Hh:=Lib.hid h
 clear hl h
 go_enter Tryz.func3,Tryz.ntmps3
 go_wp2_with fail
 refine (big_any b l c _ Hl.out).mono ?_
 rintro e w' ⟨rfl,rfl⟩
 by_cases hb : 1048576 < l
 ·have e1 : decide (1048576 < l)=true:=by simp [hb]
  rw [e1]
  go_wp2_with fail
  go_ret
  exact ⟨rfl,Below.refl _ _⟩
 have e1 : decide (1048576 < l)=false:=by simp [hb]
 rw [e1]
 clear e1 hb
 go_wp2_with fail
 refine (DrawTwoPerms_any _ l _ Hh.out).mono ?_
 rintro e w1 ⟨u1,u2,xs,zs,m,rfl,hi1,hi2,hp1,_,_,hb1⟩
 obtain ⟨p1,k1,rfl,_,_⟩:=id hi1
 obtain ⟨p2,k2,rfl,_,_⟩:=hi2
 have Hp:=Lib.hid hp1.ok
 have H5:=Lib.hid (show xs.length≤5 by have:=hp1.len;have:=hp1.le;omega)
 have Hi1:=Lib.hid hi1
 have HB1:=Lib.hid hb1
 have Hy1:=Lib.hid (show Byts w1 (.slice b l c) l from Hh.out.below hb1)
 clear hi1 hp1 hb1
 go_wp2_with fail
 refine (DrawBoxes_any _ l _ Hy1.out).mono ?_
 rintro e w2 ⟨v1,v2,v3,ys,as1,bs1,k,n,rfl,hj1,hj2,hj3,hx1,_,_,hn2,hn6,hkn,hb2⟩
 obtain ⟨q1,l1,rfl,_,_⟩:=id hj1
 obtain ⟨q2,l2,rfl,_,_⟩:=hj2
 obtain ⟨q3,l3,rfl,_,_⟩:=hj3
 have Hj:=Lib.hid hj1
 have Hx:=Lib.hid hx1
 have Hnk:=Lib.hid (And.intro hn2 (And.intro hn6 hkn))
 have HB2:=Lib.hid (HB1.out.trans (hb2.mono HB1.out.size))
 have Hi2:=Lib.hid (Hi1.out.below hb2)
 clear hj1 hx1 hn2 hn6 hkn hb2
 go_wp2_with fail
 obtain ⟨tx,htx⟩ : ∃ tx,tx=fmtA xs:=⟨_,rfl⟩
 refine (FormatPerm_any _ xs _ Hi2.out Hp.out).mono ?_
 rintro e w3 ⟨rfl,hb3⟩
 rw [← htx]
 have Htx:=Lib.hid htx
 have hts : tx.size≤7:=by rw [htx,fmtA_size];have:=H5.out;omega
 have HB3:=Lib.hid (HB2.out.trans (hb3.mono HB2.out.size))
 have Hi3:=Lib.hid (Hi2.out.below hb3)
 have Hj3:=Lib.hid (Hj.out.below hb3)
 clear htx hb3
 go_wp2_with fail
 obtain ⟨sk,hsk⟩ : ∃ sk,sk=bytA (fmtN k):=⟨_,rfl⟩
 refine (FormatInt_any k w3 (by have:=Hnk.out;omega)).mono ?_
 rintro e w4 ⟨rfl,rfl⟩
 rw [← hsk]
 have hks : sk.size≤18:=by rw [hsk,bytA_size];exact fmtN_len _
 have Hsk:=Lib.hid hsk
 clear hsk
 go_wp2_with fail
 obtain ⟨sn,hsn⟩ : ∃ sn,sn=bytA (fmtN n):=⟨_,rfl⟩
 refine (FormatInt_any n w4 (by have:=Hnk.out;omega)).mono ?_
 rintro e w5 ⟨rfl,rfl⟩
 rw [← hsn]
 have hns : sn.size≤18:=by rw [hsn,bytA_size];exact fmtN_len _
 have Hsn:=Lib.hid hsn
 clear hsn
 go_wp2_with fail
 obtain ⟨sy,hsy⟩ : ∃ sy,sy=bytA (fmtIs ys):=⟨_,rfl⟩
 have hye:=shOk_all (show shOk ys=true by have:=Hx.out;unfold bxOk at this;simp only [Bool.and_eq_true] at this;exact this.1.1)
 have hysz : sy.size≤1000:=by rw [hsy,bytA_size];have:=fmtIs_len hye.1;omega
 refine (FormatInts_any _ ys w5 Hj3.out hye.2 (by omega)).mono ?_
 rintro e w6 ⟨rfl,hb6⟩
 rw [← hsy]
 have Hsy:=Lib.hid hsy
 have HB6:=Lib.hid (HB3.out.trans (hb6.mono HB3.out.size))
 have Hi6:=Lib.hid (Hi3.out.below hb6)
 have Hj6:=Lib.hid (Hj3.out.below hb6)
 clear hsy hye hb6
 go_wp2_with fail
 obtain ⟨ns,he,hd,hnl⟩:=bx_dig Hx.out Hnk.out.2.2 (by have:=Hnk.out;omega)
 have HP:=Lib.hid (show SnP xs ys ns k n from ⟨Hp.out,H5.out,he,hd,hnl,Hx.out,Hnk.out.2.2,by have:=Hnk.out;omega,Hnk.out.2.1⟩)
 have HR:=Lib.hid (fn_lines w6 he hd Hnk.out.2.1 Hnk.out.2.2 Htx.out Hsk.out Hsn.out Hsy.out)
 clear he hd hnl
 refine (session_any HP.out _ _ HR.out).mono ?_
 rintro e w7 ⟨u,S,rfl,hS,ho7,hT,hb7⟩
 unfold OwnSt at ho7
 rw [hS] at ho7
 obtain ⟨pu,ku,rfl,hk1,hk2,hpu⟩:=ho7.shape
 obtain ⟨g,rfl,_,_,_⟩:=hpu (by decide)
 have HB7:=Lib.hid (HB6.out.trans (((below_alloc w6 _).trans (hb7.mono (below_alloc w6 _).size)).mono HB6.out.size))
 have Hb67:=(below_alloc w6 _).trans (hb7.mono (below_alloc w6 _).size)
 have Hi7:=Lib.hid (Hi6.out.below Hb67)
 have Hj7:=Lib.hid (Hj6.out.below Hb67)
 obtain ⟨ts,h2e,h2k,h2v⟩:=hT 2 (by decide)
 have Hts:=Lib.hid (And.intro h2k h2v)
 have hcell : ∀ j,j < 11 → ∀ s,bytA (S.getD j [])=s→w7.cell? ⟨g,j,none⟩=some (.string s):=fun j hj s hs=>by rw [ho7.cell hj,← hs];rfl
 have C0:=hcell 0 (by decide) _ (hT 0 (by decide))
 have C1:=hcell 1 (by decide) _ (hT 1 (by decide))
 have C2:=hcell 2 (by decide) _ h2e
 have C4:=hcell 4 (by decide) _ (hT 4 (by decide))
 have C5:=hcell 5 (by decide) _ (hT 5 (by decide))
 have C6:=hcell 6 (by decide) _ (hT 6 (by decide))
 have C7:=hcell 7 (by decide) _ (hT 7 (by decide))
 have C8:=hcell 8 (by decide) _ (hT 8 (by decide))
 have C9:=hcell 9 (by decide) _ (hT 9 (by decide))
 have C10:=hcell 10 (by decide) _ (hT 10 (by decide))
 have hL5:=lenP_le Hp.out H5.out
 have F1:=Lib.hid (fun W (hW : Below w7.heap.size w7 W)=>implLength_any _ xs W (Hi7.out.below hW) Hp.out)
 have F2:=Lib.hid (fun W=>FormatInt_any (lenP xs) W (by omega))
 have F3:=Lib.hid (fun W (hW : Below w7.heap.size w7 W)=>lawSchub5_any _ xs W (Hi7.out.below hW) Hp.out H5.out)
 have F4:=Lib.hid (fun (w0 W W' : World) (u : Value) (hr : RetTs w0 (symS9 xs) u W) (hb : Below W.heap.size W W')=>fmtPo_one hr hb Hp.out H5.out h2k h2v)
 obtain ⟨s1,hs1⟩ : ∃ s1,s1=bytA (fmtN (lenP xs)):=⟨_,rfl⟩
 obtain ⟨s2,hs2⟩ : ∃ s2,s2=bytA (fmtPo ts):=⟨_,rfl⟩
 rw [← hs1] at C1 F2
 rw [← hs2] at C2 F4
 have HC2:=Lib.hid (And.intro C4 (And.intro C7 (And.intro C8 C10)))
 clear C4 C7 C8 C10 hs1 hs2 hS ho7 hT hb7 Hb67 h2e h2k h2v hcell hL5 hpu
 go_wp2_with fail
 have hS0 : (w7.drew.cell? ⟨g,0,none⟩=some (.string ⟨#[111,107]⟩)∧w7.drew.cell? ⟨g,1,none⟩=some (.string s1)∧w7.drew.cell? ⟨g,2,none⟩=some (.string s2)∧w7.drew.cell? ⟨g,5,none⟩=some (.string ⟨#[111,107]⟩)∧w7.drew.cell? ⟨g,6,none⟩=some (.string ⟨#[111,107]⟩)∧w7.drew.cell? ⟨g,9,none⟩=some (.string ⟨#[119,104,97,116]⟩))∧Below w7.heap.size w7 w7.drew:=⟨⟨C0,C1,C2,C5,C6,C9⟩,(Below.refl _ _).drew⟩
 go_region_held3 (fun w'=>(w'.cell? ⟨g,0,none⟩=some (.string ⟨#[111,107]⟩)∧w'.cell? ⟨g,1,none⟩=some (.string s1)∧w'.cell? ⟨g,2,none⟩=some (.string s2)∧w'.cell? ⟨g,5,none⟩=some (.string ⟨#[111,107]⟩)∧w'.cell? ⟨g,6,none⟩=some (.string ⟨#[111,107]⟩)∧w'.cell? ⟨g,9,none⟩=some (.string ⟨#[119,104,97,116]⟩))∧Below w7.heap.size w7 w')
  (first | with_reducible assumption | exact keep6D (Nat.le_refl _) (by with_reducible assumption) (by with_reducible assumption))
  (first
    | (go_at_call 11;(with_reducible refine Calls.mono (F1.out _ ?_) ?_);(exact held_below2 (by with_reducible assumption));rintro e1 wA ⟨rfl,hbA⟩)
    | (go_at_call 9;(with_reducible refine Calls.mono (F2.out _) ?_);rintro e1 wB ⟨rfl,rfl⟩)
    | (go_at_call 13;(with_reducible refine Calls.mono (F3.out _ ?_) ?_);(exact held_below2 (by with_reducible assumption));rintro e1 wC ⟨uC,rfl,hrC⟩;obtain ⟨pC,nC,kC,rfl⟩:=retTs_shape hrC;have hbC:=retTs_bel hrC)
    | (go_at_call 12;(with_reducible refine Calls.mono (F4.out _ _ _ _ hrC (Below.refl _ _)) ?_);rintro e1 wD ⟨rfl,hbD⟩))
 have hbw:=held_below2 (by with_reducible assumption : _∧Below w7.heap.size w7 wD)
 obtain ⟨C4,C7,C8,C10⟩:=HC2.out
 have D4:=cell_below hbw C4
 have D7:=cell_below hbw C7
 have D8:=cell_below hbw C8
 have D10:=cell_below hbw C10
 have Hi8:=Lib.hid (Hi7.out.below hbw)
 have Hj8:=Lib.hid (Hj7.out.below hbw)
 have HB8:=Lib.hid (HB7.out.trans (hbw.mono HB7.out.size))
 have G1:=Lib.hid (MulPerms5_any _ _ xs wD Hi8.out Hi8.out Hp.out H5.out)
 have hcls:=kpR_ok (sq_is Hp.out H5.out)
 have Hcls:=Lib.hid hcls
 clear C0 C1 C2 C5 C6 C9 C4 C7 C8 C10 HC2 F1 F2 F3 F4 hbw
 go_wp2_with fail
 refine G1.out.mono ?_
 rintro e w8 ⟨u4,rfl,hR4,⟨p4,n4,k4,rfl⟩,hb8⟩
 have E4:=cell_below hb8 D4
 have E7:=cell_below hb8 D7
 have E8:=cell_below hb8 D8
 have E10:=cell_below hb8 D10
 have Hi9:=Lib.hid (Hi8.out.below hb8)
 have Hj9:=Lib.hid (Hj8.out.below hb8)
 have HB9:=Lib.hid (HB8.out.trans (hb8.mono HB8.out.size))
 have HR4:=Lib.hid hR4
 clear hR4 D4 D7 D8 D10 hb8
 go_wp2_with fail
 obtain ⟨zn,hzn⟩ : ∃ zn : Nat,stdZ k (n - k)=(zn : Int):=⟨(stdZ k (n - k)).toNat,by have:=stdZ_rng (k:=k) (c:=n - k) (by have:=Hnk.out;omega);omega⟩
 have Hzm:=Lib.hid (show zn < 1000000000000000000 by have:=stdZ_rng (k:=k) (c:=n - k) (by have:=Hnk.out;omega);omega)
 have Hzn:=Lib.hid hzn
 obtain ⟨t7,ht7⟩ : ∃ t7,t7=bytA (fmtPts (filL ys ys k ((n - k : Nat) : Int))):=⟨_,rfl⟩
 obtain ⟨t8,ht8⟩ : ∃ t8,t8=bytA (fmtN zn):=⟨_,rfl⟩
 obtain ⟨tC,htC⟩ : ∃ tC,tC=bytA (fmtCls (kpR xs)):=⟨_,rfl⟩
 obtain ⟨tI,htI⟩ : ∃ tI,tI=bytA (fmtIs [(k : Int),(n : Int)]):=⟨_,rfl⟩
 rw [← ht7] at E7
 rw [hzn,Int.toNat_natCast,← ht8] at E8
 obtain ⟨s10,hs10⟩ : ∃ s10,s10=bytA (Lib.join (shwL xs ys (kpR xs) k n) [47]):=⟨_,rfl⟩
 rw [← hs10] at E10
 rw [shw_eq,← Hsy.out,← htC,← htI,← Htx.out] at hs10
 have Hs10:=Lib.hid hs10
 clear hs10
 have Hye:=Lib.hid (shOk_all (show shOk ys=true by have:=Hx.out;unfold bxOk at this;simp only [Bool.and_eq_true] at this;exact this.1.1))
 have htCs : tC.size≤2801:=by rw [htC,bytA_size];exact fmtCls_len hcls.1
 have htIs : tI.size≤1000:=by rw [htI,bytA_size];have:=fmtIs_len (xs:=[(k : Int),(n : Int)]) (show 2≤16 by decide);omega
 have Ht7:=Lib.hid ht7
 have Ht8:=Lib.hid ht8
 have HtC:=Lib.hid htC
 have HtI:=Lib.hid htI
 have Hsq3:=Lib.hid (squ_all (show 1≤n by have:=Hnk.out;omega) Hnk.out.2.1 Hnk.out.2.2 Hx.out)
 clear hzn ht7 ht8 htC htI
 refine (implTrim_yes _ xs w8 Hi9.out Hp.out).mono ?_
 rintro e w9 ⟨u5,rfl,ho5,hb9⟩
 obtain ⟨p5,k5,rfl,_,_⟩:=ho5.shape
 have hba:=below_alloc w9 (.cells #[.slice p5 (trimL xs).length k5,.int .i64 1] 42)
 have HK5:=Lib.hid (rd_cl1 (heap_alloc_top w9 (.cells #[.slice p5 (trimL xs).length k5,.int .i64 1] 42)) (ho5.ints.below hba))
 have hb10:=hb9.trans (hba.mono hb9.size)
 have HW10:=Lib.hid hb10
 have E4:=cell_below hb10 E4
 have E7:=cell_below hb10 E7
 have E8:=cell_below hb10 E8
 have E10:=cell_below hb10 E10
 have Hi10:=Lib.hid (Hi9.out.below hb10)
 have Hj10:=Lib.hid (Hj9.out.below hb10)
 have HB10:=Lib.hid (HB9.out.trans (hb10.mono HB9.out.size))
 clear ho5 hb9 hba hb10
 cases hsq : sqR xs with
 | none =>
   rw [show tmR xs=⟨#[110,111]⟩ by unfold tmR;rw [hsq]] at E4
   have HKp:=Lib.hid (show kpR xs=[(trimL xs,1)] by unfold kpR;rw [hsq];rfl)
   have HKc:=Lib.hid (HKp.out.symm ▸ HK5.out)
   have Hsq:=Lib.hid hsq
   clear hsq
   go_wp2_with fail
   generalize w9.alloc (.cells #[.slice p5 (trimL xs).length k5,.int .i64 1] 42)=wK at *
   refine (GrProduct_any _ _ ys ys k n wK Hj10.out Hj10.out Hx.out Hx.out Hnk.out.2.2 (by have:=Hnk.out;omega) (by have:=Hnk.out;omega) Hsq3.out.1).mono ?_
   rintro e wG ⟨u6,lo6,rfl,_,ho6,_,_,hbG⟩
   have F5:=Lib.hid (fun W (hW : Below wG.heap.size wG W)=>FormatParts_any u6 _ W (ho6.rd.below hW) Hsq3.out.2.1 Hsq3.out.2.2)
   obtain ⟨p6,m6,k6,e6⟩ : ∃ p m k,u6=.slice p m k:=by obtain ⟨f,⟨p,q,e,_⟩,_⟩:=ho6.rd;exact ⟨_,_,_,e⟩
   subst e6
   rw [← Ht7.out] at F5
   have D4:=cell_below hbG E4
   have D7:=cell_below hbG E7
   have D8:=cell_below hbG E8
   have D10:=cell_below hbG E10
   have F6:=Lib.hid (fun W=>Hzn.out ▸ DegreeOfGr_any k n W Hnk.out.2.2 (by have:=Hnk.out;omega) (by have:=Hnk.out;omega))
   have F7:=Lib.hid (fun W=>Ht8.out ▸ FormatInt_any zn W Hzm.out)
   have F8:=Lib.hid (fun W (hW : Below wG.heap.size wG W)=>HtC.out ▸ FormatClasses_any _ (kpR xs) W ((HKc.out.below hbG).below hW) Hcls.out.1 Hcls.out.2)
   have F9:=Lib.hid (fun W (hW : Below wG.heap.size wG W)=>Hsy.out ▸ FormatInts_any _ ys W ((Hj10.out.below hbG).below hW) Hye.out.2 (by have:=Hye.out.1;omega))
   have F10:=Lib.hid (fun (u : World) (v : Value) (hv : Ints u v [(k : Int),(n : Int)])=>HtI.out ▸ FormatInts_any v [(k : Int),(n : Int)] u hv (by intro x hx;simp only [List.mem_cons,List.not_mem_nil,or_false] at hx;have:=Hnk.out;omega) (by simp))
   have HBG:=Lib.hid (HB10.out.trans (hbG.mono HB10.out.size))
   clear ho6 E4 E7 E8 E10 hbG
   go_wp2_with fail
   have Hdr:=Lib.hid (fun (o : Obj)=>show Below (wG.alloc o).heap.size (wG.alloc o) (wG.alloc o).drew from (Below.refl _ _).drew)
   have hz1 : (9223372036854775807 < tx.size+1)=False:=eq_false (by omega)
   have hz2 : (9223372036854775807 < tx.size+1+tC.size)=False:=eq_false (by omega)
   have hz3 : (9223372036854775807 < tx.size+1+tC.size+1)=False:=eq_false (by omega)
   have hz4 : (9223372036854775807 < tx.size+1+tC.size+1+sy.size)=False:=eq_false (by omega)
   have hz5 : (9223372036854775807 < tx.size+1+tC.size+1+sy.size+1)=False:=eq_false (by omega)
   have hz6 : (9223372036854775807 < tx.size+1+tC.size+1+sy.size+1+tI.size)=False:=eq_false (by omega)
   have hS0 : (wG.drew.cell? ⟨g,4,none⟩=some (.string ⟨#[110,111]⟩)∧wG.drew.cell? ⟨g,7,none⟩=some (.string t7)∧wG.drew.cell? ⟨g,8,none⟩=some (.string t8)∧wG.drew.cell? ⟨g,10,none⟩=some (.string s10))∧Below wG.heap.size wG wG.drew:=⟨⟨D4,D7,D8,D10⟩,(Below.refl _ _).drew⟩
   go_region_held3 (fun w'=>(w'.cell? ⟨g,4,none⟩=some (.string ⟨#[110,111]⟩)∧w'.cell? ⟨g,7,none⟩=some (.string t7)∧w'.cell? ⟨g,8,none⟩=some (.string t8)∧w'.cell? ⟨g,10,none⟩=some (.string s10))∧Below wG.heap.size wG w')
    (first | with_reducible assumption | exact keep4w (by with_reducible assumption) (by with_reducible assumption) | exact keep4w (below_alloc _ _) (by with_reducible assumption))
    (first
      | (go_at_call 18;(with_reducible refine Calls.mono (F5.out _ ?_) ?_);(exact held_below2 (by with_reducible assumption));rintro e1 wP ⟨rfl,hbP⟩)
      | (go_at_call 19;(with_reducible refine Calls.mono (F6.out _) ?_);rintro e1 wQ ⟨rfl,hbQ⟩)
      | (go_at_call 9;(with_reducible refine Calls.mono (F7.out _) ?_);rintro e1 wR ⟨rfl,rfl⟩)
      | (go_at_call 16;(with_reducible refine Calls.mono (F8.out _ ?_) ?_);(exact held_below2 (by with_reducible assumption));rintro e1 wS ⟨rfl,hbS⟩)
      | (go_at_call 10;(with_reducible refine Calls.mono (F9.out _ ?_) ?_);(exact held_below2 (by with_reducible assumption));rintro e1 wT ⟨rfl,hbT⟩)
      | (go_at_call 10;(with_reducible refine Calls.mono (F10.out _ _ ?_) ?_);(first | (with_reducible exact ints2 _ _ _) | (with_reducible exact (ints2 _ _ _).below hbT) | (with_reducible exact (ints2 _ _ _).below (below_trans hbS hbT)));rintro e1 wU ⟨rfl,hbU⟩))
   all_goals
    have hbw:=held_below2 (by with_reducible assumption : _∧Below wG.heap.size wG wU)
    rw [show (s10.toList == (tx ++ ⟨#[47]⟩ ++ tC ++ ⟨#[47]⟩ ++ sy ++ ⟨#[47]⟩ ++ tI).toList)=true from by rw [Hs10.out];exact beq_self_eq_true _]
    go_wp2_with fail
    go_ret
    exact ⟨rfl,HBG.out.trans (hbw.mono HBG.out.size)⟩
 | some L =>
   rw [show tmR xs=bytA (fmtCls L) by unfold tmR;rw [hsq]] at E4
   have HKp:=Lib.hid (show kpR xs=L by unfold kpR;rw [hsq];rfl)
   have HKc:=Lib.hid (HKp.out.symm ▸ (HR4.out L hsq).below HW10.out)
   have HF:=Lib.hid (FormatClasses_any _ _ _ (HKp.out ▸ HKc.out) (HKp.out ▸ Hcls.out.1) (HKp.out ▸ Hcls.out.2))
   have Hsq:=Lib.hid hsq
   clear hsq
   obtain ⟨t4,ht4⟩ : ∃ t4,t4=bytA (fmtCls L):=⟨_,rfl⟩
   rw [← ht4] at E4 HF
   clear ht4
   go_wp2_with fail
   refine HF.out.mono ?_
   rintro e wK ⟨rfl,hbK⟩
   have HKc:=Lib.hid (HKc.out.below hbK)
   have E4:=cell_below hbK E4
   have E7:=cell_below hbK E7
   have E8:=cell_below hbK E8
   have E10:=cell_below hbK E10
   have Hi10:=Lib.hid (Hi10.out.below hbK)
   have Hj10:=Lib.hid (Hj10.out.below hbK)
   have HB10:=Lib.hid (HB10.out.trans (hbK.mono HB10.out.size))
   clear hbK
   go_wp2_with fail
   refine (GrProduct_any _ _ ys ys k n wK Hj10.out Hj10.out Hx.out Hx.out Hnk.out.2.2 (by have:=Hnk.out;omega) (by have:=Hnk.out;omega) Hsq3.out.1).mono ?_
   rintro e wG ⟨u6,lo6,rfl,_,ho6,_,_,hbG⟩
   have F5:=Lib.hid (fun W (hW : Below wG.heap.size wG W)=>FormatParts_any u6 _ W (ho6.rd.below hW) Hsq3.out.2.1 Hsq3.out.2.2)
   obtain ⟨p6,m6,k6,e6⟩ : ∃ p m k,u6=.slice p m k:=by obtain ⟨f,⟨p,q,e,_⟩,_⟩:=ho6.rd;exact ⟨_,_,_,e⟩
   subst e6
   rw [← Ht7.out] at F5
   have D4:=cell_below hbG E4
   have D7:=cell_below hbG E7
   have D8:=cell_below hbG E8
   have D10:=cell_below hbG E10
   have F6:=Lib.hid (fun W=>Hzn.out ▸ DegreeOfGr_any k n W Hnk.out.2.2 (by have:=Hnk.out;omega) (by have:=Hnk.out;omega))
   have F7:=Lib.hid (fun W=>Ht8.out ▸ FormatInt_any zn W Hzm.out)
   have F8:=Lib.hid (fun W (hW : Below wG.heap.size wG W)=>HtC.out ▸ FormatClasses_any _ (kpR xs) W ((HKc.out.below hbG).below hW) Hcls.out.1 Hcls.out.2)
   have F9:=Lib.hid (fun W (hW : Below wG.heap.size wG W)=>Hsy.out ▸ FormatInts_any _ ys W ((Hj10.out.below hbG).below hW) Hye.out.2 (by have:=Hye.out.1;omega))
   have F10:=Lib.hid (fun (u : World) (v : Value) (hv : Ints u v [(k : Int),(n : Int)])=>HtI.out ▸ FormatInts_any v [(k : Int),(n : Int)] u hv (by intro x hx;simp only [List.mem_cons,List.not_mem_nil,or_false] at hx;have:=Hnk.out;omega) (by simp))
   have HBG:=Lib.hid (HB10.out.trans (hbG.mono HB10.out.size))
   clear ho6 E4 E7 E8 E10 hbG
   go_wp2_with fail
   have Hdr:=Lib.hid (fun (o : Obj)=>show Below (wG.alloc o).heap.size (wG.alloc o) (wG.alloc o).drew from (Below.refl _ _).drew)
   have hz1 : (9223372036854775807 < tx.size+1)=False:=eq_false (by omega)
   have hz2 : (9223372036854775807 < tx.size+1+tC.size)=False:=eq_false (by omega)
   have hz3 : (9223372036854775807 < tx.size+1+tC.size+1)=False:=eq_false (by omega)
   have hz4 : (9223372036854775807 < tx.size+1+tC.size+1+sy.size)=False:=eq_false (by omega)
   have hz5 : (9223372036854775807 < tx.size+1+tC.size+1+sy.size+1)=False:=eq_false (by omega)
   have hz6 : (9223372036854775807 < tx.size+1+tC.size+1+sy.size+1+tI.size)=False:=eq_false (by omega)
   have hS0 : (wG.drew.cell? ⟨g,4,none⟩=some (.string t4)∧wG.drew.cell? ⟨g,7,none⟩=some (.string t7)∧wG.drew.cell? ⟨g,8,none⟩=some (.string t8)∧wG.drew.cell? ⟨g,10,none⟩=some (.string s10))∧Below wG.heap.size wG wG.drew:=⟨⟨D4,D7,D8,D10⟩,(Below.refl _ _).drew⟩
   go_region_held3 (fun w'=>(w'.cell? ⟨g,4,none⟩=some (.string t4)∧w'.cell? ⟨g,7,none⟩=some (.string t7)∧w'.cell? ⟨g,8,none⟩=some (.string t8)∧w'.cell? ⟨g,10,none⟩=some (.string s10))∧Below wG.heap.size wG w')
    (first | with_reducible assumption | exact keep4w (by with_reducible assumption) (by with_reducible assumption) | exact keep4w (below_alloc _ _) (by with_reducible assumption))
    (first
      | (go_at_call 18;(with_reducible refine Calls.mono (F5.out _ ?_) ?_);(exact held_below2 (by with_reducible assumption));rintro e1 wP ⟨rfl,hbP⟩)
      | (go_at_call 19;(with_reducible refine Calls.mono (F6.out _) ?_);rintro e1 wQ ⟨rfl,hbQ⟩)
      | (go_at_call 9;(with_reducible refine Calls.mono (F7.out _) ?_);rintro e1 wR ⟨rfl,rfl⟩)
      | (go_at_call 16;(with_reducible refine Calls.mono (F8.out _ ?_) ?_);(exact held_below2 (by with_reducible assumption));rintro e1 wS ⟨rfl,hbS⟩)
      | (go_at_call 10;(with_reducible refine Calls.mono (F9.out _ ?_) ?_);(exact held_below2 (by with_reducible assumption));rintro e1 wT ⟨rfl,hbT⟩)
      | (go_at_call 10;(with_reducible refine Calls.mono (F10.out _ _ ?_) ?_);(first | (with_reducible exact ints2 _ _ _) | (with_reducible exact (ints2 _ _ _).below hbT) | (with_reducible exact (ints2 _ _ _).below (below_trans hbS hbT)));rintro e1 wU ⟨rfl,hbU⟩))
   all_goals
    have hbw:=held_below2 (by with_reducible assumption : _∧Below wG.heap.size wG wU)
    rw [show (s10.toList == (tx ++ ⟨#[47]⟩ ++ tC ++ ⟨#[47]⟩ ++ sy ++ ⟨#[47]⟩ ++ tI).toList)=true from by rw [Hs10.out];exact beq_self_eq_true _]
    go_wp2_with fail
    go_ret
    exact ⟨rfl,HBG.out.trans (hbw.mono HBG.out.size)⟩
end
end Go.Proofs.YtincaodpjdeoeaaGreatDoor
