/-
  A part of the proof of FnTop (texts of one proof, joined).
-/
import Derived.Test.YtijadclebjcckaaGreatJ23
namespace Go.Proofs.YtijadclebjcckaaGreat
set_option linter.all false
set_option maxRecDepth 100000
set_option maxHeartbeats 16000000
section
open Go.RowKit
theorem classIn_any (v1 v2 : Value) (cs : List Cls) (t : List Int) (w : World) (h1 : RdCl w v1 cs) (h2 : Ints w v2 t) :
 Calls Tryz.prog 15 #[v1,v2] w fun e w'=>e=.returned (.int .i64 (inC cs t))∧Qt w w':=by
 obtain ⟨f,hs1,hf⟩:=h1
 obtain ⟨p,cap,rfl,⟨hx1,hx⟩,hxc⟩:=hs1.two
 unfold maxLen at hx
 obtain ⟨N,hN⟩ : ∃ N,N=cs.length:=⟨_,rfl⟩
 have HN:=Lib.hid hN
 rw [← hN] at hx1 hxc hf ⊢
 have Hf:=Lib.hid hf
 have Hxc:=Lib.hid hxc
 have HT:=Lib.hid h2
 clear hf hs1 hxc hN h2
 obtain ⟨K,hK⟩ : ∃ K,K=inC cs t:=⟨_,rfl⟩
 rw [← hK]
 have HK:=Lib.hid hK
 clear hK
 go_enter Tryz.func15,Tryz.ntmps15
 go_wp2_with fail
 go_loopg [5] N (fun n i wr=> ∃ k : Nat,k≤N∧n=N - k∧i=.int .i64 k∧Hid (Qt w wr)∧Hid (inC (cs.drop k) t=K))
 case atStart=>exact ⟨0,Nat.zero_le _,rfl,rfl,Lib.hid (Qt.refl _),Lib.hid (by rw [List.drop_zero,HK.out])⟩
 case round =>
  obtain ⟨k,hk,rfl,rfl,hq,hkk⟩:=hrel
  obtain ⟨wx,rfl⟩ : ∃ x : World,x=wr:=⟨_,rfl⟩
  have HQ:=Lib.hid hq.out
  have HKK:=Lib.hid hkk.out
  clear hq hkk
  by_cases hlt : k < N
  ·have hlti : (k : Int) < (N : Int):=by omega
   obtain ⟨b,rfl,hc⟩:=Hxc.out (by omega)
   obtain ⟨a0,a1⟩:=hc k hlt
   have c0:=HQ.out.cell a0
   have c1:=HQ.out.cell a1
   have i1:=(Hf.out k hlt).qt HQ.out
   obtain ⟨y1,hy1'⟩ : ∃ y,y=f k:=⟨_,rfl⟩
   rw [← hy1'] at c0 i1
   obtain ⟨c,hcc⟩ : ∃ c,c=(cs.getD k clD).2:=⟨_,rfl⟩
   obtain ⟨xs,hxx⟩ : ∃ xs,xs=(cs.getD k clD).1:=⟨_,rfl⟩
   rw [← hcc] at c1
   rw [← hxx] at i1
   have hdr : cs.drop k=(xs,c) :: cs.drop (k+1):=by
    rw [List.drop_eq_getElem_cons (by rw [← HN.out];exact hlt),hxx,hcc,List.getD_eq_getElem?_getD,List.getElem?_eq_getElem (by rw [← HN.out];exact hlt)];rfl
   have Hdr:=Lib.hid hdr
   have Hi1:=Lib.hid i1
   clear hc a0 a1 i1 hy1' hcc hxx hdr
   by_cases e : xs=t
   ·have Hq:=Lib.hid (lawInts_any y1 v2 xs t wx Hi1.out (HT.out.qt HQ.out))
    have Hd:=Lib.hid (decide_eq_true e)
    have He:=Lib.hid e
    clear e
    go_wp2_with fail
    refine Hq.out.mono ?_
    rintro e w' ⟨rfl,q,rfl⟩
    rw [Hd.out]
    go_wp2_with fail
    go_ret
    have hk : K=c:=by rw [← HKK.out,Hdr.out,inC,if_pos He.out]
    rw [hk]
    exact ⟨rfl,HQ.out.drewN q⟩
   ·have Hq:=Lib.hid (lawInts_any y1 v2 xs t wx Hi1.out (HT.out.qt HQ.out))
    have Hd:=Lib.hid (decide_eq_false e)
    have He:=Lib.hid e
    clear e
    go_wp2_with fail
    refine Hq.out.mono ?_
    rintro e w' ⟨rfl,q,rfl⟩
    rw [Hd.out]
    go_wp2_with fail
    go_roundg (N - (k+1))
    case measure=>omega
    case rel=>exact ⟨k+1,by omega,rfl,by go_num,Lib.hid (HQ.out.drewN q),Lib.hid (by rw [← HKK.out,Hdr.out,inC,if_neg He.out])⟩
  ·obtain rfl : k=N:=by omega
   go_wp2
   go_ret
   refine ⟨?_,HQ.out⟩
   rw [← HKK.out,List.drop_of_length_le (by rw [HN.out];exact Nat.le_refl _)];rfl
theorem isSize_yes (n : Nat) (h1 : 1≤n) (h7 : n≤7) (w : World) : Calls Tryz.prog 80 #[.int .i64 (n : Int)] w fun e w'=>e=.returned (.bool true)∧w=w':=by
 have hn1 : (1 : Int)≤n:=by omega
 have hn7 : (n : Int)≤7:=by omega
 go_enter Tryz.func80,Tryz.ntmps80
 go_wp2_with fail
 go_ret
 exact ⟨rfl,rfl⟩
theorem eqlA (a b c x y z : Int) (w : World) : (binOp .eql 128 (.agg #[.int .i64 a,.int .i64 b,.int .i64 c]) (.agg #[.int .i64 x,.int .i64 y,.int .i64 z])).run Tryz.prog w=.ok (.bool (decide ((a,b,c)=(x,y,z)))) w:=by
 have h1 : Tryz.prog.underlying 128=some (.array 3 3):=by kernel_rfl
 have h2 : Tryz.prog.underlying 3=some (.int .i64):=by kernel_rfl
 have h3 : Tryz.prog.plainKey 3=true:=by kernel_rfl
 have h4 : Tryz.prog.cellsOf 3=1:=by kernel_rfl
 obtain ⟨i,hi⟩ : ∃ i,Tryz.prog.info? 3=some i:=by
  cases h : Tryz.prog.info? 3 with
  | none=>have : (Tryz.prog.info? 3).isSome=true:=by kernel_rfl
          rw [h] at this;cases this
  | some i=>exact ⟨i,rfl⟩
 have hp : ∀ (p q r : Int) (w : World) (j : Nat) (v : Value),(#[Value.int .i64 p,.int .i64 q,.int .i64 r] : Array Value)[j]?=some v→(part 3 #[.int .i64 p,.int .i64 q,.int .i64 r] j).run Tryz.prog w=.ok v w:=fun p q r w j v h=>run_part_plain w h3 h
 have he0 : ∀ (p q : Int) (w : World) (d : Nat),(Op.equalIn (d+1) 3 (.int .i64 p) (.int .i64 q)).run Tryz.prog w=.ok (p == q) w:=fun p q w d=>by simp [Op.equalIn,run_underlying h2]
 have he:=fun (p q : Int) (w : World)=>he0 p q w 9998
 have hr : List.range 3=[0,1,2]:=by decide
 have key : (Op.equal 128 (.agg #[.int .i64 a,.int .i64 b,.int .i64 c]) (.agg #[.int .i64 x,.int .i64 y,.int .i64 z])).run Tryz.prog w=.ok (decide ((a,b,c)=(x,y,z))) w:=by
  unfold Op.equal Op.maxDepth
  rw [run_equalIn_array w 9999 _ _ h1 hi,h4,hr]
  simp only [Op.eqItems,Sem.run_bind,Nat.mul_one]
  rw [hp a b c w 0 (.int .i64 a) rfl,Result.andThen_ok,hp x y z w 0 (.int .i64 x) rfl,Result.andThen_ok,he a x w,Result.andThen_ok]
  by_cases e0 : a=x
  ·rw [show (a == x)=true by simp [e0]]
   simp only [Bool.not_true,Bool.false_eq_true,if_false,Sem.run_bind]
   rw [hp a b c w 1 (.int .i64 b) rfl,Result.andThen_ok,hp x y z w 1 (.int .i64 y) rfl,Result.andThen_ok,he b y w,Result.andThen_ok]
   by_cases e1 : b=y
   ·rw [show (b == y)=true by simp [e1]]
    simp only [Bool.not_true,Bool.false_eq_true,if_false,Sem.run_bind]
    rw [hp a b c w 2 (.int .i64 c) rfl,Result.andThen_ok,hp x y z w 2 (.int .i64 z) rfl,Result.andThen_ok,he c z w,Result.andThen_ok]
    by_cases e2 : c=z
    ·rw [show (c == z)=true by simp [e2]]
     simp [e0,e1,e2]
    ·rw [show (c == z)=false by simp [e2]]
     simp [e2]
   ·rw [show (b == y)=false by simp [e1]]
    simp [e1]
  ·rw [show (a == x)=false by simp [e0]]
   simp [e0]
 simp only [binOp]
 simp [key]
theorem atF_any (r k A : Nat) (w : World) (hA : A=atN r k) (hr : r≤1000) (hk : k≤1000) : Calls Tryz.prog 61 #[.int .i64 (r : Int),.int .i64 (k : Int)] w fun e w'=>e=.returned (.int .i64 (A : Int))∧w=w':=by
 unfold atN at hA
 obtain ⟨N,hN⟩ : ∃ N,N=r * (r+1):=⟨_,rfl⟩
 have hNle : N≤1001000:=by rw [hN];have:=Nat.mul_le_mul hr (show r+1≤1001 by omega);omega
 rw [← hN] at hA
 have hqz : (r : Int) * ((r : Int)+1)=(N : Int):=by rw [hN,Int.natCast_mul];rfl
 obtain ⟨H,hH⟩ : ∃ H,H=N / 2:=⟨_,rfl⟩
 have hlz : (N : Int).tdiv 2=(H : Int):=by rw [hH,Int.tdiv_eq_ediv_of_nonneg (by omega)];omega
 have hlz2 : (N : Int) / 2=(H : Int):=by omega
 rw [← hH] at hA
 have hHle : H≤1001000:=by omega
 have Hs:=Lib.hid (show (H : Int)+(k : Int)=(A : Int) by omega)
 clear hN hA hH
 go_enter Tryz.func61,Tryz.ntmps61
 go_wp2_with fail
 go_ret
 exact ⟨ret_int Hs.out,rfl⟩
def trD : Tr:=(0,0,0)
def trF (i j : Nat) : Value:=match j with
 | 0=>.int .i64 (triL.getD i trD).1
 | 1=>.int .i64 (triL.getD i trD).2.1
 | _=>.int .i64 (triL.getD i trD).2.2
def RdT (w : World) (v : Value) : Prop:=RdS w 3 v 6 trF
theorem RdT.below {w w' : World} {v : Value} (h : RdT w v) (hb : Below w.heap.size w w') : RdT w' v:=RdS.below h hb
theorem tr_mem {k : Nat} (h : k < 6) : triL.getD k trD ∈ triL:=by
 rw [List.getD_eq_getElem?_getD,List.getElem?_eq_getElem (show k < triL.length from h)]
 exact List.getElem_mem _
theorem tr_take {k : Nat} (h : k < 6) : triL.take (k+1)=triL.take k ++ [triL.getD k trD]:=by
 rw [List.take_add_one,List.getD_eq_getElem?_getD,List.getElem?_eq_getElem (show k < triL.length from h)]
 rfl
theorem index3_any (v : Value) (x y z : Int) (w : World) (h : RdT w v) :
 Calls Tryz.prog 122 #[v,.agg #[.int .i64 x,.int .i64 y,.int .i64 z]] w fun e w'=> ∃ r : Int,e=.returned (.int .i64 r)∧(0≤r ↔ (x,y,z) ∈ triL) ∧ -1≤r∧Below w.heap.size w w':=by
 obtain ⟨p,cap,rfl,⟨hx1,hx⟩,hxc⟩:=h
 unfold maxLen at hx
 obtain ⟨b,rfl,hc⟩:=hxc (by omega)
 obtain ⟨W,hW⟩ : ∃ W,W=w.alloc (.cells #[.int .i64 x,.int .i64 y,.int .i64 z] 128):=⟨_,rfl⟩
 have z0 : W.heap[w.heap.size]?=some (.cells #[.int .i64 x,.int .i64 y,.int .i64 z] 128 (0,0)):=by rw [hW];exact heap_alloc_top _ _
 have hb0 : Below w.heap.size w W:=by rw [hW];exact below_alloc w _
 have HW:=Lib.hid hW
 have Hz0:=Lib.hid z0
 have Hb0:=Lib.hid hb0
 have Hc:=Lib.hid hc
 clear hW z0 hb0 hc hxc
 go_enter Tryz.func122,Tryz.ntmps122
 go_wp2_with fail
 rw [← HW.out]
 go_loopg [8] 6 (fun g i wr=> ∃ k : Nat,k≤6∧g=6 - k∧i=.int .i64 k∧Qt W wr∧Hid ((x,y,z) ∉ triL.take k))
 case atStart=>exact ⟨0,Nat.zero_le _,rfl,rfl,Qt.refl _,by simp [Hid]⟩
 case round =>
  obtain ⟨k,hk,rfl,rfl,hq,hp⟩:=hrel
  by_cases hlt : k < 6
  ·have e0:=hq.cell (cell_of_blk Hz0.out (j:=0) rfl)
   have e1:=hq.cell (cell_of_blk Hz0.out (j:=1) rfl)
   have e2:=hq.cell (cell_of_blk Hz0.out (j:=2) rfl)
   have c0 : wr.cell? ⟨b,k * 3,none⟩=some (trF k 0):=hq.cell (cell_below Hb0.out (Hc.out k hlt 0 (by omega)))
   have c1:=hq.cell (cell_below Hb0.out (Hc.out k hlt 1 (by omega)))
   have c2:=hq.cell (cell_below Hb0.out (Hc.out k hlt 2 (by omega)))
   have hkz : (k : Int) < 6:=by omega
   unfold trF at c0 c1 c2
   obtain ⟨t,ht⟩ : ∃ t,t=triL.getD k trD:=⟨_,rfl⟩
   rw [← ht] at c0 c1 c2
   have Ht:=Lib.hid ht
   have Hlt:=Lib.hid hlt
   obtain ⟨x',y',z'⟩:=t
   dsimp only at c0 c1 c2
   have heq:=fun (wq : World)=>eqlA x y z x' y' z' wq
   clear ht
   by_cases e : (x,y,z)=(x',y',z')
   ·have hd : decide ((x,y,z)=(x',y',z'))=true:=decide_eq_true e
    rw [hd] at heq
    have He:=Lib.hid e
    clear hd e
    go_wp2_with fail
    go_quiet (fail)
    go_wp2_with fail
    go_ret
    exact ⟨k,rfl,⟨fun _=>by rw [He.out,Ht.out];exact tr_mem Hlt.out,fun _=>by omega⟩,by omega,Hb0.out.trans (((hq.drewN nq).below _).mono Hb0.out.size)⟩
   ·have hd : decide ((x,y,z)=(x',y',z'))=false:=decide_eq_false e
    rw [hd] at heq
    have He:=Lib.hid e
    clear hd e
    go_wp2_with fail
    go_quiet (fail)
    go_wp2_with fail
    go_roundg (6 - (k+1))
    case measure=>omega
    case rel =>
     refine ⟨k+1,by omega,rfl,by go_num,hq.drewN nq,?_⟩
     unfold Hid
     rw [tr_take Hlt.out,← Ht.out]
     have h3:=hp.out
     simp only [List.mem_append,List.mem_singleton,not_or]
     exact ⟨h3,He.out⟩
  ·go_wp2_with fail
   go_ret
   obtain rfl : k=6:=by omega
   have h3:=hp.out
   exact ⟨-1,rfl,⟨fun h=>absurd h (by decide),fun h=>absurd h h3⟩,by omega,Hb0.out.trans ((hq.below _).mono Hb0.out.size)⟩
theorem contains3_any (v : Value) (x y z : Int) (w : World) (h : RdT w v) :
 Calls Tryz.prog 93 #[v,.agg #[.int .i64 x,.int .i64 y,.int .i64 z]] w fun e w'=>e=.returned (.bool (decide ((x,y,z) ∈ triL)))∧Below w.heap.size w w':=by
 have Hh:=Lib.hid h
 obtain ⟨p,cap,rfl,_⟩:=h
 have hb0:=below_alloc w (.cells #[.int .i64 x,.int .i64 y,.int .i64 z] 128)
 have z0 : (w.alloc (.cells #[.int .i64 x,.int .i64 y,.int .i64 z] 128)).heap[w.heap.size]?=some (.cells #[.int .i64 x,.int .i64 y,.int .i64 z] 128 (0,0)):=heap_alloc_top _ _
 have e0:=cell_of_blk z0 (j:=0) rfl
 have e1:=cell_of_blk z0 (j:=1) rfl
 have e2:=cell_of_blk z0 (j:=2) rfl
 have Hb0:=Lib.hid hb0
 clear z0 hb0
 go_enter Tryz.func93,Tryz.ntmps93
 go_wp2_with fail
 refine (index3_any _ x y z _ (Hh.out.below Hb0.out)).mono ?_
 rintro e w1 ⟨r,rfl,hr,hr1,hq⟩
 have Hr:=Lib.hid hr
 clear hr
 go_wp2_with fail
 go_ret
 exact ⟨ret_bool (by rw [decide_eq_decide];exact Hr.out),Hb0.out.trans (hq.mono Hb0.out.size)⟩
theorem info_tr : (Tryz.prog.info? 128).map (fun i=>(i.zero,i.size,i.bytes))=some (some (.agg #[.int .i64 0,.int .i64 0,.int .i64 0]),3,24):=by kernel_rfl
def trB : List Value:=[.int .i64 0,.int .i64 0,.int .i64 0,.int .i64 1,.int .i64 1,.int .i64 1,.int .i64 0,.int .i64 1,.int .i64 2,.int .i64 1,.int .i64 2,.int .i64 0,.int .i64 2,.int .i64 0,.int .i64 1]
def trG (j : Nat) : Value:=match j with
 | 0=>.int .i64 1
 | 1=>.int .i64 0
 | _=>.int .i64 3
theorem triples_any (w : World) : Calls Tryz.prog 63 #[.bool true] w fun e w'=> ∃ u,e=.returned u∧OwnS w' w.heap.size w'.heap.size 128 3 u 6 trF∧Below w.heap.size w w':=by
 have Ho:=Lib.hid (show OwnS (w.alloc (.cells trB.toArray 128)) w.heap.size (w.heap.size+1) 128 3 (.slice (some ⟨w.heap.size,0,none⟩) 5 5) 5 trF from
  ⟨trB,⟨⟨rfl,.inr ⟨w.heap.size,5,trB.toArray,rfl,Nat.le_refl _,heap_alloc_top w _,Nat.le_refl _,by decide,rfl,rfl⟩⟩,fun k hk=>by simp [Value.ownBlock] at hk;omega⟩,fun i hi j hj=>by
    have h1 : i=0 ∨ i=1 ∨ i=2 ∨ i=3 ∨ i=4:=by omega
    have h2 : j=0 ∨ j=1 ∨ j=2:=by omega
    rcases h1 with rfl | rfl | rfl | rfl | rfl <;> rcases h2 with rfl | rfl | rfl <;> rfl⟩)
 have Hb0:=Lib.hid (below_alloc2 w (.cells trB.toArray 128) (.cells #[.int .i64 1,.int .i64 0,.int .i64 3] 128))
 have Hsz:=Lib.hid (show ((w.alloc (.cells trB.toArray 128)).alloc (.cells #[.int .i64 1,.int .i64 0,.int .i64 3] 128)).heap.size=w.heap.size+1+1 by rw [size_alloc,size_alloc])
 have Hy:=Lib.hid (show ∀ j,j < 3→((w.alloc (.cells trB.toArray 128)).alloc (.cells #[.int .i64 1,.int .i64 0,.int .i64 3] 128)).cell? ⟨w.heap.size+1,j,none⟩=some (trG j) from fun j hj=>by
  have z0 : ((w.alloc (.cells trB.toArray 128)).alloc (.cells #[.int .i64 1,.int .i64 0,.int .i64 3] 128)).heap[w.heap.size+1]?=some (.cells #[.int .i64 1,.int .i64 0,.int .i64 3] 128 (0,0)):=heap_alloc_at _ _ (by rw [size_alloc])
  match j,hj with
  | 0,_=>exact cell_of_blk z0 (j:=0) rfl
  | 1,_=>exact cell_of_blk z0 (j:=1) rfl
  | 2,_=>exact cell_of_blk z0 (j:=2) rfl)
 go_enter Tryz.func63,Tryz.ntmps63
 go_wp2_with (at_builtin;go_must (refine wpList_append_S rfl (.tmp 11) (.tmp 13) 98 rfl 128 _ 3 24 Tryz.underlying98 info_tr rfl (by omega) w.heap.size (w.heap.size+1) _ 5 trF rfl (Ho.out.below (below_alloc _ _)) (by have:=Hsz.out;first | omega | (simp only [size_alloc];omega)) _ _ trG rfl Hy.out (by decide) (by decide) (by decide) ?_;intro v' w' hv hg))
 go_ret
 have hg' : ((w.alloc (.cells trB.toArray 128)).alloc (.cells #[.int .i64 1,.int .i64 0,.int .i64 3] 128)).grownBy w' (Value.slice (some ⟨w.heap.size,0,none⟩) 5 5).ownBlock:=hg
 refine ⟨_,rfl,hv.congr fun i hi j hj=> ?_,Hb0.out.trans (grownBy_below hg' (lo:=w.heap.size) (hi:=w.heap.size+1) (fun k hk=>by simp [Value.ownBlock] at hk;omega) (Nat.le_refl _) (by have:=Hsz.out;omega))⟩
 by_cases e : i < 5
 ·rw [if_pos e]
 ·rw [if_neg e]
  obtain rfl : i=5:=by omega
  match j,hj with
  | 0,_=>rfl
  | 1,_=>rfl
  | 2,_=>rfl
end
section
open Go.RowKit Go.Shelf Go.Sort Go.Lib
structure RdPz (w : World) (vL vR vB : Value) (p : Puz) : Prop where
 L : Ints w vL p.L
 R : Ints w vR p.R
 B : Ints w vB p.B
theorem RdPz.below {w w' : World} {vL vR vB : Value} {p : Puz} (h : RdPz w vL vR vB p) (hb : Below w.heap.size w w') : RdPz w' vL vR vB p:=⟨h.L.below hb,h.R.below hb,h.B.below hb⟩
theorem grow_bel (W : World) (n : Nat) (os : Array Obj) : Below W.heap.size W (grow (atd W n) os):=⟨rfl,rfl,rfl,by rw [size_grow];exact Nat.le_add_right _ _,fun k hk=>heap_grow_old _ _ (by exact hk)⟩
theorem atZ (r k A : Nat) (W : World) (hA : A=atN r k) (hr : r≤1000) (hk : k≤1000) : Calls Tryz.prog 61 #[.int .i64 (r : Int),.int .i64 (k : Int)] W fun e w'=>e=.returned (.int .i64 (A : Int)) ∧ ∃ q os',w'=grow (atd W q) os' :=
 (atF_any r k A W hA hr hk).mono fun e w' ⟨he,hw⟩=>⟨he,hw ▸ below_grow (Below.refl _ _)⟩
theorem at0Z (r A : Nat) (W : World) (hA : A=atN r 0) (hr : r≤1000) : Calls Tryz.prog 61 #[.int .i64 (r : Int),.int .i64 0] W fun e w'=>e=.returned (.int .i64 (A : Int)) ∧ ∃ q os',w'=grow (atd W q) os' :=
 atZ r 0 A W hA hr (by omega)
theorem sizeZ (n : Nat) (h1 : 1≤n) (h7 : n≤7) (W : World) : Calls Tryz.prog 80 #[.int .i64 (n : Int)] W fun e w'=>e=.returned (.bool true) ∧ ∃ q os',w'=grow (atd W q) os' :=
 (isSize_yes n h1 h7 W).mono fun e w' ⟨he,hw⟩=>⟨he,hw ▸ below_grow (Below.refl _ _)⟩
theorem con3Z (v : Value) (x y z : Int) (b : Bool) (W : World) (h : RdT W v) (hb : b=decide ((x,y,z) ∈ triL)) : Calls Tryz.prog 93 #[v,.agg #[.int .i64 x,.int .i64 y,.int .i64 z]] W fun e w'=>e=.returned (.bool b) ∧ ∃ q os',w'=grow (atd W q) os' :=
 (contains3_any v x y z W h).mono fun e w' ⟨he,hw⟩=>⟨by rw [he,hb],below_grow hw⟩
theorem right_row {n : Nat} {p : Puz} (h : rightB n p=true) {r : Nat} (hr : r < n) : p.L.getD (atN r 0) 0≤1∧p.R.getD (atN r r) 0≤1∧p.B.getD (atN (n - 1) r) 0≤1:=by
 unfold rightB at h
 rw [List.all_eq_true] at h
 have:=h r (List.mem_range.2 hr)
 simp only [Bool.and_eq_true,decide_eq_true_eq] at this
 exact ⟨this.1.1.1,this.1.1.2,this.1.2⟩
theorem right_cell {n : Nat} {p : Puz} (h : rightB n p=true) {r k : Nat} (hr : r < n) (hk : k≤r) : ((p.L.getD (atN r k) 0,p.R.getD (atN r k) 0,p.B.getD (atN r k) 0) ∈ triL)∧(k < r→(p.L.getD (atN r (k+1)) 0,p.R.getD (atN r k) 0,p.B.getD (atN (r - 1) k) 0) ∈ triL):=by
 unfold rightB at h
 rw [List.all_eq_true] at h
 have:=h r (List.mem_range.2 hr)
 simp only [Bool.and_eq_true,decide_eq_true_eq,List.all_eq_true,List.mem_range,Bool.or_eq_true,Bool.not_eq_true',decide_eq_false_iff_not] at this
 have h2:=this.2 k (by omega)
 exact ⟨h2.1,fun hk=>h2.2.resolve_left fun c=>c hk⟩
theorem at_lt {n r k : Nat} (h4 : n≤4) (hr : r < n) (hk : k≤r) : atN r k < n * (n+1) / 2:=by
 have h1 : n=1 ∨ n=2 ∨ n=3 ∨ n=4:=by omega
 have h2 : r=0 ∨ r=1 ∨ r=2 ∨ r=3:=by omega
 unfold atN
 rcases h1 with rfl | rfl | rfl | rfl <;> rcases h2 with rfl | rfl | rfl | rfl <;> omega
theorem rightPuzzle_any (n : Nat) (vL vR vB : Value) (p : Puz) (w : World) (h1 : 1≤n) (h4 : n≤4) (h : RdPz w vL vR vB p) (hp : pzB n p=true) :
 Calls Tryz.prog 94 #[.agg #[.int .i64 (n : Int),vL,vR,vB],.bool true] w fun e w'=>e=.returned (.bool true)∧Below w.heap.size w w':=by
 unfold pzB at hp
 simp only [Bool.and_eq_true,decide_eq_true_eq] at hp
 obtain ⟨⟨⟨⟨hl,hr⟩,hb⟩,hrt⟩,_⟩:=hp
 obtain ⟨N,hN⟩ : ∃ N,N=n * (n+1) / 2:=⟨_,rfl⟩
 have hat : ∀ r k,r < n→k≤r→atN r k < N:=fun r k h1 h2=>by rw [hN];exact at_lt h4 h1 h2
 have hNa : N=atN n 0:=hN
 rw [← hN] at hl hr hb
 have hL:=h.L
 have hR:=h.R
 have hB:=h.B
 unfold Ints at hL hR hB
 rw [hl] at hL
 rw [hr] at hR
 rw [hb] at hB
 obtain ⟨pL,kL,rfl,_,hLx⟩:=hL
 obtain ⟨pR,kR,rfl,_,hRx⟩:=hR
 obtain ⟨pB,kB,rfl,_,hBx⟩:=hB
 have hN0 : 0 < N:=Nat.lt_of_le_of_lt (Nat.zero_le _) (hat 0 0 (by omega) (by omega))
 obtain ⟨bL,oL,rfl,hLc⟩:=hLx hN0
 obtain ⟨bR,oR,rfl,hRc⟩:=hRx hN0
 obtain ⟨bB,oB,rfl,hBc⟩:=hBx hN0
 obtain ⟨W,hW⟩ : ∃ W,W=w.alloc (.cells #[.int .i64 (n : Int),.slice (some ⟨bL,oL,none⟩) N kL,.slice (some ⟨bR,oR,none⟩) N kR,.slice (some ⟨bB,oB,none⟩) N kB] 56):=⟨_,rfl⟩
 have z0 : W.heap[w.heap.size]?=some (.cells #[.int .i64 (n : Int),.slice (some ⟨bL,oL,none⟩) N kL,.slice (some ⟨bR,oR,none⟩) N kR,.slice (some ⟨bB,oB,none⟩) N kB] 56 (0,0)):=by rw [hW];exact heap_alloc_top _ _
 have hb0 : Below w.heap.size w W:=by rw [hW];exact below_alloc w _
 have Hx0:=Lib.hid (show ∀ wq,Below W.heap.size W wq→wq.cell? ⟨w.heap.size,0,none⟩=some (.int .i64 (n : Int)) from fun wq hq=>cell_below hq (cell_of_blk z0 (j:=0) rfl))
 have Hx1:=Lib.hid (show ∀ wq,Below W.heap.size W wq→wq.cell? ⟨w.heap.size,1,none⟩=some (.slice (some ⟨bL,oL,none⟩) N kL) from fun wq hq=>cell_below hq (cell_of_blk z0 (j:=1) rfl))
 have Hx2:=Lib.hid (show ∀ wq,Below W.heap.size W wq→wq.cell? ⟨w.heap.size,2,none⟩=some (.slice (some ⟨bR,oR,none⟩) N kR) from fun wq hq=>cell_below hq (cell_of_blk z0 (j:=2) rfl))
 have Hx3:=Lib.hid (show ∀ wq,Below W.heap.size W wq→wq.cell? ⟨w.heap.size,3,none⟩=some (.slice (some ⟨bB,oB,none⟩) N kB) from fun wq hq=>cell_below hq (cell_of_blk z0 (j:=3) rfl))
 have HL:=Lib.hid (show ∀ wq,Below W.heap.size W wq → ∀ j,j < N→wq.cell? ⟨bL,oL+j,none⟩=some (.int .i64 (p.L.getD j 0)) from fun wq hq j hj=>cell_below hq (cell_below hb0 (hLc j hj)))
 have HR:=Lib.hid (show ∀ wq,Below W.heap.size W wq → ∀ j,j < N→wq.cell? ⟨bR,oR+j,none⟩=some (.int .i64 (p.R.getD j 0)) from fun wq hq j hj=>cell_below hq (cell_below hb0 (hRc j hj)))
 have HB:=Lib.hid (show ∀ wq,Below W.heap.size W wq → ∀ j,j < N→wq.cell? ⟨bB,oB+j,none⟩=some (.int .i64 (p.B.getD j 0)) from fun wq hq j hj=>cell_below hq (cell_below hb0 (hBc j hj)))
 have Hb0:=Lib.hid hb0
 have HW:=Lib.hid hW
 have Hrt:=Lib.hid hrt
 have Hat:=Lib.hid hat
 have HNa:=Lib.hid hNa
 have hN10 : N≤1000:=by
  rw [hN]
  have:=Nat.mul_le_mul h4 (show n+1≤5 by omega)
  omega
 have e0:=fun n os=>Hx0.out _ (grow_bel W n os)
 have e1:=fun n os=>Hx1.out _ (grow_bel W n os)
 have e2:=fun n os=>Hx2.out _ (grow_bel W n os)
 have e3:=fun n os=>Hx3.out _ (grow_bel W n os)
 have f0:=Hx0.out _ (Below.refl _ _)
 have qS:=fun n' os=>sizeZ n h1 (by omega) (grow (atd W n') os)
 have qA:=fun n' os=>at0Z n N (grow (atd W n') os) HNa.out (by omega)
 obtain ⟨m,hm⟩ : ∃ m,m+1=n:=⟨n - 1,by omega⟩
 have Hm:=Lib.hid hm
 clear hm z0 hW hb0 hLx hRx hBx hLc hRc hBc hrt hat hNa hN hl hr hb h
 have hmix : Tryz.prog.follows .mixedOrders=true:=by kernel_rfl
 go_enter Tryz.func94,Tryz.ntmps94
 go_wp2_with fail
 rw [← HW.out]
 refine wp_region_quiet_z hmix (by kernel_rfl) ?_
 repeat (go_big_quiet_step (first | (with_reducible refine grown_z (qS _ _)) | (with_reducible refine grown_z (qA _ _))))
 refine wpQuiet_nil ?_
 intro _ hw'
 obtain ⟨⟨nq,osq⟩,hw''⟩:=hw'
 subst hw''
 obtain ⟨w1,hw1,hb1⟩ : ∃ x,x=grow (atd W nq) osq∧Below W.heap.size W x:=⟨_,rfl,grow_bel W nq osq⟩
 rw [show grow (atd W (⟨nq,osq⟩ : GrownBy).n) (⟨nq,osq⟩ : GrownBy).os=w1 from hw1.symm]
 have Hb1:=Lib.hid hb1
 clear hw1 hb1 e0 e1 e2 e3 f0 qS qA
 go_wp2_with fail
 refine (triples_any _).mono ?_
 rintro e w2 ⟨u2,rfl,ho2,hb2⟩
 have Hb2:=Lib.hid (Hb1.out.trans (hb2.mono Hb1.out.size))
 have Hrd:=Lib.hid (show RdT w2 u2 from ho2.rd)
 clear ho2 hb2 hmix
 have hmix : Tryz.prog.follows .mixedOrders=true:=by kernel_rfl
 have Hmix:=Lib.hid hmix
 clear hmix
 go_wp2_with fail
 go_loopg [41] n (fun g i wr=> ∃ k : Nat,k≤n∧g=n - k∧i=.int .i64 k∧Hid (Below w2.heap.size w2 wr))
 case atStart=>exact ⟨0,Nat.zero_le _,rfl,rfl,Below.refl _ _⟩
 case round =>
  obtain ⟨r,hrn,rfl,rfl,hb⟩:=hrel
  obtain ⟨wo,rfl⟩ : ∃ x : World,x=wr:=⟨_,rfl⟩
  by_cases hlt : r < n
  ·have hrz : (r : Int) < (n : Int):=by omega
   have hr4 : r≤3:=by omega
   have Hbw:=Lib.hid (Hb2.out.trans (hb.out.mono Hb2.out.size))
   obtain ⟨A1,hA1⟩ : ∃ A,A=atN r 0:=⟨_,rfl⟩
   obtain ⟨A2,hA2⟩ : ∃ A,A=atN r r:=⟨_,rfl⟩
   obtain ⟨A3,hA3⟩ : ∃ A,A=atN m r:=⟨_,rfl⟩
   have hm1 : n - 1=m:=by have:=Hm.out;omega
   have hA1l : A1 < N:=by rw [hA1];exact Hat.out _ _ hlt (by omega)
   have hA2l : A2 < N:=by rw [hA2];exact Hat.out _ _ hlt (by omega)
   have hA3l : A3 < N:=by rw [hA3];exact Hat.out _ _ (by have:=Hm.out;omega) (by have:=Hm.out;omega)
   obtain ⟨hv1,hv2,hv3⟩:=right_row Hrt.out hlt
   rw [hm1] at hv3
   rw [← hA1] at hv1
   rw [← hA2] at hv2
   rw [← hA3] at hv3
   have gb:=fun n' os=>Hbw.out.trans ((grow_bel wo n' os).mono Hbw.out.size)
   have e0:=fun n' os=>Hx0.out _ (gb n' os)
   have e1:=fun n' os=>Hx1.out _ (gb n' os)
   have e2:=fun n' os=>Hx2.out _ (gb n' os)
   have e3:=fun n' os=>Hx3.out _ (gb n' os)
   have f1:=fun n' os=>HL.out _ (gb n' os) A1 hA1l
   have f2:=fun n' os=>HR.out _ (gb n' os) A2 hA2l
   have f3:=fun n' os=>HB.out _ (gb n' os) A3 hA3l
   obtain ⟨x1,hx1⟩ : ∃ x,x=p.L.getD A1 0:=⟨_,rfl⟩
   obtain ⟨x2,hx2⟩ : ∃ x,x=p.R.getD A2 0:=⟨_,rfl⟩
   obtain ⟨x3,hx3⟩ : ∃ x,x=p.B.getD A3 0:=⟨_,rfl⟩
   rw [← hx1] at f1 hv1
   rw [← hx2] at f2 hv2
   rw [← hx3] at f3 hv3
   have V1:=Lib.hid (show (1 < x1)=False from eq_false (by omega))
   have V2:=Lib.hid (show (1 < x2)=False from eq_false (by omega))
   have V3:=Lib.hid (show (1 < x3)=False from eq_false (by omega))
   have q1:=fun n' os=>at0Z r A1 (grow (atd wo n') os) hA1 (by omega)
   have q2:=fun n' os=>atZ r r A2 (grow (atd wo n') os) hA2 (by omega) (by omega)
   have q3:=fun n' os=>atZ m r A3 (grow (atd wo n') os) hA3 (by have:=Hm.out;omega) (by omega)
   have hA1z : (A1 : Int) < (N : Int):=by omega
   have hA2z : (A2 : Int) < (N : Int):=by omega
   have hA3z : (A3 : Int) < (N : Int):=by omega
   have hmz : (n : Int) - 1=(m : Int):=by have:=Hm.out;omega
   clear hA1 hA2 hA3 hm1 hv1 hv2 hv3 hx1 hx2 hx3 gb
   go_wp2_with fail
   have V1':=V1.out
   have V2':=V2.out
   have V3':=V3.out
   refine wp_region_quiet_z Hmix.out (by kernel_rfl) ?_
   repeat (go_big_quiet_step (first | (with_reducible refine grown_z (q1 _ _)) | (with_reducible refine grown_z (q2 _ _)) | (with_reducible refine grown_z (q3 _ _))))
   refine wpQuiet_nil ?_
   intro _ hw'
   obtain ⟨⟨nq2,osq2⟩,hw''⟩:=hw'
   subst hw''
   obtain ⟨w3,hw3,hb3⟩ : ∃ x,x=grow (atd wo nq2) osq2∧Below wo.heap.size wo x:=⟨_,rfl,grow_bel wo nq2 osq2⟩
   rw [show grow (atd wo (⟨nq2,osq2⟩ : GrownBy).n) (⟨nq2,osq2⟩ : GrownBy).os=w3 from hw3.symm]
   have Hb3:=Lib.hid (hb.out.trans (hb3.mono hb.out.size))
   clear hw3 hb3 e0 e1 e2 e3 f1 f2 f3 q1 q2 q3 V1' V2' V3' V1 V2 V3 hb Hbw hA1l hA2l hA3l hA1z hA2z hA3z hmz
   obtain ⟨R1,hR1⟩ : ∃ R1,R1=r+1:=⟨_,rfl⟩
   have hR1z : (r : Int)+1=(R1 : Int):=by omega
   have HR1:=Lib.hid hR1
   have Hlt:=Lib.hid hlt
   clear hR1
   go_wp2_with fail
   go_loopg [74] R1 (fun g i wr=> ∃ k : Nat,k≤R1∧g=R1 - k∧i=.int .i64 k∧Hid (Below w2.heap.size w2 wr))
   case atStart=>exact ⟨0,Nat.zero_le _,rfl,rfl,Hb3.out⟩
   case round =>
    obtain ⟨k,hkR,rfl,rfl,hb⟩:=hrel
    obtain ⟨wo2,rfl⟩ : ∃ x : World,x=wr:=⟨_,rfl⟩
    by_cases hk : k < R1
    ·have hkz : (k : Int) < (R1 : Int):=by omega
     have hkr : k≤r:=by have:=HR1.out;omega
     have Hbw:=Lib.hid (Hb2.out.trans (hb.out.mono Hb2.out.size))
     obtain ⟨A1,hA1⟩ : ∃ A,A=atN r k:=⟨_,rfl⟩
     have hA1l : A1 < N:=by rw [hA1];exact Hat.out _ _ Hlt.out hkr
     obtain ⟨hc1,hc2⟩:=right_cell Hrt.out Hlt.out hkr
     rw [← hA1] at hc1 hc2
     have gb:=fun n' os=>Hbw.out.trans ((grow_bel wo2 n' os).mono Hbw.out.size)
     have gb2:=fun n' os=>hb.out.trans ((grow_bel wo2 n' os).mono hb.out.size)
     have Hgb2:=Lib.hid gb2
     have Hgb:=Lib.hid gb
     have e0:=fun n' os=>Hx0.out _ (gb n' os)
     have e1:=fun n' os=>Hx1.out _ (gb n' os)
     have e2:=fun n' os=>Hx2.out _ (gb n' os)
     have e3:=fun n' os=>Hx3.out _ (gb n' os)
     have f1:=fun n' os=>HL.out _ (gb n' os) A1 hA1l
     have f2:=fun n' os=>HR.out _ (gb n' os) A1 hA1l
     have f3:=fun n' os=>HB.out _ (gb n' os) A1 hA1l
     obtain ⟨x1,hx1⟩ : ∃ x,x=p.L.getD A1 0:=⟨_,rfl⟩
     obtain ⟨x2,hx2⟩ : ∃ x,x=p.R.getD A1 0:=⟨_,rfl⟩
     obtain ⟨x3,hx3⟩ : ∃ x,x=p.B.getD A1 0:=⟨_,rfl⟩
     rw [← hx1] at f1 hc1
     rw [← hx2] at f2 hc1 hc2
     rw [← hx3] at f3 hc1
     have q1:=fun n' os=>atZ r k A1 (grow (atd wo2 n') os) hA1 (by omega) (by omega)
     have qC:=fun n' os=>con3Z u2 x1 x2 x3 true (grow (atd wo2 n') os) (Hrd.out.below (gb2 n' os)) (decide_eq_true hc1).symm
     have hA1z : (A1 : Int) < (N : Int):=by omega
     have Hc2:=Lib.hid hc2
     have HA1:=Lib.hid hA1
     have Hx2':=Lib.hid hx2
     clear hA1 hc1 hc2 hx1 hx2 hx3 gb gb2
     go_wp2_with fail
     refine wp_region_quiet_z Hmix.out (by kernel_rfl) ?_
     repeat (go_big_quiet_step (first | (with_reducible refine grown_z (q1 _ _)) | (with_reducible refine grown_z (qC _ _))))
     refine wpQuiet_nil ?_
     intro _ hw'
     obtain ⟨⟨nq3,osq3⟩,hw''⟩:=hw'
     subst hw''
     obtain ⟨w4,hw4,hb4⟩ : ∃ x,x=grow (atd wo2 nq3) osq3∧Below w2.heap.size w2 x:=⟨_,rfl,Hgb2.out nq3 osq3⟩
     rw [show grow (atd wo2 (⟨nq3,osq3⟩ : GrownBy).n) (⟨nq3,osq3⟩ : GrownBy).os=w4 from hw4.symm]
     have Hb4:=Lib.hid hb4
     clear hw4 hb4 e0 e1 e2 e3 f1 f2 f3 qC Hgb Hgb2 hb Hbw
     have Hbw:=Lib.hid (Hb2.out.trans (Hb4.out.mono Hb2.out.size))
     have gb:=fun n' os=>Hbw.out.trans ((grow_bel w4 n' os).mono Hbw.out.size)
     have gb2:=fun n' os=>Hb4.out.trans ((grow_bel w4 n' os).mono Hb4.out.size)
     have Hgb2:=Lib.hid gb2
     have e0:=fun n' os=>Hx0.out _ (gb n' os)
     have e1:=fun n' os=>Hx1.out _ (gb n' os)
     have e2:=fun n' os=>Hx2.out _ (gb n' os)
     have e3:=fun n' os=>Hx3.out _ (gb n' os)
     by_cases hkr2 : k < r
     ·have hkr2z : (k : Int) < (r : Int):=by omega
      obtain ⟨r1,hr1⟩ : ∃ r1,r1+1=r:=⟨r - 1,by omega⟩
      obtain ⟨k1,hk1⟩ : ∃ k1,k1=k+1:=⟨_,rfl⟩
      have hc2:=Hc2.out hkr2
      rw [← hk1,show r - 1=r1 by omega,Hx2'.out] at hc2
      obtain ⟨A2,hA2⟩ : ∃ A,A=atN r k1:=⟨_,rfl⟩
      have hA2l : A2 < N:=by rw [hA2];exact Hat.out _ _ Hlt.out (by omega)
      obtain ⟨A3,hA3⟩ : ∃ A,A=atN r1 k:=⟨_,rfl⟩
      have hA3l : A3 < N:=by rw [hA3];exact Hat.out _ _ (by have:=Hlt.out;omega) (by omega)
      rw [← hA2,← hA3] at hc2
      have f1:=fun n' os=>HL.out _ (gb n' os) A2 hA2l
      have f2:=fun n' os=>HR.out _ (gb n' os) A1 hA1l
      have f3:=fun n' os=>HB.out _ (gb n' os) A3 hA3l
      obtain ⟨y1,hy1⟩ : ∃ x,x=p.L.getD A2 0:=⟨_,rfl⟩
      obtain ⟨y2,hy2⟩ : ∃ x,x=p.R.getD A1 0:=⟨_,rfl⟩
      obtain ⟨y3,hy3⟩ : ∃ x,x=p.B.getD A3 0:=⟨_,rfl⟩
      rw [← hy1] at f1 hc2
      rw [← hy2] at f2 hc2
      rw [← hy3] at f3 hc2
      have p1:=fun n' os=>atZ r k A1 (grow (atd w4 n') os) HA1.out (by omega) (by omega)
      have p2:=fun n' os=>atZ r k1 A2 (grow (atd w4 n') os) hA2 (by omega) (by omega)
      have p3:=fun n' os=>atZ r1 k A3 (grow (atd w4 n') os) hA3 (by omega) (by omega)
      have qC:=fun n' os=>con3Z u2 y1 y2 y3 true (grow (atd w4 n') os) (Hrd.out.below (gb2 n' os)) (decide_eq_true hc2).symm
      have hA2z : (A2 : Int) < (N : Int):=by omega
      have hA3z : (A3 : Int) < (N : Int):=by omega
      have hr1z : (r : Int) - 1=(r1 : Int):=by omega
      have hk1z : (k : Int)+1=(k1 : Int):=by omega
      have hkw : IntKind.i64.wrap (k1 : Int)=(k1 : Int):=k64 (by omega) (by omega)
      have hkw2 : wrap64 (k1 : Int)=(k1 : Int):=w64 (by omega) (by omega)
      have hkw3 : IntKind.i64.wrap (r1 : Int)=(r1 : Int):=k64 (by omega) (by omega)
      have hkw4 : wrap64 (r1 : Int)=(r1 : Int):=w64 (by omega) (by omega)
      have Hk1:=Lib.hid hk1
      clear hA2 hA3 hc2 hy1 hy2 hy3 gb gb2 hk1 hr1
      go_wp2_with fail
      refine wp_region_quiet_z Hmix.out (by kernel_rfl) ?_
      repeat (go_big_quiet_step (first | (with_reducible refine grown_z (p1 _ _)) | (with_reducible refine grown_z (p2 _ _)) | (with_reducible refine grown_z (p3 _ _)) | (with_reducible refine grown_z (qC _ _))))
      refine wpQuiet_nil ?_
      intro _ hw'
      obtain ⟨⟨nq4,osq4⟩,hw''⟩:=hw'
      subst hw''
      clear hk1z hr1z
      go_wp2_with fail
      go_roundg (R1 - (k+1))
      case measure=>omega
      case rel=>exact ⟨k+1,by omega,rfl,by go_num,Hgb2.out _ _⟩
     ·have hkr2z : ¬ (k : Int) < (r : Int):=by omega
      clear gb gb2
      go_wp2_with fail
      refine wp_region_quiet_z Hmix.out (by kernel_rfl) ?_
      repeat (go_big_quiet_step (fail))
      refine wpQuiet_nil ?_
      intro _ hw'
      obtain ⟨⟨nq4,osq4⟩,hw''⟩:=hw'
      subst hw''
      go_wp2_with fail
      go_roundg (R1 - (k+1))
      case measure=>omega
      case rel=>exact ⟨k+1,by omega,rfl,by go_num,Hgb2.out _ _⟩
    ·go_wp2_with fail
     go_roundg (n - (r+1))
     case measure=>omega
     case rel=>exact ⟨r+1,by omega,rfl,by go_num,hb.out⟩
  ·go_wp2_with fail
   go_ret
   exact ⟨rfl,Hb0.out.trans ((Hb2.out.trans (hb.out.mono Hb2.out.size)).mono Hb0.out.size)⟩
structure T3 (w : World) (lo : Nat) (v1 v2 v3 : Value) (x1 x2 x3 : List Int) : Prop where
 a : OwnI 3 w lo w.heap.size v1 x1
 b : OwnI 3 w lo w.heap.size v2 x2
 c : OwnI 3 w lo w.heap.size v3 x3
 ab : ∀ k,v1.ownBlock=some k→v2.ownBlock ≠ some k
 bc : ∀ k,v2.ownBlock=some k→v3.ownBlock ≠ some k
 ca : ∀ k,v3.ownBlock=some k→v1.ownBlock ≠ some k
theorem T3.rot {w : World} {lo : Nat} {v1 v2 v3 : Value} {x1 x2 x3 : List Int} (h : T3 w lo v1 v2 v3 x1 x2 x3) : T3 w lo v2 v3 v1 x2 x3 x1:=⟨h.b,h.c,h.a,h.bc,h.ca,h.ab⟩
theorem T3.below {w w' : World} {lo : Nat} {v1 v2 v3 : Value} {x1 x2 x3 : List Int} (h : T3 w lo v1 v2 v3 x1 x2 x3) (hb : Below w.heap.size w w') : T3 w' lo v1 v2 v3 x1 x2 x3 :=
 ⟨(h.a.below hb).mono (Nat.le_refl _) hb.size,(h.b.below hb).mono (Nat.le_refl _) hb.size,(h.c.below hb).mono (Nat.le_refl _) hb.size,h.ab,h.bc,h.ca⟩
theorem T3.grown {w w' : World} {lo : Nat} {v1 v2 v3 v' : Value} {x1 x2 x3 x' : List Int} (h : T3 w lo v1 v2 v3 x1 x2 x3) (ho : OwnI 3 w' lo w'.heap.size v' x') (hg : w.grownBy w' v1.ownBlock)
 (hw : ∀ b,v'.ownBlock=some b→v1.ownBlock=some b ∨ w.heap.size≤b) : T3 w' lo v' v2 v3 x' x2 x3:=by
 have k2 : OwnI 3 w' lo w'.heap.size v2 x2:=Own.mono ⟨ownsRow_of_block h.b.1 fun k hk=>hg.block k (Own.block h.b hk).2.2 fun e=>h.ab k e.symm hk,h.b.2⟩ (Nat.le_refl _) hg.size
 have k3 : OwnI 3 w' lo w'.heap.size v3 x3:=Own.mono ⟨ownsRow_of_block h.c.1 fun k hk=>hg.block k (Own.block h.c hk).2.2 fun e=>h.ca k hk e.symm,h.c.2⟩ (Nat.le_refl _) hg.size
 refine ⟨ho,k2,k3,fun k hk e=> ?_,h.bc,fun k hk e=> ?_⟩
 ·rcases hw k hk with h1 | h1
  ·exact h.ab k h1 e
  ·have:=(Own.block h.b e).2.2;omega
 ·rcases hw k e with h1 | h1
  ·exact h.ca k hk h1
  ·have:=(Own.block h.c hk).2.2;omega
theorem step_append_T {P : Program} {w : World} {ops : Array Oper} {o : Oper} {a : Act} {K : Act→World→Prop} {Q : Exit→Act→World→Prop} {E : Prop} (hgd : o.guard=none) (s x : Operand) (t : TypeId)
 (ho : o.op=.call { callee:=.builtin .append,args:=#[s,x],argTypes:=#[t,t] }) (ht : P.underlying t=some (.slice 3)) (hinfo : (P.info? 3).map (fun i=>(i.zero,i.size,i.bytes))=some (some (.int .i64 0),1,8))
 (lo : Nat) (v1 v2 v3 : Value) (x1 x2 x3 : List Int) (hs : a.eval s=v1) (h3 : T3 w lo v1 v2 v3 x1 x2 x3) (hlo : lo≤w.heap.size) (bx : Nat) (y : Int) (hxu : a.eval x=.slice (some ⟨bx,0,none⟩) 1 1)
 (hc : w.cell? ⟨bx,0,none⟩=some (.int .i64 y)) (hl : x1.length≤1000)
 (h : ∀ v' w',T3 w' lo v' v2 v3 (x1 ++ [y]) x2 x3→Below lo w w'→K (a.put o.dst v') w') :
 if Region.wanted o (yielded ops a.tmps)=true then Oper.wp P o a w K Q else E:=by
 have hw : Region.wanted o (yielded ops a.tmps)=true:=by simp [Region.wanted,hgd]
 rw [if_pos hw]
 obtain ⟨i,hi,hz,hsz,hby⟩:=info_parts hinfo
 have hx : Rd w (.slice (some ⟨bx,0,none⟩) 1 1) 1 (fun _=>.int .i64 y):=⟨some ⟨bx,0,none⟩,1,rfl,⟨Nat.le_refl _,by decide⟩,fun _=>⟨bx,0,rfl,fun j hj=>by
  obtain rfl : j=0:=by omega
  exact hc⟩⟩
 have h63 : x1.length+1≤maxLen:=by unfold maxLen;omega
 have hbytes : (x1.length+1) * 8≤140737488355328:=by omega
 obtain ⟨v',w',hr,h2,h3'⟩:=run_append_F (P:=P) w t o.type 3 i (.int .i64 0) 8 ht hi hz hsz hby rfl lo w.heap.size v1 x1.length (iv x1) h3.a.fn hlo (Nat.le_refl _) _ 1 _ hx (fun j _=>rfl) h63 hbytes
 have h4:=run_append_where (P:=P) w t o.type 3 i (.int .i64 0) 8 ht hi hz hsz hby rfl lo w.heap.size v1 x1.length (iv x1) h3.a.fn _ 1 _ hx (fun j _=>rfl) h63 hbytes hr
 have hown : OwnI 3 w' lo w'.heap.size v' (x1 ++ [y]):=OwnI.snoc1 h2
 unfold Oper.wp
 simp [execOp,ho,resolve,invoke,builtin,hs,hxu,hr,Result.andThen]
 exact h v' w' (h3.grown hown h3' h4) (grownBy_below h3' (fun k hk=>⟨(Own.block h3.a hk).1,(Own.block h3.a hk).2.1⟩) (Nat.le_refl _) hlo)
theorem WeightedOk_any (n : Nat) (vL vR vB : Value) (p : Puz) (w : World) (h1 : 1≤n) (h4 : n≤4) (h : RdPz w vL vR vB p) (hp : pzB n p=true) :
 Calls Tryz.prog 64 #[.agg #[.int .i64 (n : Int),vL,vR,vB]] w fun e w'=>e=.returned (.bool true)∧Below w.heap.size w w':=by
 have Hh:=Lib.hid h
 obtain ⟨pL,kL,rfl,_⟩:=h.L
 obtain ⟨pR,kR,rfl,_⟩:=h.R
 obtain ⟨pB,kB,rfl,_⟩:=h.B
 obtain ⟨nL,hL⟩ : ∃ n,n=p.L.length:=⟨_,rfl⟩
 obtain ⟨nR,hR⟩ : ∃ n,n=p.R.length:=⟨_,rfl⟩
 obtain ⟨nB,hB⟩ : ∃ n,n=p.B.length:=⟨_,rfl⟩
 rw [← hL,← hR,← hB] at Hh ⊢
 obtain ⟨W,hW⟩ : ∃ W,W=w.alloc (.cells #[.int .i64 (n : Int),.slice pL nL kL,.slice pR nR kR,.slice pB nB kB] 56):=⟨_,rfl⟩
 have z0 : W.heap[w.heap.size]?=some (.cells #[.int .i64 (n : Int),.slice pL nL kL,.slice pR nR kR,.slice pB nB kB] 56 (0,0)):=by rw [hW];exact heap_alloc_top _ _
 have hb0 : Below w.heap.size w W:=by rw [hW];exact below_alloc w _
 have c0:=cell_of_blk z0 (j:=0) rfl
 have c1:=cell_of_blk z0 (j:=1) rfl
 have c2:=cell_of_blk z0 (j:=2) rfl
 have c3:=cell_of_blk z0 (j:=3) rfl
 have HR:=Lib.hid (rightPuzzle_any n _ _ _ p W h1 h4 (Hh.out.below hb0) hp)
 have Hb0:=Lib.hid hb0
 have HW:=Lib.hid hW
 clear hW hb0 z0 hL hR hB h hp h1 h4
 go_enter Tryz.func64,Tryz.ntmps64
 go_wp2_with fail
 rw [← HW.out]
 refine HR.out.mono ?_
 rintro e w1 ⟨rfl,hb1⟩
 go_wp2_with fail
 go_ret
 exact ⟨rfl,Hb0.out.trans (hb1.mono Hb0.out.size)⟩
theorem at0F (r A : Nat) (W : World) (hA : A=atN r 0) (hr : r≤1000) : Calls Tryz.prog 61 #[.int .i64 (r : Int),.int .i64 0] W fun e w'=>e=.returned (.int .i64 (A : Int))∧W=w' :=
 atF_any r 0 A W hA hr (by omega)
theorem results_tmp4 {fn : Func} {t u v x : Tmp} (h : fn.results = #[.tmp t,.tmp u,.tmp v,.tmp x]) (tmps : Array Value) (P : Program) (w : World) :
 (results fn tmps).run P w=.ok (.tuple #[tmps.getD t undef,tmps.getD u undef,tmps.getD v undef,tmps.getD x undef]) w:=by
 simp [results,h]
def ldL (n : Nat) (p : Puz) (t : Nat) : List Int:=(List.range t).map fun (r : Nat)=>p.L.getD (atN (n - 1 - r) 0) 0
def rdL (p : Puz) (t : Nat) : List Int:=(List.range t).map fun (r : Nat)=>p.R.getD (atN r r) 0
def tdL (n : Nat) (p : Puz) (t : Nat) : List Int:=(List.range t).map fun (r : Nat)=>p.B.getD (atN (n - 1) r) 0
theorem keep_s {B : Nat} {A W W' : World} {a1 a2 : Addr} {x1 x2 : Value} (hb : Below B W W') (h1 : a1.block < B) (h2 : a2.block < B) (h : (W.cell? a1=some x1∧W.cell? a2=some x2)∧Below B A W) : (W'.cell? a1=some x1∧W'.cell? a2=some x2)∧Below B A W' :=
 ⟨⟨by rw [hb.cell h1];exact h.1.1,by rw [hb.cell h2];exact h.1.2⟩,h.2.trans hb⟩
theorem keep_sa {B : Nat} {A W : World} {a1 a2 : Addr} {x1 x2 : Value} (hB : B≤A.heap.size) (h1 : a1.block < B) (h2 : a2.block < B) (o : Obj) (h : (W.cell? a1=some x1∧W.cell? a2=some x2)∧Below B A W) : ((W.alloc o).cell? a1=some x1∧(W.alloc o).cell? a2=some x2)∧Below B A (W.alloc o) :=
 keep_s ((below_alloc W o).mono (Nat.le_trans hB h.2.size)) h1 h2 h
theorem own_empty (w : World) : OwnI 3 (w.alloc (.cells #[] 3)) w.heap.size (w.heap.size+1) (.slice (some ⟨w.heap.size,0,none⟩) 0 0) [] :=
 ⟨World.ownsRow_made w #[] 0 (Nat.le_refl _) (Nat.zero_le _) (by simp),fun k hk=>by simp [Value.ownBlock] at hk;omega⟩
theorem T3.start (w : World) : T3 (((w.alloc (.cells #[] 3)).alloc (.cells #[] 3)).alloc (.cells #[] 3)) w.heap.size (.slice (some ⟨w.heap.size,0,none⟩) 0 0) (.slice (some ⟨w.heap.size+1,0,none⟩) 0 0) (.slice (some ⟨w.heap.size+1+1,0,none⟩) 0 0) [] [] []:=by
 obtain ⟨W1,hW1⟩ : ∃ W,W=w.alloc (.cells #[] 3):=⟨_,rfl⟩
 have s1 : W1.heap.size=w.heap.size+1:=by rw [hW1,size_alloc]
 have o1:=own_empty w
 rw [← hW1] at o1 ⊢
 obtain ⟨W2,hW2⟩ : ∃ W,W=W1.alloc (.cells #[] 3):=⟨_,rfl⟩
 have s2 : W2.heap.size=w.heap.size+1+1:=by rw [hW2,size_alloc,s1]
 have o2:=own_empty W1
 rw [← hW2] at o2 ⊢
 have o3:=own_empty W2
 have hb1 : Below W1.heap.size W1 W2:=by rw [hW2];exact below_alloc _ _
 have hb2:=below_alloc W2 (.cells #[] 3)
 have s3 : (W2.alloc (.cells #[] 3)).heap.size=w.heap.size+1+1+1:=by rw [size_alloc,s2]
 rw [s1] at o2
 rw [s2] at o3
 refine ⟨((o1.below hb1).below hb2).mono (Nat.le_refl _) (by omega),(o2.below hb2).mono (by omega) (by omega),o3.mono (by omega) (by omega),fun k hk e=> ?_,fun k hk e=> ?_,fun k hk e=> ?_⟩ <;> simp [Value.ownBlock] at hk e <;> omega
theorem SidesOf_any (n : Nat) (vL vR vB : Value) (p : Puz) (w : World) (h1 : 1≤n) (h4 : n≤4) (h : RdPz w vL vR vB p) (hp : pzB n p=true) :
 Calls Tryz.prog 28 #[.agg #[.int .i64 (n : Int),vL,vR,vB]] w fun e w'=> ∃ u1 u2 u3,e=.returned (.tuple #[u1,u2,u3,.bool true])∧Ints w' u3 (thirdL n p)∧Below w.heap.size w w':=by
 have Hp:=Lib.hid hp
 have Hh:=Lib.hid h
 unfold pzB at hp
 simp only [Bool.and_eq_true,decide_eq_true_eq] at hp
 obtain ⟨⟨⟨⟨hl,hr⟩,hb⟩,hrt⟩,_⟩:=hp
 obtain ⟨N,hN⟩ : ∃ N,N=n * (n+1) / 2:=⟨_,rfl⟩
 have hat : ∀ r k,r < n→k≤r→atN r k < N:=fun r k h1 h2=>by rw [hN];exact at_lt h4 h1 h2
 rw [← hN] at hl hr hb
 have hL:=h.L
 have hR:=h.R
 have hB:=h.B
 unfold Ints at hL hR hB
 rw [hl] at hL
 rw [hr] at hR
 rw [hb] at hB
 obtain ⟨pL,kL,rfl,_,hLx⟩:=hL
 obtain ⟨pR,kR,rfl,_,hRx⟩:=hR
 obtain ⟨pB,kB,rfl,_,hBx⟩:=hB
 have hN0 : 0 < N:=Nat.lt_of_le_of_lt (Nat.zero_le _) (hat 0 0 (by omega) (by omega))
 obtain ⟨bL,oL,rfl,hLc⟩:=hLx hN0
 obtain ⟨bR,oR,rfl,hRc⟩:=hRx hN0
 obtain ⟨bB,oB,rfl,hBc⟩:=hBx hN0
 obtain ⟨W,hW⟩ : ∃ W,W=w.alloc (.cells #[.int .i64 (n : Int),.slice (some ⟨bL,oL,none⟩) N kL,.slice (some ⟨bR,oR,none⟩) N kR,.slice (some ⟨bB,oB,none⟩) N kB] 56):=⟨_,rfl⟩
 have z0 : W.heap[w.heap.size]?=some (.cells #[.int .i64 (n : Int),.slice (some ⟨bL,oL,none⟩) N kL,.slice (some ⟨bR,oR,none⟩) N kR,.slice (some ⟨bB,oB,none⟩) N kB] 56 (0,0)):=by rw [hW];exact heap_alloc_top _ _
 have hb0 : Below w.heap.size w W:=by rw [hW];exact below_alloc w _
 have Hx0:=Lib.hid (show ∀ wq,Below W.heap.size W wq→wq.cell? ⟨w.heap.size,0,none⟩=some (.int .i64 (n : Int)) from fun wq hq=>cell_below hq (cell_of_blk z0 (j:=0) rfl))
 have Hx1:=Lib.hid (show ∀ wq,Below W.heap.size W wq→wq.cell? ⟨w.heap.size,1,none⟩=some (.slice (some ⟨bL,oL,none⟩) N kL) from fun wq hq=>cell_below hq (cell_of_blk z0 (j:=1) rfl))
 have Hx2:=Lib.hid (show ∀ wq,Below W.heap.size W wq→wq.cell? ⟨w.heap.size,2,none⟩=some (.slice (some ⟨bR,oR,none⟩) N kR) from fun wq hq=>cell_below hq (cell_of_blk z0 (j:=2) rfl))
 have Hx3:=Lib.hid (show ∀ wq,Below W.heap.size W wq→wq.cell? ⟨w.heap.size,3,none⟩=some (.slice (some ⟨bB,oB,none⟩) N kB) from fun wq hq=>cell_below hq (cell_of_blk z0 (j:=3) rfl))
 have HL:=Lib.hid (show ∀ wq,Below W.heap.size W wq → ∀ j,j < N→wq.cell? ⟨bL,oL+j,none⟩=some (.int .i64 (p.L.getD j 0)) from fun wq hq j hj=>cell_below hq (cell_below hb0 (hLc j hj)))
 have HR:=Lib.hid (show ∀ wq,Below W.heap.size W wq → ∀ j,j < N→wq.cell? ⟨bR,oR+j,none⟩=some (.int .i64 (p.R.getD j 0)) from fun wq hq j hj=>cell_below hq (cell_below hb0 (hRc j hj)))
 have HB:=Lib.hid (show ∀ wq,Below W.heap.size W wq → ∀ j,j < N→wq.cell? ⟨bB,oB+j,none⟩=some (.int .i64 (p.B.getD j 0)) from fun wq hq j hj=>cell_below hq (cell_below hb0 (hBc j hj)))
 have Hb0:=Lib.hid hb0
 have HW:=Lib.hid hW
 have Hat:=Lib.hid hat
 have hbx : w.heap.size < W.heap.size:=by rw [hW,size_alloc];exact Nat.lt_succ_self _
 have hbL : bL < W.heap.size:=Nat.lt_of_lt_of_le (World.block_lt_of_cell? w _ (hLc 0 hN0)) hb0.size
 have hbR : bR < W.heap.size:=Nat.lt_of_lt_of_le (World.block_lt_of_cell? w _ (hRc 0 hN0)) hb0.size
 have hbB : bB < W.heap.size:=Nat.lt_of_lt_of_le (World.block_lt_of_cell? w _ (hBc 0 hN0)) hb0.size
 have HZ:=Lib.hid (WeightedOk_any n _ _ _ p W h1 h4 (Hh.out.below hb0) Hp.out)
 obtain ⟨m,hm⟩ : ∃ m,m+1=n:=⟨n - 1,by omega⟩
 have Hm:=Lib.hid hm
 have c0:=Hx0.out W (Below.refl _ _)
 have c1:=Hx1.out W (Below.refl _ _)
 have c2:=Hx2.out W (Below.refl _ _)
 have c3:=Hx3.out W (Below.refl _ _)
 clear hm z0 hW hb0 hLx hRx hBx hLc hRc hBc hrt hat hN hl hr hb h
 go_enter Tryz.func28,Tryz.ntmps28
 go_wp2_with fail
 rw [← HW.out]
 refine HZ.out.mono ?_
 rintro e w1 ⟨rfl,hb1⟩
 have Hb1:=Lib.hid hb1
 have d0:=Hx0.out w1 hb1
 clear c0 c1 c2 c3 hb1 HZ
 go_wp2_with fail
 have Hst:=Lib.hid (T3.start w1)
 have Hbst:=Lib.hid (show Below w1.heap.size w1 (((w1.alloc (.cells #[] 3)).alloc (.cells #[] 3)).alloc (.cells #[] 3)) from (below_alloc2 w1 _ _).trans ((below_alloc _ _).mono (by rw [size_alloc,size_alloc];omega)))
 go_loopg [7,8,9,20] n (fun g s7 s8 s9 i wr=> ∃ (k : Nat) (p7 p8 p9 : Option Addr) (c7 c8 c9 : Nat),k≤n∧g=n - k∧s7=.slice p7 k c7∧s8=.slice p8 k c8∧s9=.slice p9 k c9∧i=.int .i64 k ∧
  Hid (T3 wr w1.heap.size s7 s8 s9 (ldL n p k) (rdL p k) (tdL n p k))∧Hid (Below w1.heap.size w1 wr))
 case atStart=>exact ⟨0,_,_,_,_,_,_,Nat.zero_le _,rfl,rfl,rfl,rfl,rfl,Hst.out,Hbst.out⟩
 case round =>
  obtain ⟨k,p7,p8,p9,c7,c8,c9,hkn,rfl,rfl,rfl,rfl,rfl,ht,hb⟩:=hrel
  obtain ⟨wo,rfl⟩ : ∃ x : World,x=wr:=⟨_,rfl⟩
  by_cases hlt : k < n
  ·have hkz : (k : Int) < (n : Int):=by omega
   have hk4 : k≤3:=by omega
   obtain ⟨mk,hmk⟩ : ∃ mk,mk=n - 1 - k:=⟨_,rfl⟩
   have hmkz : (n : Int) - 1 - (k : Int)=(mk : Int):=by omega
   have Hbw:=Lib.hid (Hb1.out.trans (hb.out.mono Hb1.out.size))
   obtain ⟨A1,hA1⟩ : ∃ A,A=atN mk 0:=⟨_,rfl⟩
   obtain ⟨A2,hA2⟩ : ∃ A,A=atN k k:=⟨_,rfl⟩
   obtain ⟨A3,hA3⟩ : ∃ A,A=atN m k:=⟨_,rfl⟩
   have hm1 : n - 1=m:=by have:=Hm.out;omega
   have hA1l : A1 < N:=by rw [hA1];exact Hat.out _ _ (by omega) (by omega)
   have hA2l : A2 < N:=by rw [hA2];exact Hat.out _ _ hlt (by omega)
   have hA3l : A3 < N:=by rw [hA3];exact Hat.out _ _ (by omega) (by omega)
   obtain ⟨x1,hx1⟩ : ∃ x,x=p.L.getD A1 0:=⟨_,rfl⟩
   obtain ⟨x2,hx2⟩ : ∃ x,x=p.R.getD A2 0:=⟨_,rfl⟩
   obtain ⟨x3,hx3⟩ : ∃ x,x=p.B.getD A3 0:=⟨_,rfl⟩
   have e7 : ldL n p (k+1)=ldL n p k ++ [x1]:=by unfold ldL;rw [List.range_succ,List.map_append,hx1,hA1,hmk];rfl
   have e8 : rdL p (k+1)=rdL p k ++ [x2]:=by unfold rdL;rw [List.range_succ,List.map_append,hx2,hA2];rfl
   have e9 : tdL n p (k+1)=tdL n p k ++ [x3]:=by unfold tdL;rw [List.range_succ,List.map_append,hx3,hA3,← hm1];rfl
   have hcw:=Hx1.out wo Hbw.out
   have hcx:=HL.out wo Hbw.out A1 hA1l
   rw [← hx1] at hcx
   have qA1:=fun (wq : World)=>at0F mk A1 wq hA1 (by omega)
   have qA2:=fun (wq : World)=>atF_any k k A2 wq hA2 (by omega) (by omega)
   have qA3:=fun (wq : World)=>atF_any m k A3 wq hA3 (by omega) (by omega)
   have hA1z : (A1 : Int) < (N : Int):=by omega
   have hA2z : (A2 : Int) < (N : Int):=by omega
   have hA3z : (A3 : Int) < (N : Int):=by omega
   have hmz : (n : Int) - 1=(m : Int):=by omega
   have hszw : w1.heap.size≤wo.heap.size:=hb.out.size
   have h1w : W.heap.size≤wo.heap.size:=Nat.le_trans Hb1.out.size hszw
   have Hd0:=Lib.hid d0
   have Hll:=Lib.hid (show (ldL n p k).length=k by simp [ldL])
   have E7:=Lib.hid e7
   have E8:=Lib.hid e8
   have E9:=Lib.hid e9
   have Hx2':=Lib.hid hx2
   have Hx3':=Lib.hid hx3
   clear hA1 hA2 hA3 hmk d0 hx1 hx2 hx3 e7 e8 e9
   have hmkz2 : (m : Int) - (k : Int)=(mk : Int):=by omega
   go_wp2_with fail
   have hwm : IntKind.i64.wrap (m : Int)=(m : Int):=k64 (by omega) (by omega)
   have hwmk : IntKind.i64.wrap (mk : Int)=(mk : Int):=k64 (by omega) (by omega)
   go_region_held3 (fun w'=>(w'.cell? ⟨w.heap.size,1,none⟩=some (.slice (some ⟨bL,oL,none⟩) N kL)∧w'.cell? ⟨bL,oL+A1,none⟩=some (.int .i64 x1))∧Below W.heap.size wo w')
    (first | with_reducible assumption | exact ⟨⟨hcw,hcx⟩,(Below.refl _ _).drew⟩ | exact keep_sa h1w hbx hbL _ (by assumption) | exact keep_s hb6 hbx hbL (by assumption))
    (first
      | (go_at_call 61;(with_reducible refine Calls.mono (qA1 _) ?_);rintro e w4 ⟨rfl,rfl⟩)
      | (refine step_append_T rfl (.tmp 23) (.tmp 33) 24 rfl Tryz.underlying24 info_int w1.heap.size (.slice p7 k c7) (.slice p8 k c8) (.slice p9 k c9) (ldL n p k) (rdL p k) (tdL n p k) rfl (ht.out.below ((below_alloc wo _).drew)) (by show _≤(World.alloc wo _).heap.size;simp;omega) _ x1 rfl (cell_of_blk (heap_alloc_top _ _) (j:=0) rfl) (by rw [Hll.out];omega) ?_;intro v7 w7 ht7 hb6';have hb6 : Below W.heap.size _ w7:=hb6'.mono Hb1.out.size))
   have Hb7:=Lib.hid (hb.out.trans (((below_alloc wo _).drew.mono hszw).trans hb6'))
   have Ht7:=Lib.hid ht7.rot
   obtain ⟨p7',c7',rfl,_,_⟩:=ht7.a.fn.shape
   rw [show (ldL n p k ++ [x1]).length=k+1 by simp [ldL]] at Ht7 ⊢
   have hsz7 : w1.heap.size≤w7.heap.size:=Hb7.out.size
   have h1w7 : W.heap.size≤w7.heap.size:=Nat.le_trans Hb1.out.size hsz7
   have Hbw7:=Lib.hid (Hb1.out.trans (Hb7.out.mono Hb1.out.size))
   have hcw2:=Hx2.out w7 Hbw7.out
   have hcx2:=HR.out w7 Hbw7.out A2 hA2l
   rw [← Hx2'.out] at hcx2
   have Hll2:=Lib.hid (show (rdL p k).length=k by simp [rdL])
   clear ht7 hb6 hb6' hcw hcx qA1
   go_wp2_with fail
   go_region_held3 (fun w'=>(w'.cell? ⟨w.heap.size,2,none⟩=some (.slice (some ⟨bR,oR,none⟩) N kR)∧w'.cell? ⟨bR,oR+A2,none⟩=some (.int .i64 x2))∧Below W.heap.size w7 w')
    (first | with_reducible assumption | exact ⟨⟨hcw2,hcx2⟩,(Below.refl _ _).drew⟩ | exact keep_sa h1w7 hbx hbR _ (by assumption) | exact keep_s hb6 hbx hbR (by assumption))
    (first
      | (go_at_call 61;(with_reducible refine Calls.mono (qA2 _) ?_);rintro e w4 ⟨rfl,rfl⟩)
      | (refine step_append_T rfl (.tmp 35) (.tmp 43) 24 rfl Tryz.underlying24 info_int w1.heap.size (.slice p8 k c8) (.slice p9 k c9) (.slice p7' (k+1) c7') (rdL p k) (tdL n p k) (ldL n p k ++ [x1]) rfl (Ht7.out.below ((below_alloc w7 _).drew)) (by show _≤(World.alloc w7 _).heap.size;simp;omega) _ x2 rfl (cell_of_blk (heap_alloc_top _ _) (j:=0) rfl) (by rw [Hll2.out];omega) ?_;intro v8 w8 ht8 hb6';have hb6 : Below W.heap.size _ w8:=hb6'.mono Hb1.out.size))
   have Hb8:=Lib.hid (Hb7.out.trans (((below_alloc w7 _).drew.mono hsz7).trans hb6'))
   have Ht8:=Lib.hid ht8.rot
   obtain ⟨p8',c8',rfl,_,_⟩:=ht8.a.fn.shape
   rw [show (rdL p k ++ [x2]).length=k+1 by simp [rdL]] at Ht8 ⊢
   have hsz8 : w1.heap.size≤w8.heap.size:=Hb8.out.size
   have h1w8 : W.heap.size≤w8.heap.size:=Nat.le_trans Hb1.out.size hsz8
   have Hbw8:=Lib.hid (Hb1.out.trans (Hb8.out.mono Hb1.out.size))
   have hcw3:=Hx3.out w8 Hbw8.out
   have hcx3:=HB.out w8 Hbw8.out A3 hA3l
   rw [← Hx3'.out] at hcx3
   have Hll3:=Lib.hid (show (tdL n p k).length=k by simp [tdL])
   clear ht8 hb6 hb6' hcw2 hcx2 qA2
   go_wp2_with fail
   go_region_held3 (fun w'=>(w'.cell? ⟨w.heap.size,3,none⟩=some (.slice (some ⟨bB,oB,none⟩) N kB)∧w'.cell? ⟨bB,oB+A3,none⟩=some (.int .i64 x3))∧Below W.heap.size w8 w')
    (first | with_reducible assumption | exact ⟨⟨hcw3,hcx3⟩,(Below.refl _ _).drew⟩ | exact keep_sa h1w8 hbx hbB _ (by assumption) | exact keep_s hb6 hbx hbB (by assumption))
    (first
      | (go_at_call 61;(with_reducible refine Calls.mono (qA3 _) ?_);rintro e w4 ⟨rfl,rfl⟩)
      | (refine step_append_T rfl (.tmp 45) (.tmp 54) 24 rfl Tryz.underlying24 info_int w1.heap.size (.slice p9 k c9) (.slice p7' (k+1) c7') (.slice p8' (k+1) c8') (tdL n p k) (ldL n p k ++ [x1]) (rdL p k ++ [x2]) rfl (Ht8.out.below ((below_alloc w8 _).drew)) (by show _≤(World.alloc w8 _).heap.size;simp;omega) _ x3 rfl (cell_of_blk (heap_alloc_top _ _) (j:=0) rfl) (by rw [Hll3.out];omega) ?_;intro v9 w9 ht9 hb6';have hb6 : Below W.heap.size _ w9:=hb6'.mono Hb1.out.size))
   have Hb9:=Lib.hid (Hb8.out.trans (((below_alloc w8 _).drew.mono hsz8).trans hb6'))
   have Ht9:=Lib.hid ht9.rot
   obtain ⟨p9',c9',rfl,_,_⟩:=ht9.a.fn.shape
   rw [show (tdL n p k ++ [x3]).length=k+1 by simp [tdL]] at Ht9 ⊢
   clear ht9 hb6 hb6' hcw3 hcx3 qA3 hmz hmkz hmkz2 hwm hwmk
   go_wp2_with fail
   go_roundg (n - (k+1))
   case measure=>omega
   case rel=>exact ⟨k+1,_,_,_,_,_,_,by omega,rfl,rfl,rfl,rfl,by go_num,by unfold Hid;rw [E7.out,E8.out,E9.out];exact Ht9.out,Hb9.out⟩
  ·obtain rfl : k=n:=by omega
   go_wp2_with fail
   (try simp only [Exit.inBlock,Exit.then])
   refine bodyPost_ret (results_tmp4 rfl _ _ _) rfl ?_
   exact ⟨_,_,_,rfl,ht.out.c.ints,Hb0.out.trans ((Hb1.out.trans (hb.out.mono Hb1.out.size)).mono Hb0.out.size)⟩
def trU (i j : Nat) : Value:=match j with
 | 0=>.int .i64 (triU.getD i trD).1
 | 1=>.int .i64 (triU.getD i trD).2.1
 | _=>.int .i64 (triU.getD i trD).2.2
def RdU (w : World) (v : Value) : Prop:=RdS w 3 v 5 trU
theorem RdU.below {w w' : World} {v : Value} (h : RdU w v) (hb : Below w.heap.size w w') : RdU w' v:=RdS.below h hb
theorem trU_mem {k : Nat} (h : k < 5) : triU.getD k trD ∈ triU:=by
 rw [List.getD_eq_getElem?_getD,List.getElem?_eq_getElem (show k < triU.length from h)]
 exact List.getElem_mem _
theorem trU_take {k : Nat} (h : k < 5) : triU.take (k+1)=triU.take k ++ [triU.getD k trD]:=by
 rw [List.take_add_one,List.getD_eq_getElem?_getD,List.getElem?_eq_getElem (show k < triU.length from h)]
 rfl
theorem index5_any (v : Value) (x y z : Int) (w : World) (h : RdU w v) :
 Calls Tryz.prog 122 #[v,.agg #[.int .i64 x,.int .i64 y,.int .i64 z]] w fun e w'=> ∃ r : Int,e=.returned (.int .i64 r)∧(0≤r ↔ (x,y,z) ∈ triU) ∧ -1≤r∧Below w.heap.size w w':=by
 obtain ⟨p,cap,rfl,⟨hx1,hx⟩,hxc⟩:=h
 unfold maxLen at hx
 obtain ⟨b,rfl,hc⟩:=hxc (by omega)
 obtain ⟨W,hW⟩ : ∃ W,W=w.alloc (.cells #[.int .i64 x,.int .i64 y,.int .i64 z] 128):=⟨_,rfl⟩
 have z0 : W.heap[w.heap.size]?=some (.cells #[.int .i64 x,.int .i64 y,.int .i64 z] 128 (0,0)):=by rw [hW];exact heap_alloc_top _ _
 have hb0 : Below w.heap.size w W:=by rw [hW];exact below_alloc w _
 have HW:=Lib.hid hW
 have Hz0:=Lib.hid z0
 have Hb0:=Lib.hid hb0
 have Hc:=Lib.hid hc
 clear hW z0 hb0 hc hxc
 go_enter Tryz.func122,Tryz.ntmps122
 go_wp2_with fail
 rw [← HW.out]
 go_loopg [8] 5 (fun g i wr=> ∃ k : Nat,k≤5∧g=5 - k∧i=.int .i64 k∧Qt W wr∧Hid ((x,y,z) ∉ triU.take k))
 case atStart=>exact ⟨0,Nat.zero_le _,rfl,rfl,Qt.refl _,by simp [Hid]⟩
 case round =>
  obtain ⟨k,hk,rfl,rfl,hq,hp⟩:=hrel
  by_cases hlt : k < 5
  ·have e0:=hq.cell (cell_of_blk Hz0.out (j:=0) rfl)
   have e1:=hq.cell (cell_of_blk Hz0.out (j:=1) rfl)
   have e2:=hq.cell (cell_of_blk Hz0.out (j:=2) rfl)
   have c0 : wr.cell? ⟨b,k * 3,none⟩=some (trU k 0):=hq.cell (cell_below Hb0.out (Hc.out k hlt 0 (by omega)))
   have c1:=hq.cell (cell_below Hb0.out (Hc.out k hlt 1 (by omega)))
   have c2:=hq.cell (cell_below Hb0.out (Hc.out k hlt 2 (by omega)))
   have hkz : (k : Int) < 5:=by omega
   unfold trU at c0 c1 c2
   obtain ⟨t,ht⟩ : ∃ t,t=triU.getD k trD:=⟨_,rfl⟩
   rw [← ht] at c0 c1 c2
   have Ht:=Lib.hid ht
   have Hlt:=Lib.hid hlt
   obtain ⟨x',y',z'⟩:=t
   dsimp only at c0 c1 c2
   have heq:=fun (wq : World)=>eqlA x y z x' y' z' wq
   clear ht
   by_cases e : (x,y,z)=(x',y',z')
   ·have hd : decide ((x,y,z)=(x',y',z'))=true:=decide_eq_true e
    rw [hd] at heq
    have He:=Lib.hid e
    clear hd e
    go_wp2_with fail
    go_quiet (fail)
    go_wp2_with fail
    go_ret
    exact ⟨k,rfl,⟨fun _=>by rw [He.out,Ht.out];exact trU_mem Hlt.out,fun _=>by omega⟩,by omega,Hb0.out.trans (((hq.drewN nq).below _).mono Hb0.out.size)⟩
   ·have hd : decide ((x,y,z)=(x',y',z'))=false:=decide_eq_false e
    rw [hd] at heq
    have He:=Lib.hid e
    clear hd e
    go_wp2_with fail
    go_quiet (fail)
    go_wp2_with fail
    go_roundg (5 - (k+1))
    case measure=>omega
    case rel =>
     refine ⟨k+1,by omega,rfl,by go_num,hq.drewN nq,?_⟩
     unfold Hid
     rw [trU_take Hlt.out,← Ht.out]
     have h3:=hp.out
     simp only [List.mem_append,List.mem_singleton,not_or]
     exact ⟨h3,He.out⟩
  ·go_wp2_with fail
   go_ret
   obtain rfl : k=5:=by omega
   have h3:=hp.out
   exact ⟨-1,rfl,⟨fun h=>absurd h (by decide),fun h=>absurd h h3⟩,by omega,Hb0.out.trans ((hq.below _).mono Hb0.out.size)⟩
theorem contains5_any (v : Value) (x y z : Int) (w : World) (h : RdU w v) :
 Calls Tryz.prog 93 #[v,.agg #[.int .i64 x,.int .i64 y,.int .i64 z]] w fun e w'=>e=.returned (.bool (decide ((x,y,z) ∈ triU)))∧Below w.heap.size w w':=by
 have Hh:=Lib.hid h
 obtain ⟨p,cap,rfl,_⟩:=h
 have hb0:=below_alloc w (.cells #[.int .i64 x,.int .i64 y,.int .i64 z] 128)
 have z0 : (w.alloc (.cells #[.int .i64 x,.int .i64 y,.int .i64 z] 128)).heap[w.heap.size]?=some (.cells #[.int .i64 x,.int .i64 y,.int .i64 z] 128 (0,0)):=heap_alloc_top _ _
 have e0:=cell_of_blk z0 (j:=0) rfl
 have e1:=cell_of_blk z0 (j:=1) rfl
 have e2:=cell_of_blk z0 (j:=2) rfl
 have Hb0:=Lib.hid hb0
 clear z0 hb0
 go_enter Tryz.func93,Tryz.ntmps93
 go_wp2_with fail
 refine (index5_any _ x y z _ (Hh.out.below Hb0.out)).mono ?_
 rintro e w1 ⟨r,rfl,hr,hr1,hq⟩
 have Hr:=Lib.hid hr
 clear hr
 go_wp2_with fail
 go_ret
 exact ⟨ret_bool (by rw [decide_eq_decide];exact Hr.out),Hb0.out.trans (hq.mono Hb0.out.size)⟩
theorem con3U (v : Value) (x y z : Int) (b : Bool) (W : World) (h : RdU W v) (hb : b=decide ((x,y,z) ∈ triU)) : Calls Tryz.prog 93 #[v,.agg #[.int .i64 x,.int .i64 y,.int .i64 z]] W fun e w'=>e=.returned (.bool b) ∧ ∃ q os',w'=grow (atd W q) os' :=
 (contains5_any v x y z W h).mono fun e w' ⟨he,hw⟩=>⟨by rw [he,hb],below_grow hw⟩
theorem triplesU_any (w : World) : Calls Tryz.prog 63 #[.bool false] w fun e w'=> ∃ u,e=.returned u∧OwnS w' w.heap.size w'.heap.size 128 3 u 5 trU∧Below w.heap.size w w':=by
 have Ho:=Lib.hid (show OwnS (w.alloc (.cells trB.toArray 128)) w.heap.size (w.heap.size+1) 128 3 (.slice (some ⟨w.heap.size,0,none⟩) 5 5) 5 trU from
  ⟨trB,⟨⟨rfl,.inr ⟨w.heap.size,5,trB.toArray,rfl,Nat.le_refl _,heap_alloc_top w _,Nat.le_refl _,by decide,rfl,rfl⟩⟩,fun k hk=>by simp [Value.ownBlock] at hk;omega⟩,fun i hi j hj=>by
    have h1 : i=0 ∨ i=1 ∨ i=2 ∨ i=3 ∨ i=4:=by omega
    have h2 : j=0 ∨ j=1 ∨ j=2:=by omega
    rcases h1 with rfl | rfl | rfl | rfl | rfl <;> rcases h2 with rfl | rfl | rfl <;> rfl⟩)
 have Hb0:=Lib.hid (below_alloc w (.cells trB.toArray 128))
 go_enter Tryz.func63,Tryz.ntmps63
 go_wp2_with fail
 go_ret
 exact ⟨_,rfl,Ho.out.mono (Nat.le_refl _) (by rw [size_alloc];exact Nat.le_refl _),Hb0.out⟩
end
end Go.Proofs.YtijadclebjcckaaGreat
