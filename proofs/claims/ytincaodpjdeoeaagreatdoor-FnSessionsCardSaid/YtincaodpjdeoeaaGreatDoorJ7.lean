/-
  A part of the proof of FnSessions (texts of one proof, joined).
-/
import Derived.Test.YtincaodpjdeoeaaGreatDoorJ6
namespace Go.Proofs.YtincaodpjdeoeaaGreatDoor
set_option linter.all false
set_option maxRecDepth 100000
set_option maxHeartbeats 16000000
section
open Go.RowKit
def OwnTl (w : World) (lo hi : Nat) (v : Value) (cs : List Cls) : Prop :=
 ∃ g,OwnS w lo hi 68 2 v cs.length (clF cs g) ∧ ∀ i,i < cs.length→OwnI 3 w lo hi (g i) (cs.getD i clD).1
theorem OwnTl.rd {w : World} {lo hi : Nat} {v : Value} {cs : List Cls} (h : OwnTl w lo hi v cs) : RdCl w v cs:=by
 obtain ⟨g,h1,h2⟩:=h
 exact ⟨g,h1.rd,fun i hi=>(h2 i hi).ints⟩
theorem OwnTl.below {w w' : World} {lo hi : Nat} {v : Value} {cs : List Cls} (h : OwnTl w lo hi v cs) (hb : Below w.heap.size w w') : OwnTl w' lo hi v cs:=by
 obtain ⟨g,h1,h2⟩:=h
 exact ⟨g,h1.below hb,fun i hi=>(h2 i hi).below hb⟩
theorem OwnTl.mono {w : World} {lo hi lo' hi' : Nat} {v : Value} {cs : List Cls} (h : OwnTl w lo hi v cs) (a : lo'≤lo) (b : hi≤hi') : OwnTl w lo' hi' v cs:=by
 obtain ⟨g,h1,h2⟩:=h
 exact ⟨g,h1.mono a b,fun i hi=>(h2 i hi).mono a b⟩
theorem OwnTl.setCell {w : World} {lo hi : Nat} {v : Value} {cs : List Cls} (h : OwnTl w lo hi v cs) {a : Addr} (ho : a.block < lo ∨ hi≤a.block) (u : Value) : OwnTl (w.setCell a u) lo hi v cs:=by
 obtain ⟨g,h1,h2⟩:=h
 exact ⟨g,h1.setCell ho u,fun i hi=>(h2 i hi).setCell ho u⟩
theorem OwnTl.shape {w : World} {lo hi : Nat} {v : Value} {cs : List Cls} (h : OwnTl w lo hi v cs) : ∃ p cap,v=.slice p cs.length cap∧cs.length≤cap∧cap≤maxLen:=by
 obtain ⟨g,h1,_⟩:=h
 obtain ⟨p,cap,e,h2,h3,_⟩:=h1.shape
 exact ⟨p,cap,e,h2,h3⟩
def OwnTd (w : World) (lo hi : Nat) (v : Value) (cs : List Cls) : Prop :=
 ∃ f,OwnS w lo hi 68 2 v cs.length (clF cs f)∧(∀ i,i < cs.length→OwnI 3 w lo hi (f i) (cs.getD i clD).1) ∧
   ∀ i j,i < j→j < cs.length → ∀ k,(f i).ownBlock=some k→(f j).ownBlock ≠ some k
namespace OwnTd
variable {w w' : World} {lo hi : Nat} {v : Value} {cs : List Cls}
theorem cl (h : OwnTd w lo hi v cs) : OwnTl w lo hi v cs:=by
 obtain ⟨f,h1,h2,_⟩:=h
 exact ⟨f,h1,h2⟩
theorem rd (h : OwnTd w lo hi v cs) : RdCl w v cs:=h.cl.rd
theorem keep (h : OwnTd w lo hi v cs) (hb : ∀ k,lo≤k→k < hi→k < w.heap.size→w'.heap[k]?=w.heap[k]?) : OwnTd w' lo hi v cs:=by
 obtain ⟨f,h1,h2,h3⟩:=h
 exact ⟨f,h1.keep hb,fun i hi=>Own.keep (h2 i hi) hb,h3⟩
theorem below (h : OwnTd w lo hi v cs) (hb : Below w.heap.size w w') : OwnTd w' lo hi v cs:=h.keep fun k _ _ h3=>hb.block k h3
theorem frm {lo' hi' : Nat} (h : OwnTd w lo hi v cs) (hb : Frm lo' hi' w w') (ho : hi≤lo' ∨ hi'≤lo) : OwnTd w' lo hi v cs:=h.keep fun k h1 h2 h3=>hb.block k h3 (by omega)
theorem mono {lo' hi' : Nat} (h : OwnTd w lo hi v cs) (h1 : lo'≤lo) (h2 : hi≤hi') : OwnTd w lo' hi' v cs:=by
 obtain ⟨f,g1,g2,g3⟩:=h
 exact ⟨f,g1.mono h1 h2,fun i hi=>(g2 i hi).mono h1 h2,g3⟩
theorem shape (h : OwnTd w lo hi v cs) : ∃ p cap,v=.slice p cs.length cap∧cs.length≤cap∧cap≤maxLen:=h.cl.shape
theorem nil (w : World) (lo hi : Nat) : OwnTd w lo hi (.slice none 0 0) []:=⟨fun _=>undef,OwnS.nil _ _ _ _ _ _,fun i hi=>absurd hi (Nat.not_lt_zero _),fun i j _ hj=>absurd hj (Nat.not_lt_zero _)⟩
theorem made0 (w : World) : OwnTd (w.alloc (.cells #[] 68)) w.heap.size (w.heap.size+1) (.slice (some ⟨w.heap.size,0,none⟩) 0 0) [] :=
 ⟨fun _=>undef,OwnS.made0 _ _ _ _,fun i hi=>absurd hi (Nat.not_lt_zero _),fun i j _ hj=>absurd hj (Nat.not_lt_zero _)⟩
theorem getD_snoc {cs : List Cls} {m : Cls} {i : Nat} : (cs ++ [m]).getD i clD=if i < cs.length then cs.getD i clD else if i=cs.length then m else clD:=by
 by_cases h : i < cs.length
 ·rw [if_pos h];simp [List.getD_eq_getElem?_getD,List.getElem?_append_left h]
 ·rw [if_neg h]
  by_cases e : i=cs.length
  ·subst e;simp [List.getD_eq_getElem?_getD]
  ·rw [if_neg e];simp [List.getD_eq_getElem?_getD];rw [List.getElem?_eq_none (by simp;omega)];rfl
theorem snoc {v' x : Value} {m : Cls} {mid : Nat} {f : Nat→Value} (g1 : OwnS w lo mid 68 2 v cs.length (clF cs f)) (g2 : ∀ i,i < cs.length→OwnI 3 w lo mid (f i) (cs.getD i clD).1)
 (g3 : ∀ i j,i < j→j < cs.length → ∀ k,(f i).ownBlock=some k→(f j).ownBlock ≠ some k) (hx : OwnI 3 w mid hi x m.1) (hm : lo≤mid) (hmh : mid≤hi)
 (hg : w.grownBy w' v.ownBlock) (hsz : hi≤w'.heap.size)
 (hv : OwnS w' lo w'.heap.size 68 2 v' (cs.length+1) (fun i=>if i < cs.length then clF cs f i else fun j=>match j with | 0=>x | _=>.int .i64 m.2)) : OwnTd w' lo w'.heap.size v' (cs ++ [m]):=by
 have hrow : ∀ (y : Value) (ys : List Int) (lo1 hi1 : Nat),OwnI 3 w lo1 hi1 y ys→OwnI 3 w' lo1 hi1 y ys:=fun y ys lo1 hi1 hy =>
  ⟨ownsRow_of_block hy.1 fun k hk=>hg.block k (Own.block hy hk).2.2 fun e=>ne_of_kinds (g1.kind k e.symm) (OwnI.kind hy k hk) (by decide),hy.2⟩
 refine ⟨fun i=>if i < cs.length then f i else x,by
  rw [List.length_append]
  refine hv.congr fun i hi j hj=> ?_
  by_cases h : i < cs.length
  ·rw [if_pos h]
   unfold clF
   rw [getD_snoc,if_pos h]
   have : j=0 ∨ j=1:=by omega
   rcases this with rfl | rfl
   ·show f i=if i < cs.length then f i else x
    rw [if_pos h]
   ·rfl
  ·have e : i=cs.length:=by omega
   rw [if_neg h]
   unfold clF
   rw [getD_snoc,if_neg h,if_pos e]
   have : j=0 ∨ j=1:=by omega
   rcases this with rfl | rfl
   ·show x=if i < cs.length then f i else x
    rw [if_neg h]
   ·rfl,fun i hi=> ?_,fun i j hij hj k hk=> ?_⟩
 ·rw [List.length_append] at hi
  simp only [List.length_singleton] at hi
  rw [getD_snoc]
  by_cases h : i < cs.length
  ·simp only [h,if_true]
   exact (hrow _ _ _ _ (g2 i h)).mono (Nat.le_refl _) (by omega)
  ·have : i=cs.length:=by omega
   simp only [h,if_false]
   rw [if_pos this]
   exact (hrow _ _ _ _ hx).mono hm hsz
 ·rw [List.length_append] at hj
  simp only [List.length_singleton] at hj
  simp only [show i < cs.length by omega,if_true] at hk
  by_cases h : j < cs.length
  ·simp only [h,if_true]
   exact g3 i j hij h k hk
  ·simp only [h,if_false]
   intro e
   have h5:=(Own.block (g2 i (by omega)) hk).2.1
   have h6:=(Own.block hx e).1
   omega
end OwnTd
end
section
open Go.RowKit Go.Sort Go.Shelf
theorem byTerms_any (u v : Value) (xs ys : List Int) (w : World) (hu : Ints w u xs) (hv : Ints w v ys) (hx : xs.length=7) (hy : ys.length=7) (rx : ∀ j,0≤xs.getD j 0∧xs.getD j 0≤1000000) (ry : ∀ j,0≤ys.getD j 0∧ys.getD j 0≤1000000) :
 Calls Tryz.prog 62 #[u,v] w fun e w'=>e=.returned (.int .i64 (cmpT xs ys))∧Qt w w':=by
 obtain ⟨p,cap,rfl,⟨hx1,hx2⟩,hxc⟩:=hu
 obtain ⟨q,cap',rfl,⟨hy1,hy2⟩,hyc⟩:=hv
 obtain ⟨b,off,rfl,hc⟩:=hxc (by omega)
 obtain ⟨b',off',rfl,hc'⟩:=hyc (by omega)
 rw [hx] at hx1 hc ⊢
 rw [hy] at hy1 hc' ⊢
 have Hc:=Lib.hid hc
 have Hc':=Lib.hid hc'
 unfold maxLen at hx2 hy2
 have Rx:=Lib.hid rx
 have Ry:=Lib.hid ry
 clear hxc hyc hx hy hc hc' rx ry
 go_enter Tryz.func62,Tryz.ntmps62
 go_wp2_with fail
 go_loopg [5] 7 (fun g s5 wr=> ∃ k : Nat,k≤7∧g=k∧s5=.int .i64 ((k : Int) - 1)∧Qt w wr∧Hid (cmpT xs ys=cmpK xs ys k))
 case atStart=>exact ⟨7,by omega,rfl,rfl,Qt.refl _,rfl⟩
 case round =>
  obtain ⟨k,hk,rfl,rfl,hq,he⟩:=hrel
  obtain ⟨wo,rfl⟩ : ∃ x : World,x=wr:=⟨_,rfl⟩
  rcases Nat.eq_zero_or_pos gk with h0 | h0
  ·subst h0
   have hge : decide ((0 : Int)≤((0 : Nat) : Int) - 1)=false:=by decide
   have hge2 : ¬ ((0 : Int)≤((0 : Nat) : Int) - 1):=by decide
   have He:=Lib.hid he.out
   clear he
   go_wp2_with fail
   go_ret
   exact ⟨by rw [He.out];rfl,hq⟩
  ·obtain ⟨m,rfl⟩ : ∃ m,gk=m+1:=⟨gk - 1,by omega⟩
   have hcast : (((m+1 : Nat) : Int) - 1)=(m : Int):=by omega
   rw [hcast]
   have c1:=hq.cell (Hc.out m (by omega))
   have c2:=hq.cell (Hc'.out m (by omega))
   unfold iv at c1 c2
   obtain ⟨x,hx⟩ : ∃ x,x=xs.getD m 0:=⟨_,rfl⟩
   obtain ⟨y,hy⟩ : ∃ y,y=ys.getD m 0:=⟨_,rfl⟩
   have rx:=Rx.out m
   have ry:=Ry.out m
   rw [← hx] at c1 rx
   rw [← hy] at c2 ry
   have hstep : cmpK xs ys (m+1)=if x=y then cmpK xs ys m else y - x:=by rw [hx,hy];rfl
   have Hst:=Lib.hid (he.out.trans hstep)
   have hmi : (m : Int) < 7:=by omega
   have hm0 : (0 : Int)≤(m : Int):=by omega
   have hwy : IntKind.i64.wrap (y - x)=y - x:=k64 (by omega) (by omega)
   clear hcast hx hy hstep he
   go_wp2_with fail
   go_region
   by_cases e : x=y
   ·have hne : (x != y)=false:=by rw [e];simp
    have Hst2:=Lib.hid (Hst.out.trans (if_pos e))
    clear c1 c2 e
    go_wp2_with fail
    go_roundg m
    case measure=>omega
    case rel=>exact ⟨m,by omega,rfl,by go_num,hq.drewN 1,Hst2.out⟩
   ·have hne : (x != y)=true:=by simp [e]
    have Hst2:=Lib.hid (Hst.out.trans (if_neg e))
    clear e
    go_wp2_with fail
    go_region
    go_wp2_with fail
    go_ret
    exact ⟨by rw [Hst2.out];first | rfl | exact ret_int hwy,hq.drewN 2⟩
theorem cmpTm_any (d d' : Value) (xs ys : List Int) (c c' : Int) (w : World) (h : Ints w d xs) (h' : Ints w d' ys) (hx : xs.length=7) (hy : ys.length=7) (rx : ∀ j,0≤xs.getD j 0∧xs.getD j 0≤1000000) (ry : ∀ j,0≤ys.getD j 0∧ys.getD j 0≤1000000) :
 Calls Tryz.prog 103 #[.agg #[d,.int .i64 c],.agg #[d',.int .i64 c']] w fun e w'=>e=.returned (.int .i64 (cmpT xs ys)) ∧ ∃ q os',w'=grow (w.drewN q) os':=by
 have q1:=fun o o'=>byTerms_any d d' xs ys ((w.alloc o).alloc o') (h.below (below_alloc2 w o o')) (h'.below (below_alloc2 w o o')) hx hy rx ry
 have Q1:=Lib.hid q1
 clear q1 rx ry hx hy
 obtain ⟨p,cap,rfl,_,_⟩:=h
 obtain ⟨p',cap',rfl,_,_⟩:=h'
 go_enter Tryz.func103,Tryz.ntmps103
 go_wp2_with fail
 refine (Q1.out _ _).mono ?_
 rintro e w1 ⟨rfl,hq⟩
 obtain ⟨q,rfl⟩:=hq
 go_wp2_with fail
 go_ret
 exact ⟨rfl,q,_,by rw [alloc_eq_grow,alloc_eq_grow,grow_grow];rfl⟩
theorem swo_tm (R : Nat→List Int) (h : ∀ i,(R i).length=7) : SWO (ltOf fun i j=>cmpT (R i) (R j)) where
 irrefl x:=by simp only [ltOf,cmpT_neg (h _) (h _)];exact ltT_irrefl _
 trans x y z h1 h2:=by simp only [ltOf,cmpT_neg (h _) (h _)] at *;exact ltT_trans _ _ _ h1 h2
 ntrans x y z h1 h2:=by simp only [ltOf,cmpT_neg (h _) (h _)] at *;exact ltT_ntrans _ _ _ h1 h2
theorem sortFT_any (v : Value) (cs : List Cls) (lo hi : Nat) (w : World) (h : OwnTd w lo hi v cs) (hn : cs.length≤1000) (hnd : (cs.map (·.1)).Nodup) (h7 : ∀ t ∈ cs,t.1.length=7 ∧ ∀ j,0≤t.1.getD j 0∧t.1.getD j 0≤1000000) :
 Calls Tryz.prog 102 #[v,.func (.func 103) #[] #[]] w fun e w' =>
  e=.returned (.tuple #[])∧OwnTd w' lo hi v (srtT cs)∧Frm lo hi w w':=by
 have hcl:=h
 obtain ⟨F,g1,g2,g3⟩:=h
 obtain ⟨p,cap,rfl,hnc,hcm,hp⟩:=g1.shape
 by_cases h0 : cs.length=0
 ·have hcs : cs=[]:=List.eq_nil_of_length_eq_zero h0
  subst hcs
  have hcon:=AnyF.slices_SortFunc_none (P:=Tryz.prog) (ρ:=Tryz.sortT_ren) Tryz.sortT p cap (.func (.func 103) #[] #[]) w
  change Calls Tryz.prog 102 _ _ _ at hcon
  refine hcon.mono ?_
  rintro e w' ⟨rfl,rfl⟩
  exact ⟨rfl,hcl,Frm.refl _ _ _⟩
 ·obtain ⟨g,rfl,hg1,hg2,hg3⟩:=hp (by omega)
  have g1':=g1
  obtain ⟨xs,hown,hxf⟩:=g1'
  obtain ⟨cur,hgc,hsz⟩ : ∃ cur : Array Value,w.heap[g]?=some (.cells cur 68 (0,0))∧cur.size=cap * 2:=by
   rcases hown.1.2 with ⟨e,_⟩ | ⟨g',cap',cur,e,hb,hg,hn',hm,hs,ht⟩
   ·injection e with e;cases e
   ·injection e with e1 e2 e3
    injection e1 with e1
    injection e1 with e1
    subst e1 e3
    exact ⟨cur,hg,hs⟩
  obtain ⟨n,hN⟩ : ∃ n,n=cs.length:=⟨_,rfl⟩
  have enter : ∀ args w,(callFunc 103 args).run Tryz.prog w=.ok (.enter 103 args) w:=enters_of Tryz.func103 (by kernel_rfl) rfl
  obtain ⟨D,hD⟩ : ∃ D : Nat→Value,D=fun i=>if i < n then F i else F 0:=⟨_,rfl⟩
  obtain ⟨C,hC⟩ : ∃ C : Nat→Int,C=fun i=>if i < n then (cs.getD i clD).2 else 0:=⟨_,rfl⟩
  obtain ⟨R,hR⟩ : ∃ R : Nat→List Int,R=fun i=>if i < n then (cs.getD i clD).1 else (cs.getD 0 clD).1:=⟨_,rfl⟩
  have hDs : ∀ i,∃ p k m,D i=.slice p k m:=fun i=>by
   rw [hD]
   by_cases e : i < n
   ·obtain ⟨p1,k1,e1,_⟩:=(g2 i (by omega)).shape
    simp only [e,if_true]
    exact ⟨_,_,_,e1⟩
   ·obtain ⟨p1,k1,e1,_⟩:=(g2 0 (by omega)).shape
    simp only [e,if_false]
    exact ⟨_,_,_,e1⟩
  have hm7 : ∀ i,i < cs.length→(cs.getD i clD).1.length=7 ∧ ∀ j,0≤(cs.getD i clD).1.getD j 0∧(cs.getD i clD).1.getD j 0≤1000000:=fun i hi=>by
   have e : cs.getD i clD=cs[i]:=by simp [List.getD_eq_getElem?_getD,hi]
   rw [e]
   exact h7 _ (List.getElem_mem hi)
  have hR7 : ∀ i,(R i).length=7:=fun i=>by
   rw [hR]
   by_cases e : i < n
   ·simp only [e,if_true];exact (hm7 i (by omega)).1
   ·simp only [e,if_false];exact (hm7 0 (by omega)).1
  have hRr : ∀ i j,0≤(R i).getD j 0∧(R i).getD j 0≤1000000:=fun i j=>by
   rw [hR]
   by_cases e : i < n
   ·simp only [e,if_true];exact (hm7 i (by omega)).2 j
   ·simp only [e,if_false];exact (hm7 0 (by omega)).2 j
  have hnb : ∀ i,i < n → ∀ k,(F i).ownBlock=some k→k ≠ g∧k < w.heap.size:=fun i hi k hk=>⟨fun e=>by
   subst e
   exact ne_of_kinds ((g2 i (by omega)).kind k hk) ⟨cur,(0,0),hgc⟩ (by decide),(Own.block (g2 i (by omega)) hk).2.2⟩
  have hcmp : CmpLays Tryz.prog 103 #[] (fun i=>[D i,.int .i64 (C i)]) 2 (fun i j=>cmpT (R i) (R j)) g 0 (Array.range n).size w:=by
   intro m os dk _ x y
   have hI : ∀ i,Ints (sortWorldK (fun i=>[D i,.int .i64 (C i)]) 2 w g 0 m dk os) (D i) (R i):=fun i=>by
    by_cases e : i < n
    ·have d1 : D i=F i:=by rw [hD];simp only [e,if_true]
     have r1 : R i=(cs.getD i clD).1:=by rw [hR];simp only [e,if_true]
     rw [d1,r1]
     refine OwnI.ints (lo:=lo) (hi:=hi) (T:=3) ⟨ownsRow_of_block (g2 i (by omega)).1 fun k hk=> ?_,(g2 i (by omega)).2⟩
     exact swd_other id (hnb i e k hk).2 (hnb i e k hk).1 m (flatK (fun i=>[D i,.int .i64 (C i)]) 2 dk) os
    ·have d1 : D i=F 0:=by rw [hD];simp only [e,if_false]
     have r1 : R i=(cs.getD 0 clD).1:=by rw [hR];simp only [e,if_false]
     rw [d1,r1]
     refine OwnI.ints (lo:=lo) (hi:=hi) (T:=3) ⟨ownsRow_of_block (g2 0 (by omega)).1 fun k hk=> ?_,(g2 0 (by omega)).2⟩
     exact swd_other id (hnb 0 (by omega) k hk).2 (hnb 0 (by omega) k hk).1 m (flatK (fun i=>[D i,.int .i64 (C i)]) 2 dk) os
   exact cmpTm_any (D x) (D y) (R x) (R y) (C x) (C y) _ (hI x) (hI y) (hR7 x) (hR7 y) (hRr x) (hRr y)
  have sz : (Array.range n).size=n:=by simp
  have hH : HoldsK (fun i=>[D i,.int .i64 (C i)]) 2 w g 0 (Array.range n):=fun j hj=>by
   rw [size_flatK,sz] at hj
   rw [get_flatK _ _ _ _ (by rw [sz];exact hj),Nat.zero_add]
   have hj2 : j / 2 < n:=by omega
   have e : (Array.range n)[j / 2]! = j / 2:=by rw [getElem!_pos _ _ (by simpa using hj2)];simp
   rw [e]
   refine ⟨?_,g1.frozen j⟩
   have hm : j % 2=0 ∨ j % 2=1:=by omega
   rcases hm with hm | hm
   ·have:=g1.cell (i:=j / 2) (j:=0) (by omega) (by omega)
    rw [show j / 2 * 2+0=j by omega] at this
    rw [this,hm,hD]
    simp [hj2,clF]
   ·have:=g1.cell (i:=j / 2) (j:=1) (by omega) (by omega)
    rw [show j / 2 * 2+1=j by omega] at this
    rw [this,hm,hC]
    simp [hj2,clF]
  have hcon:=AnyQ.slices_SortFunc Tryz.sortT 2 (by intro w;exact Tryz.isAgg68 w) (by intro w;exact Tryz.sizeOf68 w) (fun i=>[D i,.int .i64 (C i)]) (fun _=>rfl) (fun x v hv=>by
   simp only [List.mem_cons,List.not_mem_nil,or_false] at hv
   rcases hv with rfl | rfl
   ·obtain ⟨p,k,m,e⟩:=hDs x
    rw [e];rfl
   ·rfl) (fun i j=>cmpT (R i) (R j)) (swo_tm R hR7) 103 #[] g 0 cap (Array.range n) w enter hcmp hH hg3 (by rw [sz];omega)
  change Calls Tryz.prog 102 _ _ _ at hcon
  rw [sz] at hcon
  rw [← hN]
  refine hcon.mono ?_
  rintro e w' ⟨rfl,d',m,os,hp1,hs1,hw'⟩
  have hw2 : w'=sortWorld id w g 0 m (flatK (fun i=>[D i,.int .i64 (C i)]) 2 d') os:=hw'
  clear hw'
  subst hw2
  have hds : d'.size=n:=by simpa using hp1.1
  have hperm : d'.toList.Perm (List.range n):=by
   have h1:=hp1.2.2
   have e1 : d'.extract 0 n=d':=by rw [← hds];simp
   have e2 : (Array.range n).extract 0 n=Array.range n:=by
    have:=Array.extract_size (xs:=Array.range n)
    rwa [Array.size_range] at this
   rw [e1,e2] at h1
   simpa using h1
  have hat : ∀ i (hi : i < n),d'[i]! = d'.toList[i]'(by simpa [hds] using hi):=fun i hi=>by
   rw [getElem!_pos d' i (by omega)];simp
  have hlt : ∀ i,i < n→d'[i]! < n:=fun i hi=>by
   have : d'[i]! ∈ d'.toList:=by rw [hat i hi];exact List.getElem_mem _
   simpa using hperm.mem_iff.1 this
  have hl : (d'.toList.map fun i=>cs.getD i clD).length=n:=by simp [hds]
  have hgd : ∀ i,i < n→(d'.toList.map fun i=>cs.getD i clD).getD i clD=cs.getD d'[i]! clD:=fun i hi=>by
   rw [List.getD_eq_getElem?_getD,List.getElem?_map,hat i hi,List.getElem?_eq_getElem (by simpa [hds] using hi)]
   rfl
  have hcs : (d'.toList.map fun i=>cs.getD i clD)=srtT cs:=by
   refine srtT_eq hnd ?_ ?_
   ·refine (hperm.map _).trans (List.Perm.of_eq ?_)
    apply List.ext_getElem?
    intro i
    rw [List.getElem?_map]
    by_cases hi : i < n
    ·rw [List.getElem?_range hi,Option.map_some,List.getD_eq_getElem?_getD,List.getElem?_eq_getElem (by omega)];rfl
    ·rw [List.getElem?_eq_none (by simp;omega),List.getElem?_eq_none (by omega)];rfl
   ·rw [List.pairwise_iff_getElem]
    intro i j hi hj hij
    have hi' : i < n:=by omega
    have hj' : j < n:=by omega
    have h1:=hs1 i j (Nat.zero_le _) hij hj'
    simp only [ltOf,cmpT_neg (hR7 _) (hR7 _)] at h1
    simp only [hR,hlt i hi',hlt j hj',if_true] at h1
    rw [List.getElem_map,List.getElem_map,← hat i hi',← hat j hj']
    exact h1
  rw [← hcs]
  have hfr : Frm lo hi w (sortWorld id w g 0 m (flatK (fun i=>[D i,.int .i64 (C i)]) 2 d') os) :=
   ⟨rfl,rfl,rfl,swd_size _ _ _ _ _ _,fun k hk ho=>swd_other id hk (by omega) m _ os⟩
  have hnod : d'.toList.Nodup:=hperm.nodup_iff.2 List.nodup_range
  have hneq : ∀ i j,i < j→j < n→d'[i]! ≠ d'[j]!:=fun i j hij hj=>by
   rw [hat i (by omega),hat j hj]
   exact (List.pairwise_iff_getElem.1 hnod) i j _ _ hij
  refine ⟨rfl,⟨fun i=>F d'[i]!,?_,fun i hi=> ?_,fun i j hij hj k hk=> ?_⟩,hfr⟩
  ·have hflat : ∀ t,t < n * 2→(putCells id 0 (flatK (fun i=>[D i,.int .i64 (C i)]) 2 d') cur)[t]?=some (clF (d'.toList.map fun i=>cs.getD i clD) (fun i=>F d'[i]!) (t / 2) (t % 2)):=fun t ht=>by
    have htc : t < cur.size:=by omega
    simp only [putCells,Array.getElem?_mapIdx,Array.getElem?_eq_getElem htc,Option.map_some,Nat.zero_le,true_and,Nat.zero_add,Nat.sub_zero,size_flatK,hds,ht,if_true,id]
    rw [get_flatK _ _ _ _ (by rw [hds];exact ht)]
    have ht2 : t / 2 < n:=by omega
    have hm : t % 2=0 ∨ t % 2=1:=by omega
    congr 1
    rcases hm with hm | hm
    ·rw [hm,hD];simp [clF,hlt _ ht2]
    ·rw [hm,hC];simp only [clF];rw [hgd _ ht2];simp [hlt _ ht2]
   rw [hl]
   refine ⟨((putCells id 0 (flatK (fun i=>[D i,.int .i64 (C i)]) 2 d') cur).toList.take (n * 2)),⟨⟨?_,.inr ⟨g,cap,_,rfl,hg1,swd_at id hgc m _ os,by omega,hcm,?_,rfl⟩⟩,fun k hk=> ?_⟩,fun i hi j hj=> ?_⟩
   ·rw [List.length_take];simp [putCells,hsz];omega
   ·simp [putCells,hsz]
   ·simp [Value.ownBlock] at hk;omega
   ·have ht : i * 2+j < n * 2:=by omega
    rw [List.getElem?_take,if_pos ht,Array.getElem?_toList,hflat _ ht,show (i * 2+j) / 2=i by omega,show (i * 2+j) % 2=j by omega]
  ·rw [hl] at hi
   rw [hgd i hi]
   refine ⟨ownsRow_of_block (g2 _ (by have:=hlt i hi;omega)).1 fun k hk=> ?_,(g2 _ (by have:=hlt i hi;omega)).2⟩
   exact swd_other id (hnb _ (hlt i hi) k hk).2 (hnb _ (hlt i hi) k hk).1 m _ os
  ·rw [hl] at hj
   have h1:=hneq i j hij hj
   intro hk2
   rcases Nat.lt_or_gt_of_ne h1 with h2 | h2
   ·exact g3 _ _ h2 (by have:=hlt j hj;omega) k hk hk2
   ·exact g3 _ _ h2 (by have:=hlt i (by omega);omega) k hk2 hk
end
section
open Go.RowKit
def TmOk (t : Cls) : Prop:=t.1.length=7∧(∀ j,0≤t.1.getD j 0∧t.1.getD j 0≤24)∧t.2 ≠ 0 ∧ -1000000≤t.2∧t.2≤1000000
def TsOk (ts : List Cls) : Prop:=ts.length≤600∧(∀ t ∈ ts,TmOk t)∧AscT ts
theorem TsOk.at {ts : List Cls} (h : TsOk ts) {k : Nat} (hk : k < ts.length) : TmOk (ts.getD k clD):=by
 have e : ts.getD k clD=ts[k]:=by simp [List.getD_eq_getElem?_getD,hk]
 rw [e]
 exact h.2.1 _ (List.getElem_mem hk)
theorem TsOk.step {ts : List Cls} (h : TsOk ts) {m : Nat} (hk : m+1 < ts.length) : ltT (ts.getD m clD).1 (ts.getD (m+1) clD).1=true:=by
 have e : ts.getD m clD=ts[m]'(by omega):=by simp [List.getD_eq_getElem?_getD,show m < ts.length by omega]
 have e2 : ts.getD (m+1) clD=ts[m+1]:=by simp [List.getD_eq_getElem?_getD,hk]
 rw [e,e2]
 exact List.pairwise_iff_getElem.1 h.2.2 m (m+1) (by omega) hk (by omega)
theorem TsOk.cmp {ts : List Cls} (h : TsOk ts) {m : Nat} (hk : m+1 < ts.length) : cmpT (ts.getD m clD).1 (ts.getD (m+1) clD).1 < 0:=by
 have:=h.step hk
 rw [← cmpT_neg (h.at (by omega)).1 (h.at hk).1] at this
 exact of_decide_eq_true this
theorem PolyOk_yes (v : Value) (ts : List Cls) (w : World) (h : RdCl w v ts) (hok : TsOk ts) :
 Calls Tryz.prog 33 #[v] w fun e w'=>e=.returned (.bool true)∧Below w.heap.size w w':=by
 have Hok:=Lib.hid hok
 obtain ⟨f,h1,h2⟩:=h
 obtain ⟨p,cap,rfl,⟨hn1,hn2⟩,hc⟩:=h1.two
 have Hc:=Lib.hid hc
 have Hf:=Lib.hid h2
 unfold maxLen at hn2
 obtain ⟨N,hN⟩ : ∃ N,N=ts.length:=⟨_,rfl⟩
 have HN:=Lib.hid hN
 have h600 : N≤600:=by rw [hN];exact hok.1
 have e1 : ¬ (600 : Int) < (N : Int):=by omega
 rw [← hN] at hn1 Hc Hf ⊢
 clear h1 h2 hc hN hok
 go_enter Tryz.func33,Tryz.ntmps33
 go_wp2_with fail
 clear e1
 go_loopg [12] N (fun g i wr=> ∃ k : Nat,k≤N∧g=N - k∧i=.int .i64 k∧Hid (Below w.heap.size w wr))
 case atStart=>exact ⟨0,Nat.zero_le _,rfl,rfl,Below.refl _ _⟩
 case round =>
  obtain ⟨k,hk,rfl,rfl,hb⟩:=hrel
  obtain ⟨wo,rfl⟩ : ∃ x : World,x=wr:=⟨_,rfl⟩
  by_cases hlt : k < N
  ·have hki : (k : Int) < (N : Int):=by omega
   obtain ⟨bx,rfl,hcc⟩:=Hc.out (by omega)
   obtain ⟨a0,a1⟩:=hcc k hlt
   have c0:=cell_below hb.out a0
   have c1:=cell_below hb.out a1
   have hfk:=(Hf.out k hlt).below hb.out
   have htm:=Hok.out.at (show k < ts.length by rw [← HN.out];exact hlt)
   obtain ⟨xs,hxs⟩ : ∃ x,x=(ts.getD k clD).1:=⟨_,rfl⟩
   obtain ⟨c,hcv⟩ : ∃ x,x=(ts.getD k clD).2:=⟨_,rfl⟩
   unfold TmOk at htm
   rw [← hxs] at htm hfk
   rw [← hcv] at htm c1
   obtain ⟨t1,t2,t3,t4,t5⟩:=htm
   have Hfk:=Lib.hid hfk
   have Ht1:=Lib.hid t1
   have Ht2:=Lib.hid t2
   obtain ⟨px,kx,hxe,⟨hx1,hx2⟩,hxc⟩:=hfk
   rw [t1] at hxe
   rw [hxe] at c0
   rw [t1] at hx1 hxc
   have Hxs:=Lib.hid hxs
   have z1 : (c == 0)=false:=by simp [t3]
   have z2 : decide (c < -1000000)=false:=decide_eq_false (by omega)
   have z3 : decide (1000000 < c)=false:=decide_eq_false (by omega)
   have z4 : ¬ c=0:=t3
   have z5 : ¬ c < -1000000:=by omega
   have z6 : ¬ 1000000 < c:=by omega
   obtain ⟨ob,oo,rfl,hxd⟩:=hxc (by omega)
   have Hxd:=Lib.hid hxd
   have Hhxe:=Lib.hid hxe
   clear hcc a0 a1 t1 t2 t3 t4 t5 hxs hcv hxc hxd hxe
   go_wp2_with fail
   obtain ⟨w1,hw1⟩ : ∃ x : World,x=wo.alloc (.cells #[.slice (some ⟨ob,oo,none⟩) 7 kx,.int .i64 c] 68):=⟨_,rfl⟩
   have hb1 : Below wo.heap.size wo w1:=by rw [hw1];exact below_alloc _ _
   have hbx : w1.heap[wo.heap.size]?=some (.cells #[.slice (some ⟨ob,oo,none⟩) 7 kx,.int .i64 c] 68 (0,0)):=by rw [hw1];exact heap_alloc_top _ _
   rw [← hw1]
   have Hb1:=Lib.hid hb1
   have y0 : w1.cell? ⟨wo.heap.size,0,none⟩=some (.slice (some ⟨ob,oo,none⟩) 7 kx):=cell_of_blk hbx (j:=0) rfl
   have Hbw:=Lib.hid (hb.out.trans (hb1.mono hb.out.size))
   clear hw1 hb1 hbx z1 z2 z3 z4 z5 z6 c0 c1
   go_loopg [39] 7 (fun g i wr=> ∃ j : Nat,j≤7∧g=7 - j∧i=.int .i64 j∧wr=w1)
   case atStart=>exact ⟨0,by omega,rfl,rfl,rfl⟩
   case round =>
    obtain ⟨j,hj,rfl,rfl,rfl⟩:=hrel
    by_cases hlj : j < 7
    ·have hji : (j : Int) < 7:=by omega
     have d1:=cell_below Hb1.out (Hxd.out j hlj)
     have r1:=Ht2.out j
     unfold iv at d1
     obtain ⟨x,hx⟩ : ∃ x,x=xs.getD j 0:=⟨_,rfl⟩
     rw [← hx] at d1 r1
     have z1 : decide (x < 0)=false:=decide_eq_false (by omega)
     have z2 : decide (24 < x)=false:=decide_eq_false (by omega)
     have z3 : ¬ x < 0:=by omega
     have z4 : ¬ 24 < x:=by omega
     clear hx
     go_wp2_with fail
     go_roundg (7 - (j+1))
     case measure=>omega
     case rel=>exact ⟨j+1,by omega,rfl,by go_num,rfl⟩
    ·obtain rfl : j=7:=by omega
     go_wp2_with fail
     have I2 : Ints wr (.slice (some ⟨ob,oo,none⟩) 7 kx) xs:=by
      have:=Hfk.out.below Hb1.out
      rw [Hhxe.out] at this
      exact this
     have HI2:=Lib.hid I2
     clear I2
     by_cases hk0 : k=0
     ·subst hk0
      have g1 : decide ((0 : Int) < ((0 : Nat) : Int))=false:=rfl
      go_quiet (fail)
      go_wp2_with fail
      go_roundg (N - (0+1))
      case measure=>omega
      case rel=>exact ⟨0+1,by omega,rfl,by go_num,Lib.hid (Below.drewN Hbw.out _)⟩
     ·obtain ⟨m,hm⟩ : ∃ m,m=k - 1:=⟨_,rfl⟩
      have hmN : m < N:=by omega
      have hmi : (m : Int) < (N : Int):=by omega
      have hm0 : (0 : Int)≤(m : Int):=by omega
      obtain ⟨_,e1,hcc⟩:=Hc.out (by omega)
      injection e1 with e1
      injection e1 with e1
      subst e1
      have q0:=cell_below Hbw.out (hcc m hmN).1
      have hfm:=(Hf.out m hmN).below Hbw.out
      have hkm : k=m+1:=by omega
      have hcmp:=Hok.out.cmp (m:=m) (by rw [← HN.out];omega)
      have htm:=Hok.out.at (show m < ts.length by rw [← HN.out];exact hmN)
      rw [← hkm,← Hxs.out] at hcmp
      obtain ⟨ys,hys⟩ : ∃ y,y=(ts.getD m clD).1:=⟨_,rfl⟩
      unfold TmOk at htm
      rw [← hys] at hfm hcmp htm
      obtain ⟨t1,t2,_⟩:=htm
      obtain ⟨py,ky,hye,⟨hy1,hy2⟩,hyc⟩:=hfm
      rw [t1] at hye
      have hI1 : Ints wr (.slice py 7 ky) ys:=by
       have:=(Hf.out m hmN).below Hbw.out
       rw [hye,← hys] at this
       exact this
      rw [hye] at q0
      obtain ⟨cc,hcc0⟩ : ∃ c,c=cmpT ys xs:=⟨_,rfl⟩
      have hq : ∀ q,Calls Tryz.prog 62 #[.slice py 7 ky,.slice (some ⟨ob,oo,none⟩) 7 kx] (wr.drewN q) fun e w'=>e=.returned (.int .i64 cc)∧Qt (wr.drewN q) w':=fun q=>by
       rw [hcc0]
       exact byTerms_any _ _ ys xs _ (hI1.drewN q) (HI2.out.drewN q) t1 Ht1.out (fun j=>by have:=t2 j;omega) (fun j=>by have:=Ht2.out j;omega)
      have Hq:=Lib.hid hq
      rw [← hcc0] at hcmp
      have g1 : decide (0 < k)=true:=decide_eq_true (by omega)
      have g2 : (0 : Int) < (k : Int):=by omega
      have g3 : decide ((0 : Int)≤cc)=false:=decide_eq_false (by omega)
      have g4 : ¬ (0 : Int)≤cc:=by omega
      have Hkm:=Lib.hid hkm
      have Hw:=Lib.hid (show IntKind.i64.wrap ((k : Int) - 1)=(m : Int) by rw [k64 (by omega) (by omega)];omega)
      clear hcc hq hcc0 hye hyc t1 t2 hI1 hm hk0 hkm hys
      have hw:=Hw.out
      go_quiet (first | (go_at_call 62;refine quiet_q (Hq.out _)))
      clear hw
      go_wp2_with fail
      go_roundg (N - (k+1))
      case measure=>omega
      case rel=>exact ⟨k+1,by omega,rfl,by go_num,Lib.hid (Below.drewN Hbw.out _)⟩
  ·have hlti : ¬ (k : Int) < (N : Int):=by omega
   go_wp2_with fail
   go_ret
   exact ⟨rfl,hb.out⟩
end
section
open Go.RowKit Go.Maps Go.WideMaps
def ind (e x : List Int) : Int:=if x=e then 1 else 0
def cfP (P : Pl) (e : List Int) : Int:=Ev P (ind e)
theorem Ev_cons (t : List Int × Int) (P : Pl) (g : List Int→Int) : Ev (t :: P) g=t.2 * g t.1+Ev P g:=by simp [Ev]
theorem Ev_split (e : List Int) (g : List Int→Int) : ∀ P : Pl,Ev P g=cfP P e * g e+Ev (P.filter fun t=>decide (t.1 ≠ e)) g
 | []=>by simp [cfP,Ev]
 | t :: P=>by
   have ih:=Ev_split e g P
   unfold cfP at ih ⊢
   rw [Ev_cons,Ev_cons,ih,List.filter_cons]
   by_cases h : t.1=e
   ·rw [if_neg (by simp [h]),h]
    unfold ind
    rw [if_pos rfl]
    grind
   ·rw [if_pos (by simpa using h),Ev_cons]
    unfold ind
    rw [if_neg h]
    grind
theorem cf_filter (P : Pl) (e x : List Int) : cfP (P.filter fun t=>decide (t.1 ≠ e)) x=if x=e then 0 else cfP P x:=by
 induction P with
 | nil=>simp [cfP,Ev]
 | cons t P ih =>
   rw [List.filter_cons]
   unfold cfP at ih ⊢
   by_cases h : t.1=e
   ·rw [if_neg (by simp [h]),ih,Ev_cons]
    by_cases hx : x=e
    ·rw [if_pos hx,if_pos hx]
    ·rw [if_neg hx,if_neg hx]
     unfold ind
     rw [if_neg (fun e2=>hx (e2.symm.trans h))];simp
   ·rw [if_pos (by simpa using h),Ev_cons,Ev_cons,ih]
    by_cases hx : x=e
    ·rw [if_pos hx,if_pos hx]
     unfold ind
     rw [if_neg (fun e2=>h (e2.trans hx))];simp
    ·rw [if_neg hx,if_neg hx]
theorem Ev_zero : ∀ (n : Nat) (P : Pl),P.length≤n→(∀ e,cfP P e=0) → ∀ g,Ev P g=0
 | _,[],_,_,_=>rfl
 | 0,t :: P,h,_,_=>by simp at h
 | n+1,t :: P,h,hz,g=>by
   rw [Ev_split t.1 g,hz,Int.zero_mul,Int.zero_add]
   refine Ev_zero n _ ?_ (fun e=> ?_) g
   ·rw [List.filter_cons,if_neg (by simp)]
    have:=List.length_filter_le (fun s : List Int × Int=>decide (s.1 ≠ t.1)) P
    simp only [List.length_cons] at h
    omega
   ·rw [cf_filter];split
    ·rfl
    ·exact hz e
theorem Ev_neg (P : Pl) (g : List Int→Int) : Ev (P.map fun t=>(t.1,-t.2)) g = -(Ev P g):=by
 induction P with
 | nil=>rfl
 | cons t P ih=>rw [List.map_cons,Ev_cons,Ev_cons,ih];grind
theorem Ev_of_cf {P Q : Pl} (h : ∀ e,cfP P e=cfP Q e) (g : List Int→Int) : Ev P g=Ev Q g:=by
 have:=Ev_zero _ (P ++ Q.map fun t=>(t.1,-t.2)) (Nat.le_refl _) (fun e=>by
  have:=h e
  unfold cfP at this ⊢
  rw [Ev_append,Ev_neg,this];omega) g
 rw [Ev_append,Ev_neg] at this
 omega
theorem cf_one {P : Pl} (hn : (P.map (·.1)).Nodup) {t : List Int × Int} (ht : t ∈ P) : cfP P t.1=t.2:=by
 induction P with
 | nil=>cases ht
 | cons s P ih =>
   rw [List.map_cons,List.nodup_cons] at hn
   unfold cfP at ih ⊢
   rw [Ev_cons]
   rcases List.mem_cons.1 ht with rfl | ht
   ·have hz : Ev P (ind t.1)=0:=by
     have hno : ∀ s ∈ P,s.1 ≠ t.1:=fun s hs e=>hn.1 (List.mem_map.2 ⟨s,hs,e⟩)
     clear ih hn ht
     induction P with
     | nil=>rfl
     | cons s P ih =>
       rw [Ev_cons,ih fun s hs=>hno s (List.mem_cons_of_mem _ hs)]
       unfold ind
       rw [if_neg (hno s List.mem_cons_self)];simp
    rw [hz]
    unfold ind
    rw [if_pos rfl];simp
   ·rw [ih hn.2 ht]
    unfold ind
    rw [if_neg (fun e=>hn.1 (List.mem_map.2 ⟨t,ht,e.symm⟩))];simp
theorem cf_none {P : Pl} {e : List Int} (h : ∀ t ∈ P,t.1 ≠ e) : cfP P e=0:=by
 induction P with
 | nil=>rfl
 | cons s P ih =>
   unfold cfP at ih ⊢
   rw [Ev_cons,ih fun s hs=>h s (List.mem_cons_of_mem _ hs)]
   unfold ind
   rw [if_neg (h s List.mem_cons_self)];simp
theorem Ev_perm {P Q : Pl} (h : P.Perm Q) (g : List Int→Int) : Ev P g=Ev Q g:=by
 induction h with
 | nil=>rfl
 | cons x _ ih=>rw [Ev_cons,Ev_cons,ih]
 | swap x y l=>rw [Ev_cons,Ev_cons,Ev_cons,Ev_cons];omega
 | trans _ _ h1 h2=>exact h1.trans h2
theorem wf_rng {a : Int} (h : (Lit.int .i64 a).wf=true) : -9223372036854775808≤a∧a≤9223372036854775807:=by
 simp only [Lit.wf,Bool.and_eq_true,decide_eq_true_eq] at h
 exact h
theorem cg_eq {a b : Int} (h : Cg a b) (ha : (Lit.int .i64 a).wf=true) (hb : -1000000≤b∧b≤1000000) : a=b:=by
 obtain ⟨m,rfl⟩:=h
 have:=wf_rng ha
 unfold M64 at *
 omega
theorem SmL_zero {h : Lit→Int} : ∀ l : List (Lit × DU),(∀ p ∈ l,h p.1=0)→SmL h l=0
 | [],_=>rfl
 | p :: l,hz=>by
   have:=SmL_zero l fun q hq=>hz q (List.mem_cons_of_mem _ hq)
   simp only [SmL,hz p List.mem_cons_self,this]
   simp
theorem nodup_sub {α : Type} [DecidableEq α] : ∀ (l s : List α),l.Nodup→(∀ x ∈ l,x ∈ s)→l.length≤s.length
 | [],_,_,_=>Nat.zero_le _
 | x :: l,s,hn,hs=>by
   rw [List.nodup_cons] at hn
   have hx:=hs x List.mem_cons_self
   have:=nodup_sub l (s.erase x) hn.2 fun y hy=>(List.mem_erase_of_ne (fun e=>hn.1 (by rw [← e];exact hy))).2 (hs y (List.mem_cons_of_mem _ hy))
   rw [List.length_erase_of_mem hx] at this
   have:=List.length_pos_of_mem hx
   rw [List.length_cons];omega
theorem at_cf {w : World} {b n d : Nat} {D : DU} {P : Pl} (ho : OwnMp w b n D) (h : PolM d D P) (hd : d≤1000000) (hco : ∀ e,-1000000≤cfP P e∧cfP P e≤1000000) {e : List Int} (he : K7 d e) (hh : has D (kl e)=true) {c : Int}
 (hat : D.atKey (kl e) (.lit (.int .i64 0))=.lit (.int .i64 c)) : c=cfP P e∧c ≠ 0:=by
 have hw : (Lit.int .i64 c).wf=true:=by
  obtain ⟨c',_,h2,h3⟩:=ho.lookup_int klaw und41 undI (zeroI _) (keyOf_kv he hd)
  rw [hat] at h2
  injection h2 with h2
  injection h2 with _ h2
  rw [h2];exact h3
 refine ⟨cg_eq ?_ hw (hco e),fun e0=>h.nz _ hh (.lit (.int .i64 0)) (by rw [hat,e0])⟩
 have hs:=h.sum (ind e)
 have h1:=SmD_del h.tidy (kl_lit e) (fun l=>ind e (unkl l))
 rw [hat] at h1
 have h2 : SmD (D.del (kl e)) (fun l=>ind e (unkl l))=0:=by
  obtain ⟨es,rfl,hpw⟩:=h.tidy
  refine SmL_zero _ fun p hp=> ?_
  rw [List.mem_filter] at hp
  have hp1 : has (.map es) p.1=true:=by
   have hm:=hm_of ho es rfl p hp.1
   exact List.any_eq_true.2 ⟨p,hp.1,WideAt.sameKey_self hm⟩
  obtain ⟨e',h1,h2⟩:=h.keys _ hp1
  rw [h1,unkl_kl h2 hd]
  unfold ind
  rw [if_neg fun e3=> ?_]
  have:=hp.2
  rw [h1,e3,WideAt.sameKey_self (kl_lit e)] at this
  cases this
 rw [h1,h2] at hs
 simp only [coef,unkl_kl he hd] at hs
 have e1 : ind e e=1:=by unfold ind;rw [if_pos rfl]
 rw [e1,Int.mul_one,Int.zero_add] at hs
 exact hs
theorem size_le {w : World} {b n d : Nat} {D : DU} {P : Pl} (ho : OwnMp w b n D) (h : PolM d D P) (hd : d≤1000000) (hco : ∀ e,-1000000≤cfP P e∧cfP P e≤1000000) {S : List (List Int)} (hS : ∀ e,K7 d e→cfP P e ≠ 0→e ∈ S) : Maps.size D≤S.length:=by
 obtain ⟨es,rfl,hpw⟩:=h.tidy
 show es.length≤_
 have key : ∀ p ∈ es,∃ e,p.1=kl e∧K7 d e∧e ∈ S:=fun p hp=>by
  have hm:=hm_of ho es rfl p hp
  have hh : has (.map es) p.1=true:=List.any_eq_true.2 ⟨p,hp,WideAt.sameKey_self hm⟩
  obtain ⟨e,h1,h2⟩:=h.keys _ hh
  obtain ⟨c,_,hc,_⟩:=ho.lookup_int klaw und41 undI (zeroI _) (keyOf_kv h2 hd)
  rw [h1] at hh
  obtain ⟨e1,e2⟩:=at_cf ho h hd hco h2 hh hc
  exact ⟨e,h1,h2,hS e h2 (by rw [← e1];exact e2)⟩
 have:=nodup_sub (es.map fun p=>unkl p.1) S ?_ ?_
 ·rwa [List.length_map] at this
 ·refine List.pairwise_map.2 (hpw.imp_of_mem fun {p q} hp hq hne e=>hne ?_)
  obtain ⟨e1,h1,h2,_⟩:=key p hp
  obtain ⟨e2,h3,h4,_⟩:=key q hq
  rw [h1,h3,unkl_kl h2 hd,unkl_kl h4 hd] at e
  rw [h1,h3,e]
 ·intro x hx
  obtain ⟨p,hp,rfl⟩:=List.mem_map.1 hx
  obtain ⟨e,h1,h2,h3⟩:=key p hp
  rw [h1,unkl_kl h2 hd]
  exact h3
structure Got (d : Nat) (P : Pl) (left : Lit→Bool) (A : List Cls) : Prop where
 nod : (A.map (·.1)).Nodup
 at_ : ∀ t ∈ A,K7 d t.1∧left (kl t.1)=false∧t.2=cfP P t.1∧t.2 ≠ 0
theorem Got.nil (d : Nat) (P : Pl) (left : Lit→Bool) : Got d P left []:=⟨List.nodup_nil,fun t ht=>by cases ht⟩
theorem Got.snoc {d : Nat} {P : Pl} {left : Lit→Bool} {A : List Cls} (h : Got d P left A) (hd : d≤1000000) {e : List Int} (he : K7 d e) (hl : left (kl e)=true) {c : Int} (hc : c=cfP P e∧c ≠ 0) :
 Got d P (fun z=>left z && !z.sameKey (kl e)) (A ++ [(e,c)]):=by
 refine ⟨?_,fun t ht=> ?_⟩
 ·rw [List.map_append,List.nodup_append]
  refine ⟨h.nod,by simp,fun a ha b hb=> ?_⟩
  obtain ⟨t,ht,rfl⟩:=List.mem_map.1 ha
  have : b=e:=by simpa using hb
  rw [this]
  intro e2
  have:=(h.at_ t ht).2.1
  rw [e2,hl] at this
  cases this
 ·rcases List.mem_append.1 ht with ht | ht
  ·obtain ⟨h1,h2,h3⟩:=h.at_ t ht
   exact ⟨h1,by simp [h2],h3⟩
  ·obtain rfl:=List.mem_singleton.1 ht
   exact ⟨he,by simp [WideAt.sameKey_self (kl_lit e)],hc⟩
theorem Got.end {d : Nat} {P : Pl} {left : Lit→Bool} {A : List Cls} (h : Got d P left A) (hd : d≤24) (hco : ∀ e,-1000000≤cfP P e∧cfP P e≤1000000) {S : List (List Int)} (hS : ∀ e,K7 d e→cfP P e ≠ 0→e ∈ S) (h6 : S.length≤600)
 (hg : ∀ g,Cg (Ev A g) (Ev P g)) : TsOk (srtT A) ∧ ∀ g,Ev (srtT A) g=Ev P g:=by
 have hp:=srtT_perm A
 refine ⟨⟨?_,fun t ht=> ?_,srtT_asc h.nod⟩,fun g=> ?_⟩
 ·rw [hp.length_eq]
  have:=nodup_sub (A.map (·.1)) S h.nod fun x hx=>by
   obtain ⟨t,ht,rfl⟩:=List.mem_map.1 hx
   obtain ⟨h1,_,h3,h4⟩:=h.at_ t ht
   exact hS _ h1 (by rw [← h3];exact h4)
  rw [List.length_map] at this
  omega
 ·obtain ⟨h1,_,h3,h4⟩:=h.at_ t (hp.mem_iff.1 ht)
  refine ⟨h1.1,fun j=> ?_,h4,by rw [h3];exact (hco _).1,by rw [h3];exact (hco _).2⟩
  by_cases hj : j < t.1.length
  ·have:=h1.2 (t.1.getD j 0) (by rw [List.getD_eq_getElem?_getD,List.getElem?_eq_getElem hj];exact List.getElem_mem _)
   omega
  ·rw [List.getD_eq_getElem?_getD,List.getElem?_eq_none (by omega)];simp
 ·rw [Ev_perm hp]
  refine Ev_of_cf (fun e=> ?_) g
  by_cases hx : ∃ t ∈ A,t.1=e
  ·obtain ⟨t,ht,rfl⟩:=hx
   rw [cf_one h.nod ht]
   exact (h.at_ t ht).2.2.1
  ·rw [cf_none fun t ht e2=>hx ⟨t,ht,e2⟩]
   have h1:=hg (ind e)
   have h2 : Ev A (ind e)=0:=cf_none fun t ht e2=>hx ⟨t,ht,e2⟩
   rw [h2] at h1
   exact cg_eq h1 rfl (hco e)
end
section
open Go.RowKit Go.Maps Go.WideMaps Go.WideElems Go.MapKept Go.ChangeMaps Go.ChangeShapes
def sclP (k : Int) (P : Pl) : Pl:=P.map fun p=>(p.1,k * p.2)
theorem Ev_scl (k : Int) (P : Pl) (g : List Int→Int) : Ev (sclP k P) g=Ev P fun e=>k * g e:=by
 induction P with
 | nil=>rfl
 | cons p l ih =>
   show k * p.2 * g p.1+Ev (sclP k l) g=p.2 * (k * g p.1)+Ev l _
   rw [ih,Int.mul_comm k p.2,Int.mul_assoc]
theorem Ev_mul (k : Int) (P : Pl) (g : List Int→Int) : (Ev P fun e=>k * g e)=k * Ev P g:=by
 induction P with
 | nil=>simp [Ev]
 | cons p l ih =>
   show p.2 * (k * g p.1)+Ev l _=k * (p.2 * g p.1+Ev l g)
   rw [ih,Int.mul_add,Int.mul_left_comm]
theorem has_sub {left : Lit→Bool} {D : DU} {k : Lit} (h : ∀ l,left l=true→has D l=true) : ∀ l,(left l && !l.sameKey k)=true→has D l=true:=fun l hl=>h l (by simp at hl;exact hl.1)
theorem plus_any (u v : Value) (k : Int) (d nf ng : Nat) (P Q : Pl) (w : World) (hf : PolV w u d nf P) (hg : PolV w v d ng Q) (hd : d≤1000000) (hn : nf+ng < 1000000000000000) :
 Calls Tryz.prog 69 #[u,.int .i64 k,v] w fun e w'=> ∃ u',e=.returned u'∧PolV w' u' d (nf+ng) (P ++ sclP k Q)∧Below w.heap.size w w':=by
 obtain ⟨bf,Df,rfl,hf1,hf2⟩:=hf
 obtain ⟨bg,Dg,rfl,hg1,hg2⟩:=hg
 have hmm:=@run_makeMap Tryz.prog
 have hblf:=hf1.lt
 have hblg:=hg1.lt
 have hszf:=hf1.size_le
 have hszg:=hg1.size_le
 have e1 : (w.alloc (.map #[] 0)).heap.size=w.heap.size+1:=by simp
 have HF2:=Lib.hid hf2
 have HG2:=Lib.hid hg2
 obtain ⟨B,hB⟩ : ∃ B,B=w.heap.size:=⟨_,rfl⟩
 have HB:=Lib.hid hB
 have hG0:=Lib.hid (Gath.start (T:=fun g=>g) hf1 hf2)
 clear hf2 hg2
 go_enter Tryz.func69,Tryz.ntmps69
 go_wp2_with (first
  | (at_range;refine wpList_range_own _ rfl _ 105 rfl 109 3 klaw und41 _ bf nf _ rfl (hf1.alloc _) ?_;intro w0 hrg0 hg0 hs0)
  | fail)
 go_frame
 rw [e1] at hrg0 hs0 ⊢
 have hown0 : OwnMp w0 w.heap.size 0 (.map []):=(World.ownsMap_made _ _ _ _).kept hg0 (by simp)
 have hbel0 : Below w.heap.size w w0:=((Below.refl _ _).alloc (Nat.le_refl _) _).grown hg0 (by simp) (fun j hj=>by cases hj)
 rw [← hB] at hrg0 hs0 hown0 hbel0 hblf hblg ⊢
 have Hbel0:=Lib.hid hbel0
 clear hbel0 hg0 e1 hB
 go_loopg [8,9] (Maps.size Df) (fun g s8 s9 wr=> ∃ (left : Lit→Bool) (Dout : DU) (A : Pl),RanP wr bf (B+1) nf Df left g∧g≤Maps.size Df∧(∀ l,left l=true→has Df l=true) ∧
  OwnMp wr B (Maps.size Df - g) Dout∧Hid (PolM d Dout A)∧Hid (Gath Df P (fun g=>g) left A)∧Hid (Below B w wr))
 case atStart=>exact ⟨_,.map [],[],hrg0,Nat.le_refl _,fun _ h=>h,hown0.mono (Nat.zero_le _),Lib.hid (PolM.empty _),hG0,Hbel0⟩
 case round =>
  obtain ⟨left,Dout,A,hrg,hgs,hleft,hout,hpm,hga,hbel⟩:=hrel
  obtain ⟨wx,rfl⟩ : ∃ x : World,x=wr:=⟨_,rfl⟩
  have hpm0:=hpm.out
  go_wp2_with (first
   | (at_next;refine wpList_next_poly _ rfl _ rfl bf (B+1) nf d Df P left gk rfl hrg HF2.out hd hleft ?_ ?_)
   | fail)
  ·intro hc0 hl0
   have hend:=(hga.out.end hl0)
   have Hpm:=Lib.hid (hpm.out.alt (Q:=P) hend)
   have hg1x : OwnMp wx bg ng Dg:=by
    obtain ⟨es,clock,hb',F,hs,hD⟩:=hg1
    exact ⟨es,clock,(hbel.out.block bg hblg).trans hb',F,hs,hD⟩
   have hG1:=Lib.hid (Gath.start (T:=fun g e=>k * g e) hg1x HG2.out)
   have Hbel:=Lib.hid hbel.out
   have hout1 : OwnMp wx B nf Dout:=hout.mono (by omega)
   have hBx:=hout.lt
   clear hrg hleft hout hpm hga hbel hend hG0 hgs hc0 hl0 hf1 hg1 hszf hrg0 hown0 hs0
   go_wp2_with (first
    | (at_range;refine wpList_range_own _ rfl _ 105 rfl 109 3 klaw und41 _ bg ng _ rfl hg1x ?_;intro w0' hrg0 hg0 hs0)
    | fail)
   go_frame
   obtain ⟨r,hr⟩ : ∃ r,r=wx.heap.size:=⟨_,rfl⟩
   have hown0:=hout1.kept hg0 (by simp)
   have Hbel0:=Lib.hid (Hbel.out.grown hg0 (by omega) (fun j hj=>by cases hj))
   rw [← hr] at hrg0 hs0 hBx ⊢
   clear hg0 hr hout1 hg1x Hbel
   go_loopg [10,11] (Maps.size Dg) (fun g s10 s11 wr=> ∃ (left : Lit→Bool) (Dout : DU) (A : Pl),RanP wr bg r ng Dg left g∧g≤Maps.size Dg∧(∀ l,left l=true→has Dg l=true) ∧
    OwnMp wr B (nf+(Maps.size Dg - g)) Dout∧Hid (PolM d Dout (P ++ A))∧Hid (Gath Dg Q (fun g e=>k * g e) left A)∧Hid (Below B w wr))
   case atStart=>exact ⟨_,_,[],hrg0,Nat.le_refl _,fun _ h=>h,hown0.mono (by omega),by rw [List.append_nil];exact Hpm,hG1,Hbel0⟩
   case round =>
    obtain ⟨left,Dout,A,hrg,hgs,hleft,hout,hpm,hga,hbel⟩:=hrel
    obtain ⟨wy,rfl⟩ : ∃ x : World,x=wr:=⟨_,rfl⟩
    go_wp2_with (first
     | (at_next;refine wpList_next_poly _ rfl _ rfl bg r ng d Dg Q left gk rfl hrg HG2.out hd hleft ?_ ?_)
     | fail)
    ·intro hc0 hl0
     have hend:=(hga.out.end hl0)
     go_wp2_with fail
     go_ret
     refine ⟨_,rfl,⟨B,Dout,rfl,hout.mono (by omega),hpm.out.alt fun g=> ?_⟩,HB.out ▸ hbel.out⟩
     rw [Ev_append,Ev_append,Ev_scl]
     exact (Cg.refl _).add (hend g)
    ·intro a0 a1 a2 a3 a4 a5 a6 c w1 cnt1 hK hlx hwf hat hrg1 hlt hgr1 hs1 hen
     have Hat:=Lib.hid hat
     have Hgr1:=Lib.hid hgr1
     have hout1:=hout.kept hgr1 (by intro h;injection h with h;omega)
     have hBy:=hout.lt
     clear hat hgr1
     go_wp2_with fail
     refine (add_any B (nf+(Maps.size Dg - gk)) d Dout (P ++ A) [a0,a1,a2,a3,a4,a5,a6] (wrap64 (k * c)) _ (hout1.alloc _) hpm.out hK hd (by omega)).mono ?_
     rintro e w2 ⟨rfl,D2,ho2,hp2,hg2⟩
     have hrg2:=(hrg1.alloc _).kept hg2 (by intro h;injection h with h;omega) (by intro h;injection h with h;omega)
     have Hp2:=Lib.hid hp2
     have Hb2:=Lib.hid (((hbel.out.grown Hgr1.out (by omega) (fun j hj=>by cases hj;omega)).alloc (by omega) _).grown hg2 (by simp;omega) (fun j hj=>by cases hj;omega))
     clear hp2 hg2
     go_wp2_with fail
     go_roundg cnt1
     case measure=>exact hlt
     case rel =>
      refine ⟨_,D2,A ++ [([a0,a1,a2,a3,a4,a5,a6],wrap64 (k * c))],hrg2,by omega,has_sub hleft,ho2.mono (by omega),by rw [← List.append_assoc];exact Hp2,Lib.hid (hga.out.step HG2.out.tidy hK hd hlx Hat.out fun g=> ?_),Hb2⟩
      rw [Ev_append]
      refine (Cg.refl _).add ?_
      simp only [Ev,Int.add_zero]
      rw [Int.mul_left_comm,← Int.mul_assoc]
      exact (cg_wrap _).mul (Cg.refl _)
  ·intro a0 a1 a2 a3 a4 a5 a6 c w1 cnt1 hK hlx hwf hat hrg1 hlt hgr1 hs1 hen
   have Hat:=Lib.hid hat
   have Hgr1:=Lib.hid hgr1
   have hout1:=hout.kept hgr1 (by intro h;injection h with h;omega)
   have hBx:=hout.lt
   clear hat hgr1 hpm0
   go_wp2_with fail
   refine (add_any B (Maps.size Df - gk) d Dout A [a0,a1,a2,a3,a4,a5,a6] c _ (hout1.alloc _) hpm.out hK hd (by omega)).mono ?_
   rintro e w2 ⟨rfl,D2,ho2,hp2,hg2⟩
   have hrg2:=(hrg1.alloc _).kept hg2 (by intro h;injection h with h;omega) (by intro h;injection h with h;omega)
   have Hp2:=Lib.hid hp2
   have Hb2:=Lib.hid (((hbel.out.grown Hgr1.out (by omega) (fun j hj=>by cases hj;omega)).alloc (by omega) _).grown hg2 (by simp;omega) (fun j hj=>by cases hj;omega))
   clear hp2 hg2
   go_wp2_with fail
   go_roundg cnt1
   case measure=>exact hlt
   case rel =>
    refine ⟨_,D2,A ++ [([a0,a1,a2,a3,a4,a5,a6],c)],hrg2,by omega,has_sub hleft,ho2.mono (by omega),Hp2,Lib.hid (hga.out.step HF2.out.tidy hK hd hlx Hat.out fun g=> ?_),Hb2⟩
    rw [Ev_append]
    exact (Cg.refl _).add (Cg.of _ _ (by simp [Ev]))
def rsE (i : Nat) (e : List Int) : List Int:=e.set i (e.getD i 0+1)
def rsP (i : Nat) (P : Pl) : Pl:=P.map fun p=>(rsE i p.1,p.2)
theorem Ev_rs (i : Nat) (P : Pl) (g : List Int→Int) : Ev (rsP i P) g=Ev P fun e=>g (rsE i e):=by
 induction P with
 | nil=>rfl
 | cons p l ih =>
   show p.2 * g (rsE i p.1)+Ev (rsP i l) g=p.2 * g (rsE i p.1)+Ev l _
   rw [ih]
theorem rsE_inj {i : Nat} {e e' : List Int} (hi : i < 7) (h1 : e.length=7) (h2 : e'.length=7) (h : rsE i e=rsE i e') : e=e':=by
 refine List.ext_getElem (by omega) fun j hj hj'=> ?_
 have:=congrArg (fun l=>l.getD j 0) h
 unfold rsE at this
 simp only [List.getD_eq_getElem?_getD,List.getElem?_set] at this
 by_cases e1 : i=j
 ·subst e1
  simp [h1,h2,hi,hj,hj'] at this
  omega
 ·simpa [e1,hj,hj'] using this
theorem K7.rs {d i : Nat} {e : List Int} (h : K7 d e) (hi : i < 7) : K7 (d+1) (rsE i e):=by
 refine ⟨by unfold rsE;simpa using h.1,fun x hx=> ?_⟩
 rcases List.mem_or_eq_of_mem_set hx with hx | rfl
 ·have:=h.2 x hx;omega
 ·have:=h.2 (e.getD i 0) (by rw [List.getD_eq_getElem?_getD,List.getElem?_eq_getElem (by rw [h.1];exact hi)];exact List.getElem_mem _)
  omega
theorem PolM.putNew {d : Nat} {D : DU} {P : Pl} (h : PolM d D P) (hd : d≤1000000) {e : List Int} (he : K7 d e) {c : Int} (hn : has D (kl e)=false) (hc : c ≠ 0) : PolM d (D.put (kl e) (.lit (.int .i64 c))) (P ++ [(e,c)]):=by
 refine ⟨h.tidy.put (kl_lit e) _,fun l hl=> ?_,fun g=> ?_,fun l hl z=> ?_⟩
 ·by_cases hk : l=kl e
  ·exact ⟨e,hk,he⟩
  ·rw [has_put_other hk] at hl
   exact h.keys l hl
 ·rw [SmD_put h.tidy (k:=kl e) (fun l=>g (unkl l)) (.lit (.int .i64 c)),del_of_not_has hn,Ev_append]
  simp only [coef,unkl_kl he hd]
  exact (h.sum g).add (Cg.of _ _ (by simp [Ev]))
 ·by_cases hk : l=kl e
  ·rw [hk,atKey_put_same h.tidy.isMap (kl_lit e)]
   intro e2
   injection e2 with e2
   injection e2 with _ e2
   exact hc e2
  ·rw [has_put_other hk] at hl
   rw [atKey_put_other hk]
   exact h.nz l hl z
def RsK (i d : Nat) (left : Lit→Bool) (Dout : DU) : Prop:=∀ l,has Dout l=true → ∃ e,K7 d e∧l=kl (rsE i e)∧left (kl e)=false
theorem RsK.step {i d : Nat} {left : Lit→Bool} {Dout : DU} (h : RsK i d left Dout) (hi : i < 7) (hd : d+1≤1000000) {e : List Int} (he : K7 d e) (hl : left (kl e)=true) (c : Int) :
 has Dout (kl (rsE i e))=false∧RsK i d (fun z=>left z && !z.sameKey (kl e)) (Dout.put (kl (rsE i e)) (.lit (.int .i64 c))):=by
 refine ⟨?_,fun l hl'=> ?_⟩
 ·cases hh : has Dout (kl (rsE i e)) with
  | false=>rfl
  | true =>
    obtain ⟨e',h1,h2,h3⟩:=h _ hh
    have:=rsE_inj hi he.1 h1.1 (kl_inj (he.rs hi) hd (h1.rs hi) hd h2)
    subst this
    rw [hl] at h3;cases h3
 ·by_cases hk : l=kl (rsE i e)
  ·exact ⟨e,he,hk,by simp [WideAt.sameKey_self (kl_lit e)]⟩
  ·rw [has_put_other hk] at hl'
   obtain ⟨e',h1,h2,h3⟩:=h _ hl'
   exact ⟨e',h1,h2,by simp [h3]⟩
end
end Go.Proofs.YtincaodpjdeoeaaGreatDoor
