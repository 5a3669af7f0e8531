/-
  A part of the proof of FnSessions (texts of one proof, joined).
-/
import Derived.Test.YtincaodpjdeoeaaGreatDoorJ14
import Derived.Test.YtincaodpjdeoeaaGreatDoorJ13
import Derived.Lib.BufferOwn
namespace Go.Proofs.YtincaodpjdeoeaaGreatDoor
set_option linter.all false
set_option maxRecDepth 100000
set_option maxHeartbeats 16000000
section
open Go.RowKit
def OwnP2 (w : World) (lo lo2 hi : Nat) (v : Value) (cs : List Cls) : Prop :=
 ∃ g,OwnS w lo hi 78 2 v cs.length (clF cs g) ∧ ∀ i,i < cs.length→OwnI 3 w lo2 hi (g i) (cs.getD i clD).1
theorem OwnP2.rd {w : World} {lo lo2 hi : Nat} {v : Value} {cs : List Cls} (h : OwnP2 w lo lo2 hi v cs) : RdCl w v cs:=by
 obtain ⟨g,h1,h2⟩:=h
 exact ⟨g,h1.rd,fun i hi=>(h2 i hi).ints⟩
theorem OwnP2.below {w w' : World} {lo lo2 hi : Nat} {v : Value} {cs : List Cls} (h : OwnP2 w lo lo2 hi v cs) (hb : Below w.heap.size w w') : OwnP2 w' lo lo2 hi v cs:=by
 obtain ⟨g,h1,h2⟩:=h
 exact ⟨g,h1.below hb,fun i hi=>(h2 i hi).below hb⟩
theorem OwnP2.mono {w : World} {lo lo2 hi lo' hi' : Nat} {v : Value} {cs : List Cls} (h : OwnP2 w lo lo2 hi v cs) (hl : lo'≤lo) (hh : hi≤hi') : OwnP2 w lo' lo2 hi' v cs:=by
 obtain ⟨g,h1,h2⟩:=h
 exact ⟨g,h1.mono hl hh,fun i hi=>(h2 i hi).mono (Nat.le_refl _) hh⟩
theorem OwnP2.shape {w : World} {lo lo2 hi : Nat} {v : Value} {cs : List Cls} (h : OwnP2 w lo lo2 hi v cs) : ∃ p cap,v=.slice p cs.length cap∧cs.length≤cap∧cap≤maxLen:=by
 obtain ⟨g,h1,_⟩:=h
 obtain ⟨p,cap,e,a,b,_⟩:=h1.shape
 exact ⟨p,cap,e,a,b⟩
theorem OwnP2.setCell {w : World} {lo lo2 hi : Nat} {v : Value} {cs : List Cls} (h : OwnP2 w lo lo2 hi v cs) {a : Addr} {c : Array Value} {T : TypeId} {fz : Nat × Nat} (hz : w.heap[a.block]?=some (.cells c T fz)) (hT : T ≠ 78) (hT2 : T ≠ 3 ∨ a.block < lo2) (u : Value) : OwnP2 (w.setCell a u) lo lo2 hi v cs:=by
 obtain ⟨g,h1,h2⟩:=h
 have hs : ∀ k,k ≠ a.block→(w.setCell a u).heap[k]?=w.heap[k]?:=fun k hk=>Below.heap_setCell w a u k hk
 refine ⟨g,?_,fun i hi'=> ?_⟩
 ·obtain ⟨xs,q1,q2⟩:=h1
  refine ⟨xs,⟨ownsRow_of_block q1.1 fun k hk=>hs k fun e=> ?_,q1.2⟩,q2⟩
  exact ne_of_kinds (Lib.ownsRow_kind q1.1 k hk) ⟨c,fz,by rw [e];exact hz⟩ (fun e=>hT e.symm)
 ·have q:=h2 i hi'
  refine ⟨ownsRow_of_block q.1 fun k hk=>hs k fun e=> ?_,q.2⟩
  rcases hT2 with hT2 | hT2
  ·exact ne_of_kinds (OwnI.kind q k hk) ⟨c,fz,by rw [e];exact hz⟩ (fun e=>hT2 e.symm)
  ·have:=(Own.block q hk).1
   omega
def IsPt (w : World) (k : Nat) : Prop:=∃ c fz,w.heap[k]?=some (.cells c 78 fz)
structure FrP (lo : Nat) (w w' : World) : Prop where
 os : w'.os=w.os
 tape : w'.tape=w.tape
 output : w'.output=w.output
 size : w.heap.size≤w'.heap.size
 block : ∀ k,k < w.heap.size→(k < lo ∨ ¬ IsPt w k)→w'.heap[k]?=w.heap[k]?
theorem FrP.refl (lo : Nat) (w : World) : FrP lo w w:=⟨rfl,rfl,rfl,Nat.le_refl _,fun _ _ _=>rfl⟩
theorem FrP.of_below {lo : Nat} {w w' : World} (h : Below w.heap.size w w') : FrP lo w w':=⟨h.os,h.tape,h.output,h.size,fun k hk _=>h.block k hk⟩
theorem FrP.trans {lo : Nat} {a b c : World} (h : FrP lo a b) (k : FrP lo b c) : FrP lo a c :=
 ⟨k.os.trans h.os,k.tape.trans h.tape,k.output.trans h.output,Nat.le_trans h.size k.size,fun i hi ho=>by
   have e:=h.block i hi ho
   have ho' : i < lo ∨ ¬ IsPt b i:=ho.imp id fun hn hp=>hn (by unfold IsPt at hp ⊢;rw [e] at hp;exact hp)
   exact (k.block i (Nat.lt_of_lt_of_le hi h.size) ho').trans e⟩
theorem FrP.of_grown {lo lo2 hi : Nat} {w w' : World} {v : Value} {cs : List Cls} (h : OwnP2 w lo lo2 hi v cs) (hg : w.grownBy w' v.ownBlock) : FrP lo w w' :=
 ⟨hg.os,hg.tape,hg.output,hg.size,fun k hk ho=>hg.block k hk fun e=>by
   obtain ⟨g,h1,_⟩:=h
   rcases ho with ho | ho
   ·have:=h1.blocks k e.symm;omega
   ·exact ho (h1.kind k e.symm)⟩
theorem FrP.setCell {lo lo2 hi g0 n cap j : Nat} {w w' : World} {cs : List Cls} (hf : FrP lo w w') (h : OwnP2 w' lo lo2 hi (.slice (some ⟨g0,0,none⟩) n cap) cs) (u : Value) : FrP lo w (w'.setCell ⟨g0,j,none⟩ u):=by
 obtain ⟨g,h1,_⟩:=h
 refine ⟨hf.os,hf.tape,hf.output,by rw [size_setCell];exact hf.size,fun k hk ho=> ?_⟩
 have e:=hf.block k hk ho
 have hne : g0 ≠ k:=fun e2=>by
  rcases ho with ho | ho
  ·have:=(h1.blocks g0 rfl).1;omega
  ·have:=h1.kind g0 rfl
   rw [e2,e] at this
   exact ho this
 exact (Below.heap_setCell w' ⟨g0,j,none⟩ u k (fun e2=>hne e2.symm)).trans e
def insP (k : Nat) (x : Cls) (cs : List Cls) : List Cls:=cs.take k ++ [x] ++ cs.drop k
theorem insP_len {k : Nat} {x : Cls} {cs : List Cls} (h : k≤cs.length) : (insP k x cs).length=cs.length+1:=by simp [insP];omega
theorem insP_getD {k : Nat} {x : Cls} {cs : List Cls} (h : k≤cs.length) (i : Nat) : (insP k x cs).getD i clD=if i < k then cs.getD i clD else if i=k then x else cs.getD (i - 1) clD:=by
 unfold insP
 have hl : (cs.take k).length=k:=by simp;omega
 by_cases h1 : i < k
 ·rw [if_pos h1,List.append_assoc,List.getD_eq_getElem?_getD,List.getElem?_append_left (by omega),List.getElem?_take,if_pos h1,← List.getD_eq_getElem?_getD]
 ·rw [if_neg h1,List.append_assoc,List.getD_eq_getElem?_getD,List.getElem?_append_right (by omega),hl]
  by_cases h2 : i=k
  ·rw [if_pos h2,h2,Nat.sub_self];rfl
  ·rw [if_neg h2]
   obtain ⟨d,hd⟩ : ∃ d,i - k=d+1:=⟨i - k - 1,by omega⟩
   rw [hd]
   show ((cs.drop k)[d]?).getD clD=_
   rw [List.getElem?_drop,← List.getD_eq_getElem?_getD]
   congr 1;omega
theorem insV_at {xs : List Value} {n k : Nat} {a b : Value} (hl : xs.length=n * 2) (hk : k≤n) {i j : Nat} (hj : j < 2) : (insV xs k a b)[i * 2+j]?=if i < k then xs[i * 2+j]? else if i=k then [a,b][j]? else xs[(i - 1) * 2+j]?:=by
 unfold insV
 have h2 : (xs.take (k * 2)).length=k * 2:=by simp;omega
 by_cases h1 : i < k
 ·rw [if_pos h1,List.append_assoc,List.getElem?_append_left (by omega),List.getElem?_take,if_pos (by omega)]
 ·rw [if_neg h1,List.append_assoc,List.getElem?_append_right (by omega),h2]
  by_cases e : i=k
  ·rw [if_pos e,e,show k * 2+j - k * 2=j by omega,List.getElem?_append_left (by simpa using hj)]
  ·rw [if_neg e,List.getElem?_append_right (by simp;omega),List.getElem?_drop]
   congr 1
   simp
   omega
theorem clF_one {w : World} {lo hi : Nat} {cs : List Cls} {g : Nat→Value} (h2 : ∀ i,i < cs.length→OwnI 3 w lo hi (g i) (cs.getD i clD).1) {i j : Nat} (hi' : i < cs.length) (hj : j < 2) : (clF cs g i j).oneCell'=true:=by
 have : j=0 ∨ j=1:=by omega
 rcases this with rfl | rfl
 ·obtain ⟨p,cap,e,_⟩:=(h2 i hi').ints
  show (g i).oneCell'=true
  rw [e];rfl
 ·rfl
theorem OwnP2.insert {w w' : World} {lo lo2 hi hi2 n k : Nat} {v u z : Value} {cs : List Cls} {g : Nat→Value} {xs : List Value} {x : Cls} (hn : n=cs.length) (hk : k≤n)
 (h1 : Own w lo hi 78 2 v n xs) (hF : ∀ i,i < n → ∀ j,j < 2→xs[i * 2+j]?=some (clF cs g i j)) (h2 : ∀ i,i < n→OwnI 3 w lo2 hi (g i) (cs.getD i clD).1)
 (hz : OwnI 3 w lo2 hi2 z x.1) (ho : Own w' lo w'.heap.size 78 2 u (n+1) (insV xs k z (.int .i64 x.2))) (hg : w.grownBy w' v.ownBlock) (hhi : hi≤w'.heap.size) (hhi2 : hi2≤w'.heap.size) :
 OwnP2 w' lo lo2 w'.heap.size u (insP k x cs):=by
 subst hn
 have hrow : ∀ (y : Value) (ys : List Int) (lo1 hi1 : Nat),OwnI 3 w lo1 hi1 y ys→OwnI 3 w' lo1 hi1 y ys:=fun y ys lo1 hi1 hy =>
  ⟨ownsRow_of_block hy.1 fun b hb=>hg.block b (Own.block hy hb).2.2 fun e=>ne_of_kinds (Lib.ownsRow_kind h1.1 b e.symm) (OwnI.kind hy b hb) (by decide),hy.2⟩
 refine ⟨fun i=>if i < k then g i else if i=k then z else g (i - 1),?_,fun i hi'=> ?_⟩
 ·rw [insP_len hk]
  refine ⟨_,ho,fun i hi' j hj=> ?_⟩
  rw [insV_at h1.len hk hj]
  unfold clF
  rw [insP_getD hk]
  by_cases e1 : i < k
  ·rw [if_pos e1,if_pos e1,hF i (by omega) j hj]
   unfold clF
   match j,hj with
   | 0,_=>simp [e1]
   | 1,_=>rfl
  ·rw [if_neg e1,if_neg e1]
   by_cases e2 : i=k
   ·rw [if_pos e2,if_pos e2]
    match j,hj with
    | 0,_=>simp [e1,e2]
    | 1,_=>rfl
   ·rw [if_neg e2,if_neg e2,hF (i - 1) (by omega) j hj]
    unfold clF
    match j,hj with
    | 0,_=>simp [e1,e2]
    | 1,_=>rfl
 ·rw [insP_len hk] at hi'
  rw [insP_getD hk]
  dsimp only
  by_cases e1 : i < k
  ·rw [if_pos e1,if_pos e1]
   exact (hrow _ _ _ _ (h2 i (by omega))).mono (Nat.le_refl _) hhi
  ·rw [if_neg e1,if_neg e1]
   by_cases e2 : i=k
   ·rw [if_pos e2,if_pos e2]
    exact (hrow _ _ _ _ hz).mono (Nat.le_refl _) hhi2
   ·rw [if_neg e2,if_neg e2]
    exact (hrow _ _ _ _ (h2 (i - 1) (by omega))).mono (Nat.le_refl _) hhi
theorem OwnP2.setN {w : World} {lo lo2 hi g0 n cap k : Nat} {cs : List Cls} (h : OwnP2 w lo lo2 hi (.slice (some ⟨g0,0,none⟩) n cap) cs) (hk : k < cs.length) (c : Int) :
 OwnP2 (w.setCell ⟨g0,k * 2+1,none⟩ (.int .i64 c)) lo lo2 hi (.slice (some ⟨g0,0,none⟩) n cap) (cs.set k ((cs.getD k clD).1,c)):=by
 obtain ⟨g,h1,h2⟩:=h
 have hsh : ∀ i,((cs.set k ((cs.getD k clD).1,c)).getD i clD)=if i=k then ((cs.getD k clD).1,c) else cs.getD i clD:=fun i=>by
  rw [List.getD_eq_getElem?_getD,List.getElem?_set]
  by_cases e : k=i
  ·subst e;simp [hk]
  ·rw [if_neg e,if_neg (fun c=>e c.symm),List.getD_eq_getElem?_getD]
 refine ⟨g,?_,fun i hi'=> ?_⟩
 ·have:=h1.set hk (show 1 < 2 by omega) (.int .i64 c)
  rw [List.length_set]
  refine this.congr fun i hi' j hj=> ?_
  unfold clF
  rw [hsh]
  match j,hj with
  | 0,_=>simp
  | 1,_ =>
    by_cases e : i=k
    ·simp [e]
    ·simp [e]
 ·rw [List.length_set] at hi'
  rw [hsh]
  have h3 : OwnI 3 w lo2 hi (g i) (if i=k then ((cs.getD k clD).1,c) else cs.getD i clD).1:=by
   by_cases e : i=k
   ·rw [if_pos e,e];exact h2 k hk
   ·rw [if_neg e];exact h2 i hi'
  exact h3.setOther (fun e=>ne_of_kinds (h1.kind g0 rfl) (OwnI.kind (h2 i hi') g0 e) (by decide)) _
theorem fill11_any (z s : Value) (c : Int) (xs ys : List Int) (w : World) (hz : Ints w z xs) (hs : Ints w s ys) :
 Calls Tryz.prog 77 #[.agg #[z,.int .i64 c],s] w fun e w'=>e=.returned (.int .i64 (cmpB xs ys))∧Below w.heap.size w w':=by
 have Hz:=Lib.hid hz
 have Hs:=Lib.hid hs
 obtain ⟨p,cap,rfl,_,_⟩:=hz
 obtain ⟨q,cap2,rfl,_,_⟩:=hs
 have c0 : (w.alloc (.cells #[.slice p xs.length cap,.int .i64 c] 78)).cell? ⟨w.heap.size,0,none⟩=some (.slice p xs.length cap):=cell_of_blk (heap_alloc_top _ _) (j:=0) rfl
 obtain ⟨nx,hnx⟩ : ∃ n,n=xs.length:=⟨_,rfl⟩
 obtain ⟨ny,hny⟩ : ∃ n,n=ys.length:=⟨_,rfl⟩
 rw [← hnx] at c0 Hz ⊢
 rw [← hny] at Hs ⊢
 clear hnx hny
 go_enter Tryz.func77,Tryz.ntmps77
 go_wp2_with fail
 refine (compare_any _ _ xs ys _ (Hz.out.below (below_alloc w _)) (Hs.out.below (below_alloc w _))).mono ?_
 rintro e w' ⟨rfl,rfl⟩
 go_wp2_with fail
 go_ret
 exact ⟨rfl,below_alloc w _⟩
theorem searchF_any (v u : Value) (cs : List Cls) (t : List Int) (k : Nat) (w : World) (h : RdCl w v cs) (hu : Ints w u t) (hl : cs.length≤1000) (hk : k≤cs.length)
 (ho : ∀ a,a < cs.length→ltB (cs.getD a clD).1 t=decide (a < k)) :
 Calls Tryz.prog 76 #[v,u,.func (.func 77) #[] #[]] w fun e w' =>
  e=.returned (.tuple #[.int .i64 (k : Int),.bool (decide (k < cs.length∧cmpB (cs.getD k clD).1 t=0))])∧Below w.heap.size w w':=by
 obtain ⟨f,h1,hf⟩:=h
 obtain ⟨p,cap,rfl,⟨hx1,hx⟩,hxc⟩:=h1.two
 unfold maxLen at hx
 obtain ⟨n,hn⟩ : ∃ n,n=cs.length:=⟨_,rfl⟩
 rw [← hn] at hx1 hxc hf hk ho hl ⊢
 have Hc:=Lib.hid hxc
 have Hf:=Lib.hid hf
 have Ho:=Lib.hid ho
 have Hu:=Lib.hid hu
 obtain ⟨pu,ku,rfl,_,_⟩:=hu
 obtain ⟨nt,hnt⟩ : ∃ n,n=t.length:=⟨_,rfl⟩
 rw [← hnt] at Hu ⊢
 clear h1 hxc hf ho hn hnt
 go_enter Tryz.func76,Tryz.ntmps76
 go_wp2_with fail
 go_loopg [9,10,11] n (fun g s9 s10 s11 wr=> ∃ i j : Nat,i≤k∧k≤j∧j≤n∧g=j - i∧s9=.int .i64 (i : Int)∧s10=.int .i64 (j : Int)∧Hid (Below w.heap.size w wr))
 case atStart=>exact ⟨0,n,Nat.zero_le _,hk,Nat.le_refl _,rfl,rfl,rfl,Below.refl _ _⟩
 case round =>
  obtain ⟨i,j,hik,hkj,hjn,rfl,rfl,rfl,hb⟩:=hrel
  obtain ⟨wo,rfl⟩ : ∃ x : World,x=wr:=⟨_,rfl⟩
  by_cases hij : i < j
  ·have hiji : (i : Int) < (j : Int):=by omega
   obtain ⟨m,hm⟩ : ∃ m : Nat,m=(i+j) / 2:=⟨_,rfl⟩
   have hmn : m < n:=by omega
   have hmi : (m : Int) < (n : Int):=by omega
   obtain ⟨bx,rfl,hcc⟩:=Hc.out (by omega)
   obtain ⟨d1,d2⟩:=hcc m hmn
   have d1:=cell_below hb.out d1
   have d2:=cell_below hb.out d2
   have Hm:=Lib.hid hm
   have HS:=Lib.hid (fill11_any (f m) (.slice pu nt ku) (cs.getD m clD).2 (cs.getD m clD).1 t wo ((Hf.out m hmn).below hb.out) (Hu.out.below hb.out))
   have hsh:=(Hf.out m hmn)
   obtain ⟨pz,kz,ez,_,_⟩:=hsh
   obtain ⟨c0,hc0⟩ : ∃ c,c=(cs.getD m clD).2:=⟨_,rfl⟩
   obtain ⟨nz,hnz⟩ : ∃ c,c=(cs.getD m clD).1.length:=⟨_,rfl⟩
   obtain ⟨c,hcm⟩ : ∃ c,c=cmpB (cs.getD m clD).1 t:=⟨_,rfl⟩
   have hcl : c < 0 ↔ m < k:=by
    have h1:=cmpB_lt (cs.getD m clD).1 t
    rw [← hcm,Ho.out m hmn] at h1
    by_cases h2 : m < k
    ·simp [h2] at h1
     exact ⟨fun _=>h2,fun _=>h1⟩
    ·simp [h2] at h1
     exact ⟨fun h=>absurd h (by omega),fun h=>absurd h h2⟩
   rw [← hnz] at ez
   rw [ez,← hc0,← hcm] at HS
   rw [ez] at d1
   rw [← hc0] at d2
   rw [hm] at d1 d2
   have hmi2 : ((i : Int)+(j : Int)) / 2 < (n : Int):=by omega
   clear hm hcc hc0 hnz hcm ez
   go_wp2_with fail
   refine HS.out.mono ?_
   rintro e w' ⟨rfl,hb'⟩
   have Hb':=Lib.hid (hb.out.trans (hb'.mono hb.out.size))
   clear hb' HS
   by_cases h2 : m < k
   ·have h3 : c < 0:=hcl.2 h2
    go_wp2_with fail
    go_roundg (j - (m+1))
    case measure=>have:=Hm.out;omega
    case rel=>exact ⟨m+1,j,by have:=Hm.out;omega,hkj,hjn,rfl,by have:=Hm.out;go_num,rfl,Hb'.out⟩
   ·have h3 : ¬ c < 0:=fun h=>h2 (hcl.1 h)
    go_wp2_with fail
    go_roundg (m - i)
    case measure=>have:=Hm.out;omega
    case rel=>exact ⟨i,m,hik,by omega,by have:=Hm.out;omega,rfl,rfl,by have:=Hm.out;congr 1;omega,Hb'.out⟩
  ·have hiji : ¬ (i : Int) < (j : Int):=by omega
   obtain rfl : i=k:=by omega
   by_cases hin : i < n
   ·have hini : (i : Int) < (n : Int):=by omega
    obtain ⟨bx,rfl,hcc⟩:=Hc.out (by omega)
    obtain ⟨d1,d2⟩:=hcc i hin
    have d1:=cell_below hb.out d1
    have d2:=cell_below hb.out d2
    have HS:=Lib.hid (fill11_any (f i) (.slice pu nt ku) (cs.getD i clD).2 (cs.getD i clD).1 t wo ((Hf.out i hin).below hb.out) (Hu.out.below hb.out))
    obtain ⟨pz,kz,ez,_,_⟩:=(Hf.out i hin)
    obtain ⟨c0,hc0⟩ : ∃ c,c=(cs.getD i clD).2:=⟨_,rfl⟩
    obtain ⟨nz,hnz⟩ : ∃ c,c=(cs.getD i clD).1.length:=⟨_,rfl⟩
    obtain ⟨c,hcm⟩ : ∃ c,c=cmpB (cs.getD i clD).1 t:=⟨_,rfl⟩
    rw [← hnz] at ez
    rw [ez,← hc0,← hcm] at HS
    rw [ez] at d1
    rw [← hc0] at d2
    have Hcm:=Lib.hid hcm
    clear hcc hc0 hnz hcm ez
    by_cases hc00 : c=0
    ·subst hc00
     go_wp2_with fail
     refine HS.out.mono ?_
     rintro e w' ⟨rfl,hb'⟩
     have Hb':=Lib.hid (hb.out.trans (hb'.mono hb.out.size))
     clear hb' HS
     go_wp2_with fail
     go_ret2
     exact ⟨by rw [decide_eq_true ⟨hin,Hcm.out.symm⟩];rfl,Hb'.out⟩
    ·have hcb : (c == 0)=false:=by simp [hc00]
     go_wp2_with fail
     refine HS.out.mono ?_
     rintro e w' ⟨rfl,hb'⟩
     have Hb':=Lib.hid (hb.out.trans (hb'.mono hb.out.size))
     clear hb' HS
     go_wp2_with fail
     go_ret2
     exact ⟨by rw [decide_eq_false (fun h=>hc00 (Hcm.out.trans h.2))];rfl,Hb'.out⟩
   ·have hini : ¬ ((i : Int) < (n : Int)):=by omega
    go_wp2_with fail
    go_ret2
    exact ⟨by first | rfl | (rw [decide_eq_false (fun h=>hin h.1)];rfl) | simp,hb.out⟩
def wC : Int:=3570467226624
def BdP (cs : List Cls) (m : Nat) : Prop:=cs.length≤m ∧ ∀ x ∈ cs,-((m : Int) * wC)≤x.2∧x.2≤(m : Int) * wC
theorem BdP.step {cs : List Cls} {m : Nat} (h : BdP cs m) (s : List Int) {c : Int} (hc : -wC≤c∧c≤wC) : BdP (sumdL s c cs) (m+1):=by
 have hm : ((m+1 : Nat) : Int) * wC=(m : Int) * wC+wC:=by rw [Int.natCast_add,Int.add_mul];simp
 have h0 : 0≤(m : Int) * wC:=Int.mul_nonneg (by omega) (by decide)
 have hw : 0≤wC:=by decide
 have key : ∀ cs : List Cls,(∀ x ∈ cs,-((m : Int) * wC)≤x.2∧x.2≤(m : Int) * wC)→(sumdL s c cs).length≤cs.length+1 ∧ ∀ x ∈ sumdL s c cs,-(((m+1 : Nat) : Int) * wC)≤x.2∧x.2≤((m+1 : Nat) : Int) * wC:=by
  intro cs
  induction cs with
  | nil =>
    intro _
    refine ⟨Nat.le_refl _,fun x hx=> ?_⟩
    unfold sumdL at hx
    rw [List.mem_singleton] at hx
    subst hx
    dsimp only
    omega
  | cons y l ih =>
    intro hl
    obtain ⟨i1,i2⟩:=ih fun x hx=>hl x (List.mem_cons_of_mem _ hx)
    have hy:=hl y List.mem_cons_self
    have hl' : ∀ x ∈ l,-(((m+1 : Nat) : Int) * wC)≤x.2∧x.2≤((m+1 : Nat) : Int) * wC:=fun x hx=>by have:=hl x (List.mem_cons_of_mem _ hx);omega
    unfold sumdL
    split
    ·refine ⟨by simp;omega,fun x hx=> ?_⟩
     rcases List.mem_cons.1 hx with rfl | hx
     ·omega
     ·exact i2 x hx
    ·split
     ·refine ⟨by simp,fun x hx=> ?_⟩
      rcases List.mem_cons.1 hx with rfl | hx
      ·dsimp only;omega
      ·exact hl' x hx
     ·refine ⟨by simp,fun x hx=> ?_⟩
      rcases List.mem_cons.1 hx with rfl | hx
      ·dsimp only;omega
      ·rcases List.mem_cons.1 hx with rfl | hx
       ·omega
       ·exact hl' x hx
 obtain ⟨k1,k2⟩:=key cs h.2
 exact ⟨by have:=h.1;omega,k2⟩
theorem BdP.get {cs : List Cls} {m : Nat} (h : BdP cs m) (hm : m≤1000) : ∀ k,k < cs.length → -100000000000000000≤(cs.getD k clD).2∧(cs.getD k clD).2≤100000000000000000:=fun k hk=>by
 have hx : cs.getD k clD ∈ cs:=by rw [List.getD_eq_getElem?_getD,List.getElem?_eq_getElem hk];exact List.getElem_mem hk
 have:=h.2 _ hx
 have h1 : (m : Int) * wC≤1000 * wC:=Int.mul_le_mul_of_nonneg_right (by omega) (by decide)
 have h2 : 1000 * wC=3570467226624000:=by decide
 omega
theorem sumdL_asc (s : List Int) (c : Int) {cs : List Cls} (h : AscP cs) : AscP (sumdL s c cs):=by
 have key : ∀ cs : List Cls,AscP cs→AscP (sumdL s c cs) ∧ ∀ x ∈ sumdL s c cs,x.1=s ∨ ∃ y ∈ cs,x.1=y.1:=by
  intro cs
  induction cs with
  | nil=>intro _;exact ⟨List.pairwise_singleton _ _,fun x hx=>by unfold sumdL at hx;rw [List.mem_singleton] at hx;exact .inl (by rw [hx])⟩
  | cons y l ih =>
    intro h
    obtain ⟨h1,h2⟩:=List.pairwise_cons.1 h
    obtain ⟨i1,i2⟩:=ih h2
    unfold sumdL
    cases e : ltB y.1 s with
    | true =>
      rw [if_pos rfl]
      refine ⟨List.pairwise_cons.2 ⟨fun x hx=> ?_,i1⟩,fun x hx=> ?_⟩
      ·rcases i2 x hx with h | ⟨z,hz,h⟩
       ·rw [h];exact e
       ·rw [h];exact h1 z hz
      ·rcases List.mem_cons.1 hx with rfl | hx
       ·exact .inr ⟨x,List.mem_cons_self,rfl⟩
       ·exact (i2 x hx).imp id fun ⟨z,hz,h⟩=>⟨z,List.mem_cons_of_mem _ hz,h⟩
    | false =>
      simp only [Bool.false_eq_true,if_false]
      by_cases e2 : y.1=s
      ·rw [if_pos e2]
       refine ⟨List.pairwise_cons.2 ⟨fun x hx=>by rw [← e2];exact h1 x hx,h2⟩,fun x hx=> ?_⟩
       rcases List.mem_cons.1 hx with rfl | hx
       ·exact .inl rfl
       ·exact .inr ⟨x,List.mem_cons_of_mem _ hx,rfl⟩
      ·rw [if_neg e2]
       have e3:=lt_or y.1 s e e2
       refine ⟨List.pairwise_cons.2 ⟨fun x hx=> ?_,h⟩,fun x hx=> ?_⟩
       ·rcases List.mem_cons.1 hx with rfl | hx
        ·exact e3
        ·exact ltB_trans _ _ _ e3 (h1 x hx)
       ·rcases List.mem_cons.1 hx with rfl | hx
        ·exact .inl rfl
        ·exact .inr ⟨x,hx,rfl⟩
 exact (key cs h).1
end
section
open Go.RowKit Go.Lib
structure FrX (lo : Nat) (X : Nat→Prop) (w w' : World) : Prop where
 os : w'.os=w.os
 tape : w'.tape=w.tape
 output : w'.output=w.output
 size : w.heap.size≤w'.heap.size
 block : ∀ k,k < w.heap.size → ¬ X k→(k < lo ∨ ¬ IsPt w k)→w'.heap[k]?=w.heap[k]?
theorem FrX.refl (lo : Nat) (X : Nat→Prop) (w : World) : FrX lo X w w:=⟨rfl,rfl,rfl,Nat.le_refl _,fun _ _ _ _=>rfl⟩
theorem FrX.of_below {lo : Nat} {X : Nat→Prop} {w w' : World} (h : Below w.heap.size w w') : FrX lo X w w':=⟨h.os,h.tape,h.output,h.size,fun k hk _ _=>h.block k hk⟩
theorem FrX.of_p {lo : Nat} {X : Nat→Prop} {w w' : World} (h : FrP lo w w') : FrX lo X w w':=⟨h.os,h.tape,h.output,h.size,fun k hk _ ho=>h.block k hk ho⟩
theorem FrX.trans {lo : Nat} {X : Nat→Prop} {a b c : World} (h : FrX lo X a b) (k : FrX lo X b c) : FrX lo X a c :=
 ⟨k.os.trans h.os,k.tape.trans h.tape,k.output.trans h.output,Nat.le_trans h.size k.size,fun i hi hx ho=>by
   have e:=h.block i hi hx ho
   have ho' : i < lo ∨ ¬ IsPt b i:=ho.imp id fun hn hp=>hn (by unfold IsPt at hp ⊢;rw [e] at hp;exact hp)
   exact (k.block i (Nat.lt_of_lt_of_le hi h.size) hx ho').trans e⟩
theorem FrX.mono {lo : Nat} {X Y : Nat→Prop} {w w' : World} (h : FrX lo X w w') (hxy : ∀ k,X k→Y k) : FrX lo Y w w':=⟨h.os,h.tape,h.output,h.size,fun k hk hx ho=>h.block k hk (fun c=>hx (hxy k c)) ho⟩
theorem FrX.setCell {lo : Nat} {X : Nat→Prop} {w w' : World} (h : FrX lo X w w') {a : Addr} (ha : X a.block) (u : Value) : FrX lo X w (w'.setCell a u) :=
 ⟨h.os,h.tape,h.output,by rw [size_setCell];exact h.size,fun k hk hx ho=>(Below.heap_setCell w' a u k fun e=>hx (by rw [e];exact ha)).trans (h.block k hk hx ho)⟩
theorem FrX.below {lo B : Nat} {X : Nat→Prop} {w w' : World} (h : FrX lo X w w') (hB : B≤lo) (hs : B≤w.heap.size) (hx : ∀ k,k < B → ¬ X k) : Below B w w' :=
 ⟨h.os,h.tape,h.output,h.size,fun k hk=>h.block k (by omega) (hx k hk) (.inl (by omega))⟩
structure Env (wB : World) (lo lo2 bo : Nat) (cs : List Cls) (m : Nat) (w : World) : Prop where
 base : Below wB.heap.size wB w
 lo_le : lo≤w.heap.size
 lo2_le : lo2≤w.heap.size
 wb_lo : wB.heap.size≤lo
 wb_le : wB.heap.size≤bo
 out : ∃ u,w.heap[bo]?=some (.cells #[u] 44 (0,0))∧OwnP2 w lo lo2 w.heap.size u cs
 asc : AscP cs
 bd : BdP cs m
theorem not_pt {w : World} {k : Nat} {c : Array Value} {T : TypeId} {fz : Nat × Nat} (h : w.heap[k]?=some (.cells c T fz)) (hT : T ≠ 78) : ¬ IsPt w k:=fun ⟨c',fz',e⟩=>by
 rw [h] at e
 exact hT (by injection e with e;injection e)
theorem Env.below {wB w w' : World} {lo lo2 bo : Nat} {cs : List Cls} {m : Nat} (h : Env wB lo lo2 bo cs m w) (hb : Below w.heap.size w w') : Env wB lo lo2 bo cs m w':=by
 obtain ⟨u,h1,h2⟩:=h.out
 exact ⟨h.base.trans (hb.mono h.base.size),Nat.le_trans h.lo_le hb.size,Nat.le_trans h.lo2_le hb.size,h.wb_lo,h.wb_le,⟨u,blk_later h1 hb,(h2.below hb).mono (Nat.le_refl _) hb.size⟩,h.asc,h.bd⟩
theorem Env.add {wB w2 w3 w4 : World} {lo lo2 bo m : Nat} {cs : List Cls} {s : List Int} {c : Int} {u4 u : Value} (h : Env wB lo lo2 bo cs m w2) (hb3 : Below w2.heap.size w2 w3) (hf : FrP lo w3 w4) (hz : w4.heap[bo]?=some (.cells #[u] 44 (0,0)))
 (ho : OwnP2 w4 lo lo2 w4.heap.size u4 (sumdP s c cs)) (hc : -wC≤c∧c≤wC) : Env wB lo lo2 bo (sumdL s c cs) (m+1) (w4.setCell ⟨bo,0,none⟩ u4):=by
 have h3:=h.below hb3
 have hB4 : Below wB.heap.size w3 w4:=⟨hf.os,hf.tape,hf.output,hf.size,fun k hk=>hf.block k (Nat.lt_of_lt_of_le hk h3.base.size) (.inl (Nat.lt_of_lt_of_le hk h3.wb_lo))⟩
 have hb5 : Below wB.heap.size w4 (w4.setCell ⟨bo,0,none⟩ u4):=(Below.refl _ w4).setCell (p:=⟨bo,0,none⟩) h.wb_le u4
 rw [sumd_same] at ho
 refine ⟨(h3.base.trans hB4).trans hb5,by rw [size_setCell];exact Nat.le_trans h3.lo_le hf.size,by rw [size_setCell];exact Nat.le_trans h3.lo2_le hf.size,h.wb_lo,h.wb_le,⟨u4,?_,?_⟩,sumdL_asc _ _ h.asc,h.bd.step _ hc⟩
 ·rw [heap_setCell_at hz];rfl
 ·rw [size_setCell]
  exact ho.setCell (a:=⟨bo,0,none⟩) hz (by decide) (.inl (by decide)) _
def Arr (w : World) (g : Nat) (a : List Int) : Prop:=w.heap[g]?=some (.cells (ivs a).toArray 3 (0,0))
theorem Arr.cell {w : World} {g : Nat} {a : List Int} (h : Arr w g a) {j : Nat} (hj : j < a.length) : w.cell? ⟨g,j,none⟩=some (.int .i64 (a.getD j 0)) :=
 cell_of_blk h (by rw [List.getElem?_toArray,getElem?_ivs a j hj];rfl)
theorem Arr.free {w : World} {g : Nat} {a : List Int} (h : Arr w g a) (j : Nat) : w.frozen? ⟨g,j,none⟩=false:=free_of_blk h j
theorem Arr.set {w : World} {g : Nat} {a : List Int} (h : Arr w g a) (j : Nat) (x : Int) : Arr (w.setCell ⟨g,j,none⟩ (.int .i64 x)) g (a.set j x):=by
 unfold Arr
 rw [heap_setCell_at h]
 congr 2
 unfold ivs
 rw [List.map_set]
 simp
theorem Arr.below {w w' : World} {g : Nat} {a : List Int} (h : Arr w g a) (hb : Below w.heap.size w w') : Arr w' g a:=blk_later h hb
theorem Arr.ints {w : World} {g : Nat} {a : List Int} (h : Arr w g a) (hm : a.length≤maxLen) : Ints w (.slice (some ⟨g,0,none⟩) a.length a.length) a :=
 ⟨_,_,rfl,⟨Nat.le_refl _,hm⟩,fun _=>⟨g,0,rfl,fun j hj=>by
   rw [Nat.zero_add]
   exact h.cell hj⟩⟩
theorem FrX.keep {lo : Nat} {X : Nat→Prop} {w w' : World} (h : FrX lo X w w') {k : Nat} {c : Array Value} {T : TypeId} {fz : Nat × Nat} (hz : w.heap[k]?=some (.cells c T fz)) (hT : T ≠ 78) (hx : ¬ X k) : w'.heap[k]?=some (.cells c T fz) :=
 (h.block k (blk_lt hz) hx (.inr (not_pt hz hT))).trans hz
theorem FrX.setPt {lo lo2 hi g0 n cap j : Nat} {X : Nat→Prop} {w w' : World} {cs : List Cls} (hf : FrX lo X w w') (h : OwnP2 w' lo lo2 hi (.slice (some ⟨g0,0,none⟩) n cap) cs) (u : Value) : FrX lo X w (w'.setCell ⟨g0,j,none⟩ u):=by
 obtain ⟨g,h1,_⟩:=h
 refine ⟨hf.os,hf.tape,hf.output,by rw [size_setCell];exact hf.size,fun k hk hx ho=> ?_⟩
 have e:=hf.block k hk hx ho
 have hne : g0 ≠ k:=fun e2=>by
  rcases ho with ho | ho
  ·have:=(h1.blocks g0 rfl).1;omega
  ·have:=h1.kind g0 rfl
   rw [e2,e] at this
   exact ho this
 exact (Below.heap_setCell w' ⟨g0,j,none⟩ u k (fun e2=>hne e2.symm)).trans e
theorem Env.next {wB w w' : World} {lo lo2 bo m : Nat} {cs : List Cls} {s : List Int} {c : Int} {u : Value} (h : Env wB lo lo2 bo cs m w) (hf : FrX lo (fun k=>k=bo) w w') (hz : w'.heap[bo]?=some (.cells #[u] 44 (0,0)))
 (ho : OwnP2 w' lo lo2 w'.heap.size u (sumdP s c cs)) (hc : -wC≤c∧c≤wC) : Env wB lo lo2 bo (sumdL s c cs) (m+1) w':=by
 rw [sumd_same] at ho
 exact ⟨h.base.trans (hf.below h.wb_lo h.base.size fun k hk e=>by have:=h.wb_le;omega),Nat.le_trans h.lo_le hf.size,Nat.le_trans h.lo2_le hf.size,h.wb_lo,h.wb_le,⟨u,hz,ho⟩,sumdL_asc _ _ h.asc,h.bd.step _ hc⟩
theorem seeF_any (wB : World) (lo lo2 bo m : Nat) (v : Value) (xs : List Int) (cs : List Cls) (w : World) (hE : Env wB lo lo2 bo cs m w) (hv : Ints w v xs) (hx : xs.length≤1000) (hm : m < 1000) :
 Calls Tryz.prog 74 #[v,.pointer (some ⟨bo,0,none⟩)] w fun e w' =>
  e=.returned (.tuple #[])∧Env wB lo lo2 bo (sumdL (shL xs) 1 cs) (m+1) w'∧FrX lo (fun k=>k=bo) w w':=by
 obtain ⟨s,hs⟩ : ∃ s,s=shL xs:=⟨_,rfl⟩
 have hsl : s.length≤1000:=by
  rw [hs]
  unfold shL
  rw [List.length_take]
  omega
 obtain ⟨k,hk⟩ : ∃ k,k=posP s cs:=⟨_,rfl⟩
 have hkn : k≤cs.length:=by rw [hk];exact posP_le s cs
 have HR:=Lib.hid (shapeOfRows_any v xs w hv)
 rw [← hs] at HR ⊢
 have hbd:=hE.bd.get (by omega)
 have hcl : cs.length≤1000:=by have:=hE.bd.1;omega
 have HS:=Lib.hid (show ∀ w2 u pu n ku q,Below w.heap.size w w2→Ints w2 u s→OwnP2 w2 lo lo2 q (.slice pu n ku) cs→Calls Tryz.prog 76 #[.slice pu n ku,u,.func (.func 77) #[] #[]] w2 fun e w' =>
  e=.returned (.tuple #[.int .i64 (k : Int),.bool (decide (k < cs.length∧cmpB (cs.getD k clD).1 s=0))])∧Below w2.heap.size w2 w' from fun w2 u pu n ku q hb hu ho =>
  searchF_any _ u cs s k w2 ho.rd hu hcl hkn (by rw [hk];exact posP_at s cs hE.asc))
 have HE:=Lib.hid hE
 have Hsl:=Lib.hid hsl
 by_cases hf : k < cs.length∧(cs.getD k clD).1=s
 ·have hdec : decide (k < cs.length∧cmpB (cs.getD k clD).1 s=0)=true:=decide_eq_true ⟨hf.1,(cmpB_zero _ _).2 hf.2⟩
  rw [hdec] at HS
  have hres : sumdP s 1 cs=cs.set k ((cs.getD k clD).1,(cs.getD k clD).2+1):=by
   unfold sumdP
   rw [← hk,if_pos hf,hf.2]
  have Hres:=Lib.hid hres
  have hbk:=hbd k hf.1
  obtain ⟨c0,hc0⟩ : ∃ c0,c0=(cs.getD k clD).2:=⟨_,rfl⟩
  rw [← hc0] at hbk
  have Hc0:=Lib.hid hc0
  have hkn2:=hf.1
  obtain ⟨n,hn⟩ : ∃ n,n=cs.length:=⟨_,rfl⟩
  have hkn3 : (k : Int) < (n : Int):=by omega
  have Hkn:=Lib.hid hf.1
  have Hn:=Lib.hid hn
  obtain ⟨c1,hc1⟩ : ∃ c1,c1=c0+1:=⟨_,rfl⟩
  have Hc1:=Lib.hid hc1
  have hw1 : wrap64 (c0+1)=c1:=by rw [hc1];exact w64 (by omega) (by omega)
  have hw2 : IntKind.i64.wrap (c0+1)=c1:=by rw [hc1];exact k64 (by omega) (by omega)
  have hnm : n≤1000:=by omega
  clear hE hv hx hm hs hsl hk hkn hbd hcl hf hdec hres hbk hc0 hkn2 hn hc1
  go_enter Tryz.func74,Tryz.ntmps74
  go_wp2_with fail
  refine HR.out.mono ?_
  rintro e w1 ⟨u1,rfl,ho1,hq1⟩
  have Hb1:=Lib.hid (hq1.below w.heap.size)
  have Ho1:=Lib.hid ho1
  obtain ⟨p1,k1,rfl,_,_⟩:=ho1
  clear hq1 HR
  go_wp2_with fail
  refine (clone_any _ s _ Ho1.out (Nat.le_trans Hsl.out (by decide))).mono ?_
  rintro e w2 ⟨u2,rfl,ho2,hb2⟩
  have Hb2:=Lib.hid (Hb1.out.trans (hb2.mono Hb1.out.size))
  have Ho2:=Lib.hid ho2
  obtain ⟨p2,k2,rfl,_,_⟩:=ho2.ints
  clear ho2 hb2
  have HE2:=Lib.hid (HE.out.below Hb2.out)
  obtain ⟨u,hu1,hu2⟩:=HE2.out.out
  obtain ⟨pu,ku,rfl,hn1,hn2⟩:=hu2.shape
  rw [← Hn.out] at hu1 hu2 hn1
  have Hu1:=Lib.hid hu1
  have Hu2:=Lib.hid hu2
  have hbo:=cell_of_blk hu1 (j:=0) rfl
  have HS2:=Lib.hid (HS.out w2 _ pu n ku _ Hb2.out Ho2.out.ints hu2)
  clear hu1 HS
  obtain ⟨g,h1,h2⟩:=hu2
  obtain ⟨p,cap,e,_,_,hp⟩:=h1.shape
  injection e with e1 e2 e3
  subst e1 e3
  obtain ⟨g0,rfl,hg1,hg2,hg3⟩:=hp (by have:=Hkn.out;omega)
  have hcell : w2.cell? ⟨g0,k * 2+1,none⟩=some (.int .i64 (cs.getD k clD).2):=h1.cell Hkn.out (show 1 < 2 by omega)
  rw [← Hc0.out] at hcell
  have hfz:=h1.frozen (k * 2+1)
  clear h1 h2 hp hg1 hg2 hg3 e2
  unfold maxLen at hn2
  go_wp2_with fail
  refine HS2.out.mono ?_
  rintro e w3 ⟨rfl,hb3⟩
  have hbo3:=cell_below hb3 hbo
  have hcell3:=cell_below hb3 hcell
  have hh3:=Hu2.out.below hb3
  have hfz3 : w3.frozen? ⟨g0,k * 2+1,none⟩=false:=by
   obtain ⟨_,q1,_⟩:=hh3
   exact q1.frozen _
  clear hh3
  have Hb3:=Lib.hid hb3
  clear hb3 HS2 hbo hcell hfz
  go_wp2_with fail
  go_end0
  have hh3:=(Hu2.out.below Hb3.out).mono (Nat.le_refl _) Hb3.out.size
  have hF:=FrX.setPt (j:=k * 2+1) (FrX.of_below (lo:=lo) (X:=fun k=>k=bo) (Hb2.out.trans (Hb3.out.mono Hb2.out.size))) hh3 (.int .i64 c1)
  have hzb:=blk_later Hu1.out Hb3.out
  have hgne : bo ≠ g0:=fun e=>by
   obtain ⟨_,q1,_⟩:=hh3
   rw [e] at hzb
   exact ne_of_kinds (q1.kind g0 rfl) ⟨_,_,hzb⟩ (by decide)
  have q:=OwnP2.setN hh3 (k:=k) Hkn.out c1
  rw [Hc1.out,Hc0.out,← Hres.out,← Hc0.out,← Hc1.out] at q
  exact ⟨rfl,Env.next HE.out hF ((Below.heap_setCell w3 ⟨g0,k * 2+1,none⟩ _ bo hgne).trans hzb) (q.mono (Nat.le_refl _) (by rw [size_setCell];exact Nat.le_refl _)) (by unfold wC;omega),hF⟩
 ·have hdec : decide (k < cs.length∧cmpB (cs.getD k clD).1 s=0)=false:=decide_eq_false fun q=>hf ⟨q.1,(cmpB_zero _ _).1 q.2⟩
  rw [hdec] at HS
  have hlp : (insP k (s,0) cs).length=cs.length+1:=insP_len hkn
  have hkp : (insP k (s,0) cs).getD k clD=(s,0):=by rw [insP_getD hkn,if_neg (Nat.lt_irrefl k),if_pos rfl]
  have hres : sumdP s 1 cs=(insP k (s,0) cs).set k (((insP k (s,0) cs).getD k clD).1,1):=by
   unfold sumdP
   rw [← hk,if_neg hf,hkp]
   unfold insP
   have hl2 : (cs.take k).length=k:=by simp;omega
   simp only [List.append_assoc]
   rw [List.set_append_right _ _ (by omega),hl2,Nat.sub_self]
   rfl
  obtain ⟨L,hL⟩ : ∃ L,L=insP k (s,0) cs:=⟨_,rfl⟩
  rw [← hL] at hlp hkp hres
  have Hres:=Lib.hid hres
  have HL:=Lib.hid hL
  have HLk:=Lib.hid hkp
  have HLl:=Lib.hid hlp
  obtain ⟨n,hn⟩ : ∃ n,n=cs.length:=⟨_,rfl⟩
  rw [← hn] at hkn HLl hcl
  have Hn:=Lib.hid hn
  have Hkn:=Lib.hid hkn
  have Hcl:=Lib.hid hcl
  have hw1 : wrap64 (0+1)=1:=by exact w64 (by omega) (by omega)
  clear hE hv hx hm hs hsl hk hkn hbd hcl hf hdec hres hL hlp hkp hn
  go_enter Tryz.func74,Tryz.ntmps74
  go_wp2_with fail
  refine HR.out.mono ?_
  rintro e w1 ⟨u1,rfl,ho1,hq1⟩
  have Hb1:=Lib.hid (hq1.below w.heap.size)
  have Ho1:=Lib.hid ho1
  obtain ⟨p1,k1,rfl,_,_⟩:=ho1
  clear hq1 HR
  go_wp2_with fail
  refine (clone_any _ s _ Ho1.out (Nat.le_trans Hsl.out (by decide))).mono ?_
  rintro e w2 ⟨u2,rfl,ho2,hb2⟩
  have Hb2:=Lib.hid (Hb1.out.trans (hb2.mono Hb1.out.size))
  have Ho2:=Lib.hid ho2
  obtain ⟨p2,k2,rfl,_,_⟩:=ho2.ints
  obtain ⟨ns,hns⟩ : ∃ ns,ns=s.length:=⟨_,rfl⟩
  rw [← hns] at Ho2 ⊢
  have Hns:=Lib.hid hns
  clear ho2 hb2 hns
  have HE2:=Lib.hid (HE.out.below Hb2.out)
  obtain ⟨u,hu1,hu2⟩:=HE2.out.out
  obtain ⟨p,cap,rfl,hn1,hn2⟩:=hu2.shape
  rw [← Hn.out] at hu1 hu2 hn1
  have Hu1:=Lib.hid hu1
  have Hu2:=Lib.hid hu2
  have hbo:=cell_of_blk hu1 (j:=0) rfl
  have HS2:=Lib.hid (HS.out w2 _ p n cap _ Hb2.out (by have:=Ho2.out.ints;rw [Hns.out] at this;exact this) hu2)
  rw [← Hns.out] at HS2
  clear hu1 hu2 HS
  unfold maxLen at hn2
  go_wp2_with fail
  refine HS2.out.mono ?_
  rintro e w3 ⟨rfl,hb3⟩
  have hbo3:=cell_below hb3 hbo
  have Hb3:=Lib.hid hb3
  clear hb3 HS2 hbo
  have hbx:=(below_alloc w3 (.cells #[.slice p2 ns k2,.int .i64 0] 78))
  have hbo4:=cell_below hbx hbo3
  have Hbx:=Lib.hid hbx
  go_wp2_with fail
  have hb5:=Lib.hid (Hb2.out.trans ((Hb3.out.trans (Hbx.out.mono Hb3.out.size)).mono Hb2.out.size))
  have hvb : (w3.alloc (.cells #[.slice p2 ns k2,.int .i64 0] 78)).heap[w3.heap.size]?=some (.cells #[.slice p2 ns k2,.int .i64 0] 78 (0,0)):=heap_alloc_top _ _
  obtain ⟨g,xs',h1,h1f,h2⟩ : ∃ g xs',Own (w3.alloc (.cells #[.slice p2 ns k2,.int .i64 0] 78)) lo w2.heap.size 78 2 (.slice p n cap) n xs' ∧
   (∀ i,i < n → ∀ j,j < 2→xs'[i * 2+j]?=some (clF cs g i j)) ∧ ∀ i,i < n→OwnI 3 (w3.alloc (.cells #[.slice p2 ns k2,.int .i64 0] 78)) lo2 w2.heap.size (g i) (cs.getD i clD).1:=by
   obtain ⟨g,⟨xs',q1,q2⟩,q3⟩:=(Hu2.out.below Hb3.out).below Hbx.out
   rw [← Hn.out] at q1 q2 q3
   exact ⟨g,xs',q1,q2,q3⟩
  have hox : ∀ y ∈ xs',y.oneCell'=true:=fun y hy=>by
   obtain ⟨t,ht,e⟩:=List.mem_iff_getElem.1 hy
   have hxl:=h1.len
   have:=h1f (t / 2) (by omega) (t % 2) (by omega)
   rw [show t / 2 * 2+t % 2=t by omega,List.getElem?_eq_getElem ht,e] at this
   rw [Option.some.inj this]
   exact clF_one (lo:=lo2) (hi:=w2.heap.size) (w:=(w3.alloc (.cells #[.slice p2 ns k2,.int .i64 0] 78))) (fun i hi'=>h2 i (by rw [Hn.out];exact hi')) (by rw [← Hn.out];omega) (by omega)
  refine (insert_any _ n lo w2.heap.size k _ _ xs' _ _ _ h1 Hkn.out (by have:=Hcl.out;omega) (Nat.le_trans HE2.out.lo_le (Nat.le_trans Hb3.out.size Hbx.out.size)) hvb (fun e=> ?_) hox rfl rfl).mono ?_
  ·have:=(h1.block e).2.1
   have:=Hb3.out.size
   omega
  rintro e w4 ⟨u4,rfl,ho4,hg4,_⟩
  have q4 : OwnP2 w4 lo lo2 w4.heap.size u4 L:=by
   rw [HL.out]
   exact OwnP2.insert Hn.out Hkn.out h1 h1f h2 ((((Hns.out ▸ Ho2.out : OwnI 3 w2 w1.heap.size w2.heap.size (.slice p2 ns k2) s).below Hb3.out).below Hbx.out).mono (Nat.le_trans HE.out.lo2_le Hb1.out.size) (Nat.le_refl _)) ho4 hg4 (Nat.le_trans Hb3.out.size (Nat.le_trans Hbx.out.size hg4.size)) (Nat.le_trans Hb3.out.size (Nat.le_trans Hbx.out.size hg4.size))
  have HF4:=Lib.hid ((FrX.of_below (lo:=lo) (X:=fun k=>k=bo) hb5.out).trans (FrX.of_p (FrP.of_grown ((Hu2.out.below Hb3.out).below Hbx.out) hg4)))
  have hz4 : w4.heap[bo]?=some (.cells #[.slice p n cap] 44 (0,0)):=by
   refine (hg4.block bo (blk_lt (blk_later (blk_later Hu1.out Hb3.out) Hbx.out)) fun e=> ?_).trans (blk_later (blk_later Hu1.out Hb3.out) Hbx.out)
   exact ne_of_kinds (Lib.ownsRow_kind h1.1 bo e.symm) ⟨_,_,blk_later (blk_later Hu1.out Hb3.out) Hbx.out⟩ (by decide)
  have q5:=(q4.setCell (a:=⟨bo,0,none⟩) hz4 (by decide) (.inl (by decide)) u4)
  have hz5 : (w4.setCell ⟨bo,0,none⟩ u4).heap[bo]?=some (.cells #[u4] 44 (0,0)):=by rw [heap_setCell_at hz4];rfl
  have hsh : ∃ g0 cap,u4=.slice (some ⟨g0,0,none⟩) (n+1) cap∧(w4.setCell ⟨bo,0,none⟩ u4).cell? ⟨g0,k * 2+1,none⟩=some (.int .i64 0)∧(w4.setCell ⟨bo,0,none⟩ u4).frozen? ⟨g0,k * 2+1,none⟩=false:=by
   obtain ⟨g',q6,_⟩:=q5
   obtain ⟨p,cap,rfl,hn1,hn2,hp⟩:=q6.shape
   obtain ⟨g0,rfl,_⟩:=hp (by have:=HLl.out;omega)
   refine ⟨g0,cap,by rw [HLl.out],?_,q6.frozen _⟩
   have:=q6.cell (i:=k) (j:=1) (by have:=HLl.out;have:=Hkn.out;omega) (by omega)
   rw [this]
   show some (Value.int .i64 (L.getD k clD).2)=_
   rw [HLk.out]
  obtain ⟨g0,cap4,rfl,hcell,hfz⟩:=hsh
  have hbo5:=cell_of_blk hz5 (j:=0) rfl
  have hb04:=cell_of_blk hz4 (j:=0) rfl
  have hfb4:=free_of_blk hz4 0
  have HF5:=Lib.hid (HF4.out.setCell (a:=⟨bo,0,none⟩) rfl (.slice (some ⟨g0,0,none⟩) (n+1) cap4))
  have Hq5:=Lib.hid q5
  have Hz5:=Lib.hid hz5
  have hkn2 : (k : Int) < ((n+1 : Nat) : Int):=by have:=Hkn.out;omega
  clear hvb h1 h1f h2 hox ho4 hg4 q4 q5 hz4 hz5 hbo3 hbo4 hbx
  go_wp2_with fail
  go_end0
  have hF:=FrX.setPt (j:=k * 2+1) HF5.out (Hq5.out.mono (Nat.le_refl _) (show _≤(w4.setCell ⟨bo,0,none⟩ (.slice (some ⟨g0,0,none⟩) (n+1) cap4)).heap.size by rw [size_setCell];exact Nat.le_refl _)) (.int .i64 1)
  have hgne : bo ≠ g0:=fun e=>by
   subst e
   obtain ⟨_,q1,_⟩:=Hq5.out
   exact ne_of_kinds (q1.kind _ rfl) ⟨_,_,Hz5.out⟩ (by decide)
  have q:=OwnP2.setN Hq5.out (k:=k) (by rw [HLl.out];have:=Hkn.out;omega) 1
  rw [← Hres.out] at q
  exact ⟨rfl,Env.next HE.out hF ((Below.heap_setCell _ ⟨g0,k * 2+1,none⟩ _ bo hgne).trans Hz5.out) (q.mono (Nat.le_refl _) (by rw [size_setCell,size_setCell];exact Nat.le_refl _)) (by unfold wC;omega),hF⟩
theorem madeF_zeros (N : Nat) : madeCells #[Value.int .i64 0] N=(ivs (List.replicate N 0)).toArray:=by
 refine Array.ext (by simp [madeCells,ivs]) fun i h1 h2=> ?_
 simp [madeCells,ivs,Nat.mod_one]
def IntsK (B : Nat) (w : World) (v : Value) (xs : List Int) : Prop :=
 ∃ p cap,v=.slice p xs.length cap∧(xs.length≤cap∧cap≤maxLen)∧(0 < xs.length → ∃ b off,p=some ⟨b,off,none⟩∧(b < B ∨ ∃ c fz,w.heap[b]?=some (.cells c 3 fz)) ∧ ∀ j,j < xs.length→w.cell? ⟨b,off+j,none⟩=some (iv xs j))
namespace IntsK
variable {B : Nat} {w w' : World} {v : Value} {xs : List Int}
theorem ints (h : IntsK B w v xs) : Ints w v xs:=by
 obtain ⟨p,cap,e,hm,h⟩:=h
 refine ⟨p,cap,e,hm,fun h0=> ?_⟩
 obtain ⟨b,off,e1,_,e2⟩:=h h0
 exact ⟨b,off,e1,e2⟩
theorem below (h : IntsK B w v xs) (hb : Below w.heap.size w w') : IntsK B w' v xs:=by
 obtain ⟨p,cap,e,hm,h⟩:=h
 refine ⟨p,cap,e,hm,fun h0=> ?_⟩
 obtain ⟨b,off,e1,hk,e2⟩:=h h0
 exact ⟨b,off,e1,hk.imp id fun ⟨c,fz,hz⟩=>⟨c,fz,blk_later hz hb⟩,fun j hj=>cell_below hb (e2 j hj)⟩
theorem frx {lo bo : Nat} (h : IntsK B w v xs) (hf : FrX lo (fun k=>k=bo) w w') (hB : B≤lo) (hbo : B≤bo) (hz : ∃ c fz,w.heap[bo]?=some (.cells c 44 fz)) : IntsK B w' v xs:=by
 obtain ⟨p,cap,e,hm,h⟩:=h
 refine ⟨p,cap,e,hm,fun h0=> ?_⟩
 obtain ⟨b,off,e1,hk,e2⟩:=h h0
 have hlt:=World.block_lt_of_cell? w _ (e2 0 h0)
 have hbl : w'.heap[b]?=w.heap[b]?:=by
  refine hf.block b hlt (fun e=> ?_) ?_
  ·rcases hk with hk | hk
   ·omega
   ·subst e
    exact ne_of_kinds hk hz (by decide)
  ·rcases hk with hk | ⟨c,fz,hk⟩
   ·exact .inl (by omega)
   ·exact .inr (not_pt hk (by decide))
 refine ⟨b,off,e1,hk.imp id fun ⟨c,fz,hz⟩=>⟨c,fz,hbl.trans hz⟩,fun j hj=> ?_⟩
 rw [← e2 j hj]
 unfold World.cell?
 rw [hbl]
theorem of_own {lo hi : Nat} (h : OwnI 3 w lo hi v xs) : IntsK B w v xs:=by
 have hk:=OwnI.kind h
 obtain ⟨p,cap,e,hm,hc⟩:=h.ints
 refine ⟨p,cap,e,hm,fun h0=> ?_⟩
 obtain ⟨b,off,e1,e2⟩:=hc h0
 refine ⟨b,off,e1,.inr ?_,e2⟩
 obtain ⟨q,n,c,e3⟩ : ∃ q n c,v=.slice (some ⟨q,0,none⟩) n c:=by
  rcases h.1.2 with ⟨e4,_⟩ | ⟨g,c,_,e4,_⟩
  ·rw [e4] at e
   injection e with e5 e6
   omega
  ·exact ⟨_,_,_,e4⟩
 have hb : b=q:=by
  rw [e,e1] at e3
  injection e3 with e3
  injection e3 with e3
  injection e3
 exact hk b (by rw [e3,hb];rfl)
theorem of_ints {wB : World} (h : Ints wB v xs) (hb : Below wB.heap.size wB w) : IntsK wB.heap.size w v xs:=by
 obtain ⟨p,cap,e,hm,h⟩:=h
 refine ⟨p,cap,e,hm,fun h0=> ?_⟩
 obtain ⟨b,off,e1,e2⟩:=h h0
 exact ⟨b,off,e1,.inl (World.block_lt_of_cell? wB _ (e2 0 h0)),fun j hj=>cell_below hb (e2 j hj)⟩
theorem of_arr {g : Nat} (h : Arr w g xs) (hm : xs.length≤maxLen) : IntsK B w (.slice (some ⟨g,0,none⟩) xs.length xs.length) xs :=
 ⟨_,_,rfl,⟨Nat.le_refl _,hm⟩,fun _=>⟨g,0,rfl,.inr ⟨_,_,h⟩,fun j hj=>by rw [Nat.zero_add];exact h.cell hj⟩⟩
theorem shape (h : IntsK B w v xs) : ∃ p cap,v=.slice p xs.length cap∧xs.length≤cap∧cap≤maxLen:=by
 obtain ⟨p,cap,e,hm,_⟩:=h
 exact ⟨p,cap,e,hm⟩
theorem drop1 {x : Int} {b o cap : Nat} (h : IntsK B w (.slice (some ⟨b,o,none⟩) (xs.length+1) cap) (x :: xs)) : IntsK B w (.slice (some ⟨b,o+1,none⟩) xs.length (cap - 1)) xs:=by
 obtain ⟨p,cap',e,hm,h⟩:=h
 injection e with e1 e2 e3
 subst e3
 rw [List.length_cons] at hm
 refine ⟨_,_,rfl,⟨by omega,by omega⟩,fun h0=> ?_⟩
 obtain ⟨b',o',e4,hk,hc⟩:=h (by simp)
 rw [← e1] at e4
 injection e4 with e4
 injection e4 with e5 e6
 subst e5 e6
 refine ⟨b,o+1,rfl,hk,fun j hj=> ?_⟩
 have:=hc (j+1) (by simp;omega)
 rw [Nat.add_assoc,Nat.add_comm 1 j,this]
 simp [iv]
end IntsK
def UnR (B : Nat) (w : World) (v : Value) : Option (List Int)→Prop
 | none=>v=.slice none 0 0
 | some l=>IntsK B w v l ∧ ∃ p n k,v=.slice (some p) n k
theorem UnR.below {B : Nat} {w w' : World} {v : Value} {u : Option (List Int)} (h : UnR B w v u) (hb : Below w.heap.size w w') : UnR B w' v u:=by
 cases u with
 | none=>exact h
 | some l=>exact ⟨h.1.below hb,h.2⟩
theorem UnR.frx {B : Nat} {w w' : World} {v : Value} {u : Option (List Int)} {lo bo : Nat} (h : UnR B w v u) (hf : FrX lo (fun k=>k=bo) w w') (hB : B≤lo) (hbo : B≤bo) (hz : ∃ c fz,w.heap[bo]?=some (.cells c 44 fz)) : UnR B w' v u:=by
 cases u with
 | none=>exact h
 | some l=>exact ⟨h.1.frx hf hB hbo hz,h.2⟩
structure LayP (rows : Nat) (most : Int) (sh ct old : List Int) (r left : Nat) (u : Option (List Int)) (put : List Int) : Prop where
 r16 : rows≤16
 ls : sh.length=rows
 lo : old.length=rows
 lp : put.length=rows
 rr : r≤rows
 hs : ∀ i,r≤i→i < rows→sh.getD i 0=old.getD i 0
 bs : ∀ i,i < rows→0≤sh.getD i 0∧sh.getD i 0≤1000
 bo : ∀ i,i < rows→0≤old.getD i 0∧old.getD i 0≤1000
 bp : ∀ i,i < rows→0≤put.getD i 0∧put.getD i 0≤1000
 bu : ∀ l,u=some l→l.length=rows ∧ ∀ i,i < rows→0≤l.getD i 0∧l.getD i 0≤20000
 c1 : ct ≠ []
 c2 : ct.length≤16
 bc : ∀ i,i < ct.length→0≤ct.getD i 0∧ct.getD i 0≤1000
 bl : left≤1000
 bm : 0≤most∧most≤1000
theorem getD_set (xs : List Int) (i j : Nat) (x : Int) (hi : i < xs.length) : (xs.set i x).getD j 0=if j=i then x else xs.getD j 0:=by
 rw [List.getD_eq_getElem?_getD,List.getElem?_set]
 by_cases e : i=j
 ·subst e;simp [hi]
 ·rw [if_neg e,if_neg (fun c=>e c.symm),List.getD_eq_getElem?_getD]
theorem LayP.next {rows : Nat} {most : Int} {sh ct old : List Int} {r left : Nat} {u : Option (List Int)} {put : List Int} (h : LayP rows most sh ct old r left u put) (hr : r < rows) {m : Nat} (hm : m≤left) (hk : layOk old most u put r m=true) :
 LayP rows most (sh.set r (sh.getD r 0+(m : Int))) ct old (r+1) (left - m) u (put.set r (m : Int)):=by
 have h1 : old.getD r 0+(m : Int)≤most:=by
  unfold layOk at hk
  simp only [Bool.not_eq_true',Bool.or_eq_false_iff,decide_eq_false_iff_not] at hk
  have:=hk.1.2
  omega
 have h2:=h.bl
 have h3:=h.bm
 have h4:=h.hs r (Nat.le_refl _) hr
 have h5:=h.bo r hr
 refine ⟨h.r16,by rw [List.length_set];exact h.ls,h.lo,by rw [List.length_set];exact h.lp,hr,fun i hi hir=> ?_,fun i hi=> ?_,h.bo,fun i hi=> ?_,h.bu,h.c1,h.c2,h.bc,by omega,h.bm⟩
 ·rw [getD_set _ _ _ _ (by rw [h.ls];exact hr),if_neg (by omega)]
  exact h.hs i (by omega) hir
 ·rw [getD_set _ _ _ _ (by rw [h.ls];exact hr)]
  split
  ·omega
  ·exact h.bs i hi
 ·rw [getD_set _ _ _ _ (by rw [h.lp];exact hr)]
  split
  ·omega
  ·exact h.bp i hi
theorem sumTo2_take (xs : List Int) (k : Nat) : ∀ j,j≤k→k≤xs.length→sumTo2 (xs.take k) j=sumTo2 xs j
 | 0,_,_=>rfl
 | j+1,hj,hk=>by
   rw [sumTo2,sumTo2,sumTo2_take xs k j (by omega) hk]
   congr 1
   simp [List.getD_eq_getElem?_getD,List.getElem?_take,show j < k from hj]
theorem sumI_take {xs : List Int} {k : Nat} (hk : k≤xs.length) : sumI (xs.take k)=sumTo2 xs k:=by
 unfold sumI
 rw [show (xs.take k).length=k by simp;omega]
 exact sumTo2_take xs k k (Nat.le_refl _) hk
theorem LayP.putOk {rows : Nat} {most : Int} {sh ct old : List Int} {r left : Nat} {u : Option (List Int)} {put : List Int} (h : LayP rows most sh ct old r left u put) : sumOk put :=
 ⟨by have:=h.lp;have:=h.r16;omega,fun k hk=>by have:=h.bp k (by rw [← h.lp];exact hk);omega⟩
theorem sumTo2_bnd {xs : List Int} {n : Nat} (h : ∀ i,i < n→0≤xs.getD i 0∧xs.getD i 0≤1000) : ∀ k,k≤n→0≤sumTo2 xs k∧sumTo2 xs k≤k * 1000
 | 0,_=>by simp [sumTo2]
 | k+1,hk=>by
   have a:=sumTo2_bnd h k (by omega)
   have b:=h k (by omega)
   rw [sumTo2]
   push_cast
   omega
theorem prefL_len (put : List Int) : (prefL put).length=put.length:=by simp [prefL]
theorem prefL_getD {put : List Int} {k : Nat} (hk : k < put.length) : (prefL put).getD k 0=sumTo2 put k:=by
 unfold prefL
 rw [List.getD_eq_getElem?_getD,List.getElem?_map,List.getElem?_range hk]
 exact sumI_take (by omega)
theorem LayP.up {rows : Nat} {most : Int} {sh old : List Int} {c0 c1 : Int} {cs : List Int} {r left : Nat} {u : Option (List Int)} {put : List Int} (h : LayP rows most sh (c0 :: c1 :: cs) old r left u put) :
 LayP rows most sh (c1 :: cs) sh 0 c1.toNat (some (prefL put)) (List.replicate rows 0):=by
 have hc : ∀ i,i < (c1 :: cs).length→0≤(c1 :: cs).getD i 0∧(c1 :: cs).getD i 0≤1000:=fun i hi=>by
  have:=h.bc (i+1) (by simp at hi ⊢;omega)
  simpa using this
 refine ⟨h.r16,h.ls,h.ls,List.length_replicate,Nat.zero_le _,fun _ _ _=>rfl,h.bs,h.bs,fun i hi=> ?_,fun l hl=> ?_,by simp,by have:=h.c2;simp at this ⊢;omega,hc,?_,h.bm⟩
 ·simp [List.getD_eq_getElem?_getD,List.getElem?_replicate,hi]
 ·injection hl with hl
  subst hl
  refine ⟨by rw [prefL_len,h.lp],fun i hi=> ?_⟩
  rw [prefL_getD (by rw [h.lp];exact hi)]
  have:=sumTo2_bnd (fun i hi=>h.bp i hi) i (by omega)
  have:=h.r16
  omega
 ·have:=hc 0 (by simp)
  simp at this
  omega
theorem layL_left {most : Int} {f : Nat} {sh ct old : List Int} {left : Nat} {u : Option (List Int)} {put : List Int} (h : 0 < left) : layL most (f+1) sh ct old sh.length left u put=[]:=by
 unfold layL
 rw [if_pos rfl,if_pos h]
theorem layL_see {most : Int} {f : Nat} {sh old : List Int} {c0 : Int} {u : Option (List Int)} {put : List Int} : layL most (f+1) sh [c0] old sh.length 0 u put=[sh]:=by
 unfold layL
 rw [if_pos rfl,if_neg (Nat.lt_irrefl 0)]
theorem layL_up {most : Int} {f : Nat} {sh old : List Int} {c0 c1 : Int} {cs : List Int} {u : Option (List Int)} {put : List Int} : layL most (f+1) sh (c0 :: c1 :: cs) old sh.length 0 u put=layL most f sh (c1 :: cs) sh 0 c1.toNat (some (prefL put)) (List.replicate sh.length 0):=by
 conv=>lhs;unfold layL
 rw [if_pos rfl,if_neg (Nat.lt_irrefl 0)]
def rowL (most : Int) (f : Nat) (sh ct old : List Int) (r left : Nat) (u : Option (List Int)) (put : List Int) (m : Nat) : List (List Int):=layL most f (sh.set r (sh.getD r 0+(m : Int))) ct old (r+1) (left - m) u (put.set r (m : Int))
theorem layL_row {most : Int} {f : Nat} {sh ct old : List Int} {r left : Nat} {u : Option (List Int)} {put : List Int} (h : r ≠ sh.length) :
 layL most (f+1) sh ct old r left u put=((List.range (left+1)).takeWhile (layOk old most u put r)).flatMap (rowL most f sh ct old r left u put):=by
 conv=>lhs;unfold layL
 rw [if_neg h]
 rfl
theorem lay_most (p : Nat→Bool) : ∀ n,∃ m,m≤n∧(∀ j,j < m→p j=true)∧(m=n ∨ p m=false)∧(List.range n).takeWhile p=List.range m
 | 0=>⟨0,Nat.le_refl _,fun j hj=>absurd hj (Nat.not_lt_zero _),.inl rfl,rfl⟩
 | n+1=>by
   obtain ⟨m,h1,h2,h3,_⟩:=lay_most p n
   rcases h3 with rfl | h3
   ·by_cases e : p m=true
    ·exact ⟨m+1,Nat.le_refl _,fun j hj=>by rcases Nat.lt_succ_iff_lt_or_eq.1 hj with h | rfl;exact h2 j h;exact e,.inl rfl,takeWhile_range p _ _ (Nat.le_refl _) (fun j hj=>by rcases Nat.lt_succ_iff_lt_or_eq.1 hj with h | rfl;exact h2 j h;exact e) (.inl rfl)⟩
    ·have e' : p m=false:=by simpa using e
     exact ⟨m,Nat.le_succ _,h2,.inr e',takeWhile_range p _ _ (Nat.le_succ _) h2 (.inr e')⟩
   ·exact ⟨m,Nat.le_succ_of_le h1,h2,.inr h3,takeWhile_range p _ _ (Nat.le_succ_of_le h1) h2 (.inr h3)⟩
def upTo (F : Nat→List (List Int)) (k : Nat) : List (List Int):=(List.range k).flatMap F
theorem upTo_succ (F : Nat→List (List Int)) (k : Nat) : upTo F (k+1)=upTo F k ++ F k:=by
 unfold upTo
 rw [List.range_succ,List.flatMap_append,List.flatMap_singleton]
theorem upTo_le (F : Nat→List (List Int)) {k m : Nat} (h : k≤m) : (upTo F k).length≤(upTo F m).length:=by
 induction m with
 | zero=>obtain rfl : k=0:=by omega
         exact Nat.le_refl _
 | succ m ih =>
   by_cases e : k=m+1
   ·rw [e];exact Nat.le_refl _
   ·rw [upTo_succ,List.length_append]
    have:=ih (by omega)
    omega
end
end Go.Proofs.YtincaodpjdeoeaaGreatDoor
