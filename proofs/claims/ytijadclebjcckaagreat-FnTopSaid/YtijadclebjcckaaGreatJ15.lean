/-
  A part of the proof of FnTop (texts of one proof, joined).
-/
import Derived.Test.YtijadclebjcckaaGreatJ14
import Derived.Test.YtijadclebjcckaaGreatJ13
namespace Go.Proofs.YtijadclebjcckaaGreat
set_option linter.all false
set_option maxRecDepth 100000
set_option maxHeartbeats 16000000
section
open Go.RowKit
theorem fill11_any (z s : Value) (c : Int) (xs ys : List Int) (w : World) (hz : Ints w z xs) (hs : Ints w s ys) :
 Calls Tryz.prog 55 #[.agg #[z,.int .i64 c],s] w fun e w'=>e=.returned (.int .i64 (cmpB xs ys))∧Below w.heap.size w w':=by
 have Hz:=Lib.hid hz
 have Hs:=Lib.hid hs
 obtain ⟨p,cap,rfl,_,_⟩:=hz
 obtain ⟨q,cap2,rfl,_,_⟩:=hs
 have c0 : (w.alloc (.cells #[.slice p xs.length cap,.int .i64 c] 39)).cell? ⟨w.heap.size,0,none⟩=some (.slice p xs.length cap):=cell_of_blk (heap_alloc_top _ _) (j:=0) rfl
 obtain ⟨nx,hnx⟩ : ∃ n,n=xs.length:=⟨_,rfl⟩
 obtain ⟨ny,hny⟩ : ∃ n,n=ys.length:=⟨_,rfl⟩
 rw [← hnx] at c0 Hz ⊢
 rw [← hny] at Hs ⊢
 clear hnx hny
 go_enter Tryz.func55,Tryz.ntmps55
 go_wp2_with fail
 refine (compare_any _ _ xs ys _ (Hz.out.below (below_alloc w _)) (Hs.out.below (below_alloc w _))).mono ?_
 rintro e w' ⟨rfl,rfl⟩
 go_wp2_with fail
 go_ret
 exact ⟨rfl,below_alloc w _⟩
theorem searchF_any (v u : Value) (cs : List Cls) (t : List Int) (k : Nat) (w : World) (h : RdCl w v cs) (hu : Ints w u t) (hl : cs.length≤1000) (hk : k≤cs.length)
 (ho : ∀ a,a < cs.length→ltB (cs.getD a clD).1 t=decide (a < k)) :
 Calls Tryz.prog 54 #[v,u,.func (.func 55) #[] #[]] w fun e w' =>
  e=.returned (.tuple #[.int .i64 (k : Int),.bool (decide (k < cs.length∧cmpB (cs.getD k clD).1 t=0))])∧Below w.heap.size w w':=by
 obtain ⟨f,h1,hf⟩:=h
 obtain ⟨p,cap,rfl,⟨hx1,hx⟩,hxc⟩:=h1.two
 unfold maxLen at hx
 obtain ⟨n,hn⟩ : ∃ n,n=cs.length:=⟨_,rfl⟩
 rw [← hn] at hx1 hxc hf hk ho hl ⊢
 have Hc:=Lib.hid hxc
 have Hf:=Lib.hid hf
 have Ho:=Lib.hid ho
 have Hu:=Lib.hid hu
 obtain ⟨pu,ku,rfl,_,_⟩:=hu
 obtain ⟨nt,hnt⟩ : ∃ n,n=t.length:=⟨_,rfl⟩
 rw [← hnt] at Hu ⊢
 clear h1 hxc hf ho hn hnt
 go_enter Tryz.func54,Tryz.ntmps54
 go_wp2_with fail
 go_loopg [9,10,11] n (fun g s9 s10 s11 wr=> ∃ i j : Nat,i≤k∧k≤j∧j≤n∧g=j - i∧s9=.int .i64 (i : Int)∧s10=.int .i64 (j : Int)∧Hid (Below w.heap.size w wr))
 case atStart=>exact ⟨0,n,Nat.zero_le _,hk,Nat.le_refl _,rfl,rfl,rfl,Below.refl _ _⟩
 case round =>
  obtain ⟨i,j,hik,hkj,hjn,rfl,rfl,rfl,hb⟩:=hrel
  obtain ⟨wo,rfl⟩ : ∃ x : World,x=wr:=⟨_,rfl⟩
  by_cases hij : i < j
  ·have hiji : (i : Int) < (j : Int):=by omega
   obtain ⟨m,hm⟩ : ∃ m : Nat,m=(i+j) / 2:=⟨_,rfl⟩
   have hmn : m < n:=by omega
   have hmi : (m : Int) < (n : Int):=by omega
   obtain ⟨bx,rfl,hcc⟩:=Hc.out (by omega)
   obtain ⟨d1,d2⟩:=hcc m hmn
   have d1:=cell_below hb.out d1
   have d2:=cell_below hb.out d2
   have Hm:=Lib.hid hm
   have HS:=Lib.hid (fill11_any (f m) (.slice pu nt ku) (cs.getD m clD).2 (cs.getD m clD).1 t wo ((Hf.out m hmn).below hb.out) (Hu.out.below hb.out))
   have hsh:=(Hf.out m hmn)
   obtain ⟨pz,kz,ez,_,_⟩:=hsh
   obtain ⟨c0,hc0⟩ : ∃ c,c=(cs.getD m clD).2:=⟨_,rfl⟩
   obtain ⟨nz,hnz⟩ : ∃ c,c=(cs.getD m clD).1.length:=⟨_,rfl⟩
   obtain ⟨c,hcm⟩ : ∃ c,c=cmpB (cs.getD m clD).1 t:=⟨_,rfl⟩
   have hcl : c < 0 ↔ m < k:=by
    have h1:=cmpB_lt (cs.getD m clD).1 t
    rw [← hcm,Ho.out m hmn] at h1
    by_cases h2 : m < k
    ·simp [h2] at h1
     exact ⟨fun _=>h2,fun _=>h1⟩
    ·simp [h2] at h1
     exact ⟨fun h=>absurd h (by omega),fun h=>absurd h h2⟩
   rw [← hnz] at ez
   rw [ez,← hc0,← hcm] at HS
   rw [ez] at d1
   rw [← hc0] at d2
   rw [hm] at d1 d2
   have hmi2 : ((i : Int)+(j : Int)) / 2 < (n : Int):=by omega
   clear hm hcc hc0 hnz hcm ez
   go_wp2_with fail
   refine HS.out.mono ?_
   rintro e w' ⟨rfl,hb'⟩
   have Hb':=Lib.hid (hb.out.trans (hb'.mono hb.out.size))
   clear hb' HS
   by_cases h2 : m < k
   ·have h3 : c < 0:=hcl.2 h2
    go_wp2_with fail
    go_roundg (j - (m+1))
    case measure=>have:=Hm.out;omega
    case rel=>exact ⟨m+1,j,by have:=Hm.out;omega,hkj,hjn,rfl,by have:=Hm.out;go_num,rfl,Hb'.out⟩
   ·have h3 : ¬ c < 0:=fun h=>h2 (hcl.1 h)
    go_wp2_with fail
    go_roundg (m - i)
    case measure=>have:=Hm.out;omega
    case rel=>exact ⟨i,m,hik,by omega,by have:=Hm.out;omega,rfl,rfl,by have:=Hm.out;congr 1;omega,Hb'.out⟩
  ·have hiji : ¬ (i : Int) < (j : Int):=by omega
   obtain rfl : i=k:=by omega
   by_cases hin : i < n
   ·have hini : (i : Int) < (n : Int):=by omega
    obtain ⟨bx,rfl,hcc⟩:=Hc.out (by omega)
    obtain ⟨d1,d2⟩:=hcc i hin
    have d1:=cell_below hb.out d1
    have d2:=cell_below hb.out d2
    have HS:=Lib.hid (fill11_any (f i) (.slice pu nt ku) (cs.getD i clD).2 (cs.getD i clD).1 t wo ((Hf.out i hin).below hb.out) (Hu.out.below hb.out))
    obtain ⟨pz,kz,ez,_,_⟩:=(Hf.out i hin)
    obtain ⟨c0,hc0⟩ : ∃ c,c=(cs.getD i clD).2:=⟨_,rfl⟩
    obtain ⟨nz,hnz⟩ : ∃ c,c=(cs.getD i clD).1.length:=⟨_,rfl⟩
    obtain ⟨c,hcm⟩ : ∃ c,c=cmpB (cs.getD i clD).1 t:=⟨_,rfl⟩
    rw [← hnz] at ez
    rw [ez,← hc0,← hcm] at HS
    rw [ez] at d1
    rw [← hc0] at d2
    have Hcm:=Lib.hid hcm
    clear hcc hc0 hnz hcm ez
    by_cases hc00 : c=0
    ·subst hc00
     go_wp2_with fail
     refine HS.out.mono ?_
     rintro e w' ⟨rfl,hb'⟩
     have Hb':=Lib.hid (hb.out.trans (hb'.mono hb.out.size))
     clear hb' HS
     go_wp2_with fail
     go_ret2
     exact ⟨by rw [decide_eq_true ⟨hin,Hcm.out.symm⟩];rfl,Hb'.out⟩
    ·have hcb : (c == 0)=false:=by simp [hc00]
     go_wp2_with fail
     refine HS.out.mono ?_
     rintro e w' ⟨rfl,hb'⟩
     have Hb':=Lib.hid (hb.out.trans (hb'.mono hb.out.size))
     clear hb' HS
     go_wp2_with fail
     go_ret2
     exact ⟨by rw [decide_eq_false (fun h=>hc00 (Hcm.out.trans h.2))];rfl,Hb'.out⟩
   ·have hini : ¬ ((i : Int) < (n : Int)):=by omega
    go_wp2_with fail
    go_ret2
    exact ⟨by first | rfl | (rw [decide_eq_false (fun h=>hin h.1)];rfl) | simp,hb.out⟩
end
section
open Go.RowKit Go.Lib
structure FrX (lo : Nat) (X : Nat→Prop) (w w' : World) : Prop where
 os : w'.os=w.os
 tape : w'.tape=w.tape
 output : w'.output=w.output
 size : w.heap.size≤w'.heap.size
 block : ∀ k,k < w.heap.size → ¬ X k→(k < lo ∨ ¬ IsPt w k)→w'.heap[k]?=w.heap[k]?
theorem FrX.refl (lo : Nat) (X : Nat→Prop) (w : World) : FrX lo X w w:=⟨rfl,rfl,rfl,Nat.le_refl _,fun _ _ _ _=>rfl⟩
theorem FrX.of_below {lo : Nat} {X : Nat→Prop} {w w' : World} (h : Below w.heap.size w w') : FrX lo X w w':=⟨h.os,h.tape,h.output,h.size,fun k hk _ _=>h.block k hk⟩
theorem FrX.of_p {lo : Nat} {X : Nat→Prop} {w w' : World} (h : FrP lo w w') : FrX lo X w w':=⟨h.os,h.tape,h.output,h.size,fun k hk _ ho=>h.block k hk ho⟩
theorem FrX.trans {lo : Nat} {X : Nat→Prop} {a b c : World} (h : FrX lo X a b) (k : FrX lo X b c) : FrX lo X a c :=
 ⟨k.os.trans h.os,k.tape.trans h.tape,k.output.trans h.output,Nat.le_trans h.size k.size,fun i hi hx ho=>by
   have e:=h.block i hi hx ho
   have ho' : i < lo ∨ ¬ IsPt b i:=ho.imp id fun hn hp=>hn (by unfold IsPt at hp ⊢;rw [e] at hp;exact hp)
   exact (k.block i (Nat.lt_of_lt_of_le hi h.size) hx ho').trans e⟩
theorem FrX.mono {lo : Nat} {X Y : Nat→Prop} {w w' : World} (h : FrX lo X w w') (hxy : ∀ k,X k→Y k) : FrX lo Y w w':=⟨h.os,h.tape,h.output,h.size,fun k hk hx ho=>h.block k hk (fun c=>hx (hxy k c)) ho⟩
theorem FrX.setCell {lo : Nat} {X : Nat→Prop} {w w' : World} (h : FrX lo X w w') {a : Addr} (ha : X a.block) (u : Value) : FrX lo X w (w'.setCell a u) :=
 ⟨h.os,h.tape,h.output,by rw [size_setCell];exact h.size,fun k hk hx ho=>(Below.heap_setCell w' a u k fun e=>hx (by rw [e];exact ha)).trans (h.block k hk hx ho)⟩
theorem FrX.below {lo B : Nat} {X : Nat→Prop} {w w' : World} (h : FrX lo X w w') (hB : B≤lo) (hs : B≤w.heap.size) (hx : ∀ k,k < B → ¬ X k) : Below B w w' :=
 ⟨h.os,h.tape,h.output,h.size,fun k hk=>h.block k (by omega) (hx k hk) (.inl (by omega))⟩
structure Env (wB : World) (lo lo2 bo : Nat) (cs : List Cls) (m : Nat) (w : World) : Prop where
 base : Below wB.heap.size wB w
 lo_le : lo≤w.heap.size
 lo2_le : lo2≤w.heap.size
 wb_lo : wB.heap.size≤lo
 wb_le : wB.heap.size≤bo
 out : ∃ u,w.heap[bo]?=some (.cells #[u] 27 (0,0))∧OwnP2 w lo lo2 w.heap.size u cs
 asc : AscP cs
 bd : BdP cs m
theorem not_pt {w : World} {k : Nat} {c : Array Value} {T : TypeId} {fz : Nat × Nat} (h : w.heap[k]?=some (.cells c T fz)) (hT : T ≠ 39) : ¬ IsPt w k:=fun ⟨c',fz',e⟩=>by
 rw [h] at e
 exact hT (by injection e with e;injection e)
theorem Env.below {wB w w' : World} {lo lo2 bo : Nat} {cs : List Cls} {m : Nat} (h : Env wB lo lo2 bo cs m w) (hb : Below w.heap.size w w') : Env wB lo lo2 bo cs m w':=by
 obtain ⟨u,h1,h2⟩:=h.out
 exact ⟨h.base.trans (hb.mono h.base.size),Nat.le_trans h.lo_le hb.size,Nat.le_trans h.lo2_le hb.size,h.wb_lo,h.wb_le,⟨u,blk_later h1 hb,(h2.below hb).mono (Nat.le_refl _) hb.size⟩,h.asc,h.bd⟩
theorem Env.setInt {wB w : World} {lo lo2 bo : Nat} {cs : List Cls} {m : Nat} (h : Env wB lo lo2 bo cs m w) {a : Addr} {c : Array Value} (hz : w.heap[a.block]?=some (.cells c 3 (0,0))) (h1 : wB.heap.size≤a.block) (h2 : a.block < lo2) (u : Value) : Env wB lo lo2 bo cs m (w.setCell a u):=by
 obtain ⟨v,k1,k2⟩:=h.out
 have hne : bo ≠ a.block:=fun e=>by
  rw [e,hz] at k1
  injection k1 with e1
  injection e1 with _ e2
  exact absurd e2 (by decide)
 exact ⟨h.base.setCell h1 u,by rw [size_setCell];exact h.lo_le,by rw [size_setCell];exact h.lo2_le,h.wb_lo,h.wb_le,⟨v,(Below.heap_setCell w a u bo hne).trans k1,by rw [size_setCell];exact k2.setCell hz (by decide) (.inr h2) u⟩,h.asc,h.bd⟩
theorem Env.add {wB w2 w3 w4 : World} {lo lo2 bo m : Nat} {cs : List Cls} {s : List Int} {c : Int} {u4 u : Value} (h : Env wB lo lo2 bo cs m w2) (hb3 : Below w2.heap.size w2 w3) (hf : FrP lo w3 w4) (hz : w4.heap[bo]?=some (.cells #[u] 27 (0,0)))
 (ho : OwnP2 w4 lo lo2 w4.heap.size u4 (sumdP s c cs)) (hc : -wC≤c∧c≤wC) : Env wB lo lo2 bo (sumdL s c cs) (m+1) (w4.setCell ⟨bo,0,none⟩ u4):=by
 have h3:=h.below hb3
 have hB4 : Below wB.heap.size w3 w4:=⟨hf.os,hf.tape,hf.output,hf.size,fun k hk=>hf.block k (Nat.lt_of_lt_of_le hk h3.base.size) (.inl (Nat.lt_of_lt_of_le hk h3.wb_lo))⟩
 have hb5 : Below wB.heap.size w4 (w4.setCell ⟨bo,0,none⟩ u4):=(Below.refl _ w4).setCell (p:=⟨bo,0,none⟩) h.wb_le u4
 rw [sumd_same] at ho
 refine ⟨(h3.base.trans hB4).trans hb5,by rw [size_setCell];exact Nat.le_trans h3.lo_le hf.size,by rw [size_setCell];exact Nat.le_trans h3.lo2_le hf.size,h.wb_lo,h.wb_le,⟨u4,?_,?_⟩,sumdL_asc _ _ h.asc,h.bd.step _ hc⟩
 ·rw [heap_setCell_at hz];rfl
 ·rw [size_setCell]
  exact ho.setCell (a:=⟨bo,0,none⟩) hz (by decide) (.inl (by decide)) _
def Arr (w : World) (g : Nat) (a : List Int) : Prop:=w.heap[g]?=some (.cells (ivs a).toArray 3 (0,0))
theorem Arr.cell {w : World} {g : Nat} {a : List Int} (h : Arr w g a) {j : Nat} (hj : j < a.length) : w.cell? ⟨g,j,none⟩=some (.int .i64 (a.getD j 0)) :=
 cell_of_blk h (by rw [List.getElem?_toArray,getElem?_ivs a j hj];rfl)
theorem Arr.free {w : World} {g : Nat} {a : List Int} (h : Arr w g a) (j : Nat) : w.frozen? ⟨g,j,none⟩=false:=free_of_blk h j
theorem Arr.set {w : World} {g : Nat} {a : List Int} (h : Arr w g a) (j : Nat) (x : Int) : Arr (w.setCell ⟨g,j,none⟩ (.int .i64 x)) g (a.set j x):=by
 unfold Arr
 rw [heap_setCell_at h]
 congr 2
 unfold ivs
 rw [List.map_set]
 simp
theorem Arr.other {w : World} {g : Nat} {a : List Int} (h : Arr w g a) {p : Addr} (hne : g ≠ p.block) (u : Value) : Arr (w.setCell p u) g a:=(Below.heap_setCell w p u g hne).trans h
theorem Arr.below {w w' : World} {g : Nat} {a : List Int} (h : Arr w g a) (hb : Below w.heap.size w w') : Arr w' g a:=blk_later h hb
theorem Arr.ints {w : World} {g : Nat} {a : List Int} (h : Arr w g a) (hm : a.length≤maxLen) : Ints w (.slice (some ⟨g,0,none⟩) a.length a.length) a :=
 ⟨_,_,rfl,⟨Nat.le_refl _,hm⟩,fun _=>⟨g,0,rfl,fun j hj=>by
   rw [Nat.zero_add]
   exact h.cell hj⟩⟩
theorem FrX.keep {lo : Nat} {X : Nat→Prop} {w w' : World} (h : FrX lo X w w') {k : Nat} {c : Array Value} {T : TypeId} {fz : Nat × Nat} (hz : w.heap[k]?=some (.cells c T fz)) (hT : T ≠ 39) (hx : ¬ X k) : w'.heap[k]?=some (.cells c T fz) :=
 (h.block k (blk_lt hz) hx (.inr (not_pt hz hT))).trans hz
theorem FrX.setPt {lo lo2 hi g0 n cap j : Nat} {X : Nat→Prop} {w w' : World} {cs : List Cls} (hf : FrX lo X w w') (h : OwnP2 w' lo lo2 hi (.slice (some ⟨g0,0,none⟩) n cap) cs) (u : Value) : FrX lo X w (w'.setCell ⟨g0,j,none⟩ u):=by
 obtain ⟨g,h1,_⟩:=h
 refine ⟨hf.os,hf.tape,hf.output,by rw [size_setCell];exact hf.size,fun k hk hx ho=> ?_⟩
 have e:=hf.block k hk hx ho
 have hne : g0 ≠ k:=fun e2=>by
  rcases ho with ho | ho
  ·have:=(h1.blocks g0 rfl).1;omega
  ·have:=h1.kind g0 rfl
   rw [e2,e] at this
   exact ho this
 exact (Below.heap_setCell w' ⟨g0,j,none⟩ u k (fun e2=>hne e2.symm)).trans e
theorem Env.next {wB w w' : World} {lo lo2 bo m : Nat} {cs : List Cls} {s : List Int} {c : Int} {u : Value} (h : Env wB lo lo2 bo cs m w) (hf : FrX lo (fun k=>k=bo) w w') (hz : w'.heap[bo]?=some (.cells #[u] 27 (0,0)))
 (ho : OwnP2 w' lo lo2 w'.heap.size u (sumdP s c cs)) (hc : -wC≤c∧c≤wC) : Env wB lo lo2 bo (sumdL s c cs) (m+1) w':=by
 rw [sumd_same] at ho
 exact ⟨h.base.trans (hf.below h.wb_lo h.base.size fun k hk e=>by have:=h.wb_le;omega),Nat.le_trans h.lo_le hf.size,Nat.le_trans h.lo2_le hf.size,h.wb_lo,h.wb_le,⟨u,hz,ho⟩,sumdL_asc _ _ h.asc,h.bd.step _ hc⟩
theorem seeF_any (wB : World) (lo lo2 bo m : Nat) (v : Value) (xs : List Int) (cs : List Cls) (w : World) (hE : Env wB lo lo2 bo cs m w) (hv : Ints w v xs) (hx : xs.length≤1000) (hm : m < 1000) :
 Calls Tryz.prog 53 #[v,.pointer (some ⟨bo,0,none⟩)] w fun e w' =>
  e=.returned (.tuple #[])∧Env wB lo lo2 bo (sumdL (shL xs) 1 cs) (m+1) w'∧FrX lo (fun k=>k=bo) w w':=by
 obtain ⟨s,hs⟩ : ∃ s,s=shL xs:=⟨_,rfl⟩
 have hsl : s.length≤1000:=by
  rw [hs]
  unfold shL
  rw [List.length_take]
  omega
 obtain ⟨k,hk⟩ : ∃ k,k=posP s cs:=⟨_,rfl⟩
 have hkn : k≤cs.length:=by rw [hk];exact posP_le s cs
 have HR:=Lib.hid (shapeOfRows_any v xs w hv)
 rw [← hs] at HR ⊢
 have hbd:=hE.bd.get (by omega)
 have hcl : cs.length≤1000:=by have:=hE.bd.1;omega
 have HS:=Lib.hid (show ∀ w2 u pu n ku q,Below w.heap.size w w2→Ints w2 u s→OwnP2 w2 lo lo2 q (.slice pu n ku) cs→Calls Tryz.prog 54 #[.slice pu n ku,u,.func (.func 55) #[] #[]] w2 fun e w' =>
  e=.returned (.tuple #[.int .i64 (k : Int),.bool (decide (k < cs.length∧cmpB (cs.getD k clD).1 s=0))])∧Below w2.heap.size w2 w' from fun w2 u pu n ku q hb hu ho =>
  searchF_any _ u cs s k w2 ho.rd hu hcl hkn (by rw [hk];exact posP_at s cs hE.asc))
 have HE:=Lib.hid hE
 have Hsl:=Lib.hid hsl
 by_cases hf : k < cs.length∧(cs.getD k clD).1=s
 ·have hdec : decide (k < cs.length∧cmpB (cs.getD k clD).1 s=0)=true:=decide_eq_true ⟨hf.1,(cmpB_zero _ _).2 hf.2⟩
  rw [hdec] at HS
  have hres : sumdP s 1 cs=cs.set k ((cs.getD k clD).1,(cs.getD k clD).2+1):=by
   unfold sumdP
   rw [← hk,if_pos hf,hf.2]
  have Hres:=Lib.hid hres
  have hbk:=hbd k hf.1
  obtain ⟨c0,hc0⟩ : ∃ c0,c0=(cs.getD k clD).2:=⟨_,rfl⟩
  rw [← hc0] at hbk
  have Hc0:=Lib.hid hc0
  have hkn2:=hf.1
  obtain ⟨n,hn⟩ : ∃ n,n=cs.length:=⟨_,rfl⟩
  have hkn3 : (k : Int) < (n : Int):=by omega
  have Hkn:=Lib.hid hf.1
  have Hn:=Lib.hid hn
  obtain ⟨c1,hc1⟩ : ∃ c1,c1=c0+1:=⟨_,rfl⟩
  have Hc1:=Lib.hid hc1
  have hw1 : wrap64 (c0+1)=c1:=by rw [hc1];exact w64 (by omega) (by omega)
  have hw2 : IntKind.i64.wrap (c0+1)=c1:=by rw [hc1];exact k64 (by omega) (by omega)
  have hnm : n≤1000:=by omega
  clear hE hv hx hm hs hsl hk hkn hbd hcl hf hdec hres hbk hc0 hkn2 hn hc1
  go_enter Tryz.func53,Tryz.ntmps53
  go_wp2_with fail
  refine HR.out.mono ?_
  rintro e w1 ⟨u1,rfl,ho1,hq1⟩
  have Hb1:=Lib.hid (hq1.below w.heap.size)
  have Ho1:=Lib.hid ho1
  obtain ⟨p1,k1,rfl,_,_⟩:=ho1
  clear hq1 HR
  go_wp2_with fail
  refine (clone_any _ s _ Ho1.out (Nat.le_trans Hsl.out (by decide))).mono ?_
  rintro e w2 ⟨u2,rfl,ho2,hb2⟩
  have Hb2:=Lib.hid (Hb1.out.trans (hb2.mono Hb1.out.size))
  have Ho2:=Lib.hid ho2
  obtain ⟨p2,k2,rfl,_,_⟩:=ho2.ints
  clear ho2 hb2
  have HE2:=Lib.hid (HE.out.below Hb2.out)
  obtain ⟨u,hu1,hu2⟩:=HE2.out.out
  obtain ⟨pu,ku,rfl,hn1,hn2⟩:=hu2.shape
  rw [← Hn.out] at hu1 hu2 hn1
  have Hu1:=Lib.hid hu1
  have Hu2:=Lib.hid hu2
  have hbo:=cell_of_blk hu1 (j:=0) rfl
  have HS2:=Lib.hid (HS.out w2 _ pu n ku _ Hb2.out Ho2.out.ints hu2)
  clear hu1 HS
  obtain ⟨g,h1,h2⟩:=hu2
  obtain ⟨p,cap,e,_,_,hp⟩:=h1.shape
  injection e with e1 e2 e3
  subst e1 e3
  obtain ⟨g0,rfl,hg1,hg2,hg3⟩:=hp (by have:=Hkn.out;omega)
  have hcell : w2.cell? ⟨g0,k * 2+1,none⟩=some (.int .i64 (cs.getD k clD).2):=h1.cell Hkn.out (show 1 < 2 by omega)
  rw [← Hc0.out] at hcell
  have hfz:=h1.frozen (k * 2+1)
  clear h1 h2 hp hg1 hg2 hg3 e2
  unfold maxLen at hn2
  go_wp2_with fail
  refine HS2.out.mono ?_
  rintro e w3 ⟨rfl,hb3⟩
  have hbo3:=cell_below hb3 hbo
  have hcell3:=cell_below hb3 hcell
  have hh3:=Hu2.out.below hb3
  have hfz3 : w3.frozen? ⟨g0,k * 2+1,none⟩=false:=by
   obtain ⟨_,q1,_⟩:=hh3
   exact q1.frozen _
  clear hh3
  have Hb3:=Lib.hid hb3
  clear hb3 HS2 hbo hcell hfz
  go_wp2_with fail
  go_end0
  have hh3:=(Hu2.out.below Hb3.out).mono (Nat.le_refl _) Hb3.out.size
  have hF:=FrX.setPt (j:=k * 2+1) (FrX.of_below (lo:=lo) (X:=fun k=>k=bo) (Hb2.out.trans (Hb3.out.mono Hb2.out.size))) hh3 (.int .i64 c1)
  have hzb:=blk_later Hu1.out Hb3.out
  have hgne : bo ≠ g0:=fun e=>by
   obtain ⟨_,q1,_⟩:=hh3
   rw [e] at hzb
   exact ne_of_kinds (q1.kind g0 rfl) ⟨_,_,hzb⟩ (by decide)
  have q:=OwnP2.setN hh3 (k:=k) Hkn.out c1
  rw [Hc1.out,Hc0.out,← Hres.out,← Hc0.out,← Hc1.out] at q
  exact ⟨rfl,Env.next HE.out hF ((Below.heap_setCell w3 ⟨g0,k * 2+1,none⟩ _ bo hgne).trans hzb) (q.mono (Nat.le_refl _) (by rw [size_setCell];exact Nat.le_refl _)) (by unfold wC;omega),hF⟩
 ·have hdec : decide (k < cs.length∧cmpB (cs.getD k clD).1 s=0)=false:=decide_eq_false fun q=>hf ⟨q.1,(cmpB_zero _ _).1 q.2⟩
  rw [hdec] at HS
  have hlp : (insP k (s,0) cs).length=cs.length+1:=insP_len hkn
  have hkp : (insP k (s,0) cs).getD k clD=(s,0):=by rw [insP_getD hkn,if_neg (Nat.lt_irrefl k),if_pos rfl]
  have hres : sumdP s 1 cs=(insP k (s,0) cs).set k (((insP k (s,0) cs).getD k clD).1,1):=by
   unfold sumdP
   rw [← hk,if_neg hf,hkp]
   unfold insP
   have hl2 : (cs.take k).length=k:=by simp;omega
   simp only [List.append_assoc]
   rw [List.set_append_right _ _ (by omega),hl2,Nat.sub_self]
   rfl
  obtain ⟨L,hL⟩ : ∃ L,L=insP k (s,0) cs:=⟨_,rfl⟩
  rw [← hL] at hlp hkp hres
  have Hres:=Lib.hid hres
  have HL:=Lib.hid hL
  have HLk:=Lib.hid hkp
  have HLl:=Lib.hid hlp
  obtain ⟨n,hn⟩ : ∃ n,n=cs.length:=⟨_,rfl⟩
  rw [← hn] at hkn HLl hcl
  have Hn:=Lib.hid hn
  have Hkn:=Lib.hid hkn
  have Hcl:=Lib.hid hcl
  have hw1 : wrap64 (0+1)=1:=by exact w64 (by omega) (by omega)
  clear hE hv hx hm hs hsl hk hkn hbd hcl hf hdec hres hL hlp hkp hn
  go_enter Tryz.func53,Tryz.ntmps53
  go_wp2_with fail
  refine HR.out.mono ?_
  rintro e w1 ⟨u1,rfl,ho1,hq1⟩
  have Hb1:=Lib.hid (hq1.below w.heap.size)
  have Ho1:=Lib.hid ho1
  obtain ⟨p1,k1,rfl,_,_⟩:=ho1
  clear hq1 HR
  go_wp2_with fail
  refine (clone_any _ s _ Ho1.out (Nat.le_trans Hsl.out (by decide))).mono ?_
  rintro e w2 ⟨u2,rfl,ho2,hb2⟩
  have Hb2:=Lib.hid (Hb1.out.trans (hb2.mono Hb1.out.size))
  have Ho2:=Lib.hid ho2
  obtain ⟨p2,k2,rfl,_,_⟩:=ho2.ints
  obtain ⟨ns,hns⟩ : ∃ ns,ns=s.length:=⟨_,rfl⟩
  rw [← hns] at Ho2 ⊢
  have Hns:=Lib.hid hns
  clear ho2 hb2 hns
  have HE2:=Lib.hid (HE.out.below Hb2.out)
  obtain ⟨u,hu1,hu2⟩:=HE2.out.out
  obtain ⟨p,cap,rfl,hn1,hn2⟩:=hu2.shape
  rw [← Hn.out] at hu1 hu2 hn1
  have Hu1:=Lib.hid hu1
  have Hu2:=Lib.hid hu2
  have hbo:=cell_of_blk hu1 (j:=0) rfl
  have HS2:=Lib.hid (HS.out w2 _ p n cap _ Hb2.out (by have:=Ho2.out.ints;rw [Hns.out] at this;exact this) hu2)
  rw [← Hns.out] at HS2
  clear hu1 hu2 HS
  unfold maxLen at hn2
  go_wp2_with fail
  refine HS2.out.mono ?_
  rintro e w3 ⟨rfl,hb3⟩
  have hbo3:=cell_below hb3 hbo
  have Hb3:=Lib.hid hb3
  clear hb3 HS2 hbo
  have hbx:=(below_alloc w3 (.cells #[.slice p2 ns k2,.int .i64 0] 39))
  have hbo4:=cell_below hbx hbo3
  have Hbx:=Lib.hid hbx
  go_wp2_with fail
  have hb5:=Lib.hid (Hb2.out.trans ((Hb3.out.trans (Hbx.out.mono Hb3.out.size)).mono Hb2.out.size))
  have hvb : (w3.alloc (.cells #[.slice p2 ns k2,.int .i64 0] 39)).heap[w3.heap.size]?=some (.cells #[.slice p2 ns k2,.int .i64 0] 39 (0,0)):=heap_alloc_top _ _
  obtain ⟨g,xs',h1,h1f,h2⟩ : ∃ g xs',Own (w3.alloc (.cells #[.slice p2 ns k2,.int .i64 0] 39)) lo w2.heap.size 39 2 (.slice p n cap) n xs' ∧
   (∀ i,i < n → ∀ j,j < 2→xs'[i * 2+j]?=some (clF cs g i j)) ∧ ∀ i,i < n→OwnI 3 (w3.alloc (.cells #[.slice p2 ns k2,.int .i64 0] 39)) lo2 w2.heap.size (g i) (cs.getD i clD).1:=by
   obtain ⟨g,⟨xs',q1,q2⟩,q3⟩:=(Hu2.out.below Hb3.out).below Hbx.out
   rw [← Hn.out] at q1 q2 q3
   exact ⟨g,xs',q1,q2,q3⟩
  have hox : ∀ y ∈ xs',y.oneCell'=true:=fun y hy=>by
   obtain ⟨t,ht,e⟩:=List.mem_iff_getElem.1 hy
   have hxl:=h1.len
   have:=h1f (t / 2) (by omega) (t % 2) (by omega)
   rw [show t / 2 * 2+t % 2=t by omega,List.getElem?_eq_getElem ht,e] at this
   rw [Option.some.inj this]
   exact clF_one (lo:=lo2) (hi:=w2.heap.size) (w:=(w3.alloc (.cells #[.slice p2 ns k2,.int .i64 0] 39))) (fun i hi'=>h2 i (by rw [Hn.out];exact hi')) (by rw [← Hn.out];omega) (by omega)
  refine (insert_any _ n lo w2.heap.size k _ _ xs' _ _ _ h1 Hkn.out (by have:=Hcl.out;omega) (Nat.le_trans HE2.out.lo_le (Nat.le_trans Hb3.out.size Hbx.out.size)) hvb (fun e=> ?_) hox rfl rfl).mono ?_
  ·have:=(h1.block e).2.1
   have:=Hb3.out.size
   omega
  rintro e w4 ⟨u4,rfl,ho4,hg4,_⟩
  have q4 : OwnP2 w4 lo lo2 w4.heap.size u4 L:=by
   rw [HL.out]
   exact OwnP2.insert Hn.out Hkn.out h1 h1f h2 ((((Hns.out ▸ Ho2.out : OwnI 3 w2 w1.heap.size w2.heap.size (.slice p2 ns k2) s).below Hb3.out).below Hbx.out).mono (Nat.le_trans HE.out.lo2_le Hb1.out.size) (Nat.le_refl _)) ho4 hg4 (Nat.le_trans Hb3.out.size (Nat.le_trans Hbx.out.size hg4.size)) (Nat.le_trans Hb3.out.size (Nat.le_trans Hbx.out.size hg4.size))
  have HF4:=Lib.hid ((FrX.of_below (lo:=lo) (X:=fun k=>k=bo) hb5.out).trans (FrX.of_p (FrP.of_grown ((Hu2.out.below Hb3.out).below Hbx.out) hg4)))
  have hz4 : w4.heap[bo]?=some (.cells #[.slice p n cap] 27 (0,0)):=by
   refine (hg4.block bo (blk_lt (blk_later (blk_later Hu1.out Hb3.out) Hbx.out)) fun e=> ?_).trans (blk_later (blk_later Hu1.out Hb3.out) Hbx.out)
   exact ne_of_kinds (Lib.ownsRow_kind h1.1 bo e.symm) ⟨_,_,blk_later (blk_later Hu1.out Hb3.out) Hbx.out⟩ (by decide)
  have q5:=(q4.setCell (a:=⟨bo,0,none⟩) hz4 (by decide) (.inl (by decide)) u4)
  have hz5 : (w4.setCell ⟨bo,0,none⟩ u4).heap[bo]?=some (.cells #[u4] 27 (0,0)):=by rw [heap_setCell_at hz4];rfl
  have hsh : ∃ g0 cap,u4=.slice (some ⟨g0,0,none⟩) (n+1) cap∧(w4.setCell ⟨bo,0,none⟩ u4).cell? ⟨g0,k * 2+1,none⟩=some (.int .i64 0)∧(w4.setCell ⟨bo,0,none⟩ u4).frozen? ⟨g0,k * 2+1,none⟩=false:=by
   obtain ⟨g',q6,_⟩:=q5
   obtain ⟨p,cap,rfl,hn1,hn2,hp⟩:=q6.shape
   obtain ⟨g0,rfl,_⟩:=hp (by have:=HLl.out;omega)
   refine ⟨g0,cap,by rw [HLl.out],?_,q6.frozen _⟩
   have:=q6.cell (i:=k) (j:=1) (by have:=HLl.out;have:=Hkn.out;omega) (by omega)
   rw [this]
   show some (Value.int .i64 (L.getD k clD).2)=_
   rw [HLk.out]
  obtain ⟨g0,cap4,rfl,hcell,hfz⟩:=hsh
  have hbo5:=cell_of_blk hz5 (j:=0) rfl
  have hb04:=cell_of_blk hz4 (j:=0) rfl
  have hfb4:=free_of_blk hz4 0
  have HF5:=Lib.hid (HF4.out.setCell (a:=⟨bo,0,none⟩) rfl (.slice (some ⟨g0,0,none⟩) (n+1) cap4))
  have Hq5:=Lib.hid q5
  have Hz5:=Lib.hid hz5
  have hkn2 : (k : Int) < ((n+1 : Nat) : Int):=by have:=Hkn.out;omega
  clear hvb h1 h1f h2 hox ho4 hg4 q4 q5 hz4 hz5 hbo3 hbo4 hbx
  go_wp2_with fail
  go_end0
  have hF:=FrX.setPt (j:=k * 2+1) HF5.out (Hq5.out.mono (Nat.le_refl _) (show _≤(w4.setCell ⟨bo,0,none⟩ (.slice (some ⟨g0,0,none⟩) (n+1) cap4)).heap.size by rw [size_setCell];exact Nat.le_refl _)) (.int .i64 1)
  have hgne : bo ≠ g0:=fun e=>by
   subst e
   obtain ⟨_,q1,_⟩:=Hq5.out
   exact ne_of_kinds (q1.kind _ rfl) ⟨_,_,Hz5.out⟩ (by decide)
  have q:=OwnP2.setN Hq5.out (k:=k) (by rw [HLl.out];have:=Hkn.out;omega) 1
  rw [← Hres.out] at q
  exact ⟨rfl,Env.next HE.out hF ((Below.heap_setCell _ ⟨g0,k * 2+1,none⟩ _ bo hgne).trans Hz5.out) (q.mono (Nat.le_refl _) (by rw [size_setCell,size_setCell];exact Nat.le_refl _)) (by unfold wC;omega),hF⟩
theorem madeF_zeros (N : Nat) : madeCells #[Value.int .i64 0] N=(ivs (List.replicate N 0)).toArray:=by
 refine Array.ext (by simp [madeCells,ivs]) fun i h1 h2=> ?_
 simp [madeCells,ivs,Nat.mod_one]
def IntsK (B : Nat) (w : World) (v : Value) (xs : List Int) : Prop :=
 ∃ p cap,v=.slice p xs.length cap∧(xs.length≤cap∧cap≤maxLen)∧(0 < xs.length → ∃ b off,p=some ⟨b,off,none⟩∧(b < B ∨ ∃ c fz,w.heap[b]?=some (.cells c 3 fz)) ∧ ∀ j,j < xs.length→w.cell? ⟨b,off+j,none⟩=some (iv xs j))
namespace IntsK
variable {B : Nat} {w w' : World} {v : Value} {xs : List Int}
theorem ints (h : IntsK B w v xs) : Ints w v xs:=by
 obtain ⟨p,cap,e,hm,h⟩:=h
 refine ⟨p,cap,e,hm,fun h0=> ?_⟩
 obtain ⟨b,off,e1,_,e2⟩:=h h0
 exact ⟨b,off,e1,e2⟩
theorem below (h : IntsK B w v xs) (hb : Below w.heap.size w w') : IntsK B w' v xs:=by
 obtain ⟨p,cap,e,hm,h⟩:=h
 refine ⟨p,cap,e,hm,fun h0=> ?_⟩
 obtain ⟨b,off,e1,hk,e2⟩:=h h0
 exact ⟨b,off,e1,hk.imp id fun ⟨c,fz,hz⟩=>⟨c,fz,blk_later hz hb⟩,fun j hj=>cell_below hb (e2 j hj)⟩
theorem frx {lo bo : Nat} (h : IntsK B w v xs) (hf : FrX lo (fun k=>k=bo) w w') (hB : B≤lo) (hbo : B≤bo) (hz : ∃ c fz,w.heap[bo]?=some (.cells c 27 fz)) : IntsK B w' v xs:=by
 obtain ⟨p,cap,e,hm,h⟩:=h
 refine ⟨p,cap,e,hm,fun h0=> ?_⟩
 obtain ⟨b,off,e1,hk,e2⟩:=h h0
 have hlt:=World.block_lt_of_cell? w _ (e2 0 h0)
 have hbl : w'.heap[b]?=w.heap[b]?:=by
  refine hf.block b hlt (fun e=> ?_) ?_
  ·rcases hk with hk | hk
   ·omega
   ·subst e
    exact ne_of_kinds hk hz (by decide)
  ·rcases hk with hk | ⟨c,fz,hk⟩
   ·exact .inl (by omega)
   ·exact .inr (not_pt hk (by decide))
 refine ⟨b,off,e1,hk.imp id fun ⟨c,fz,hz⟩=>⟨c,fz,hbl.trans hz⟩,fun j hj=> ?_⟩
 rw [← e2 j hj]
 unfold World.cell?
 rw [hbl]
theorem of_own {lo hi : Nat} (h : OwnI 3 w lo hi v xs) : IntsK B w v xs:=by
 have hk:=OwnI.kind h
 obtain ⟨p,cap,e,hm,hc⟩:=h.ints
 refine ⟨p,cap,e,hm,fun h0=> ?_⟩
 obtain ⟨b,off,e1,e2⟩:=hc h0
 refine ⟨b,off,e1,.inr ?_,e2⟩
 obtain ⟨q,n,c,e3⟩ : ∃ q n c,v=.slice (some ⟨q,0,none⟩) n c:=by
  rcases h.1.2 with ⟨e4,_⟩ | ⟨g,c,_,e4,_⟩
  ·rw [e4] at e
   injection e with e5 e6
   omega
  ·exact ⟨_,_,_,e4⟩
 have hb : b=q:=by
  rw [e,e1] at e3
  injection e3 with e3
  injection e3 with e3
  injection e3
 exact hk b (by rw [e3,hb];rfl)
theorem of_ints {wB : World} (h : Ints wB v xs) (hb : Below wB.heap.size wB w) : IntsK wB.heap.size w v xs:=by
 obtain ⟨p,cap,e,hm,h⟩:=h
 refine ⟨p,cap,e,hm,fun h0=> ?_⟩
 obtain ⟨b,off,e1,e2⟩:=h h0
 exact ⟨b,off,e1,.inl (World.block_lt_of_cell? wB _ (e2 0 h0)),fun j hj=>cell_below hb (e2 j hj)⟩
theorem of_arr {g : Nat} (h : Arr w g xs) (hm : xs.length≤maxLen) : IntsK B w (.slice (some ⟨g,0,none⟩) xs.length xs.length) xs :=
 ⟨_,_,rfl,⟨Nat.le_refl _,hm⟩,fun _=>⟨g,0,rfl,.inr ⟨_,_,h⟩,fun j hj=>by rw [Nat.zero_add];exact h.cell hj⟩⟩
theorem shape (h : IntsK B w v xs) : ∃ p cap,v=.slice p xs.length cap∧xs.length≤cap∧cap≤maxLen:=by
 obtain ⟨p,cap,e,hm,_⟩:=h
 exact ⟨p,cap,e,hm⟩
theorem drop1 {x : Int} {b o cap : Nat} (h : IntsK B w (.slice (some ⟨b,o,none⟩) (xs.length+1) cap) (x :: xs)) : IntsK B w (.slice (some ⟨b,o+1,none⟩) xs.length (cap - 1)) xs:=by
 obtain ⟨p,cap',e,hm,h⟩:=h
 injection e with e1 e2 e3
 subst e3
 rw [List.length_cons] at hm
 refine ⟨_,_,rfl,⟨by omega,by omega⟩,fun h0=> ?_⟩
 obtain ⟨b',o',e4,hk,hc⟩:=h (by simp)
 rw [← e1] at e4
 injection e4 with e4
 injection e4 with e5 e6
 subst e5 e6
 refine ⟨b,o+1,rfl,hk,fun j hj=> ?_⟩
 have:=hc (j+1) (by simp;omega)
 rw [Nat.add_assoc,Nat.add_comm 1 j,this]
 simp [iv]
end IntsK
def UnR (B : Nat) (w : World) (v : Value) : Option (List Int)→Prop
 | none=>v=.slice none 0 0
 | some l=>IntsK B w v l ∧ ∃ p n k,v=.slice (some p) n k
theorem UnR.below {B : Nat} {w w' : World} {v : Value} {u : Option (List Int)} (h : UnR B w v u) (hb : Below w.heap.size w w') : UnR B w' v u:=by
 cases u with
 | none=>exact h
 | some l=>exact ⟨h.1.below hb,h.2⟩
theorem UnR.frx {B : Nat} {w w' : World} {v : Value} {u : Option (List Int)} {lo bo : Nat} (h : UnR B w v u) (hf : FrX lo (fun k=>k=bo) w w') (hB : B≤lo) (hbo : B≤bo) (hz : ∃ c fz,w.heap[bo]?=some (.cells c 27 fz)) : UnR B w' v u:=by
 cases u with
 | none=>exact h
 | some l=>exact ⟨h.1.frx hf hB hbo hz,h.2⟩
structure LayP (rows : Nat) (most : Int) (sh ct old : List Int) (r left : Nat) (u : Option (List Int)) (put : List Int) : Prop where
 r16 : rows≤16
 ls : sh.length=rows
 lo : old.length=rows
 lp : put.length=rows
 rr : r≤rows
 hs : ∀ i,r≤i→i < rows→sh.getD i 0=old.getD i 0
 bs : ∀ i,i < rows→0≤sh.getD i 0∧sh.getD i 0≤1000
 bo : ∀ i,i < rows→0≤old.getD i 0∧old.getD i 0≤1000
 bp : ∀ i,i < rows→0≤put.getD i 0∧put.getD i 0≤1000
 bu : ∀ l,u=some l→l.length=rows ∧ ∀ i,i < rows→0≤l.getD i 0∧l.getD i 0≤20000
 c1 : ct ≠ []
 c2 : ct.length≤16
 bc : ∀ i,i < ct.length→0≤ct.getD i 0∧ct.getD i 0≤1000
 bl : left≤1000
 bm : 0≤most∧most≤1000
theorem getD_set (xs : List Int) (i j : Nat) (x : Int) (hi : i < xs.length) : (xs.set i x).getD j 0=if j=i then x else xs.getD j 0:=by
 rw [List.getD_eq_getElem?_getD,List.getElem?_set]
 by_cases e : i=j
 ·subst e;simp [hi]
 ·rw [if_neg e,if_neg (fun c=>e c.symm),List.getD_eq_getElem?_getD]
theorem LayP.next {rows : Nat} {most : Int} {sh ct old : List Int} {r left : Nat} {u : Option (List Int)} {put : List Int} (h : LayP rows most sh ct old r left u put) (hr : r < rows) {m : Nat} (hm : m≤left) (hk : layOk old most u put r m=true) :
 LayP rows most (sh.set r (sh.getD r 0+(m : Int))) ct old (r+1) (left - m) u (put.set r (m : Int)):=by
 have h1 : old.getD r 0+(m : Int)≤most:=by
  unfold layOk at hk
  simp only [Bool.not_eq_true',Bool.or_eq_false_iff,decide_eq_false_iff_not] at hk
  have:=hk.1.2
  omega
 have h2:=h.bl
 have h3:=h.bm
 have h4:=h.hs r (Nat.le_refl _) hr
 have h5:=h.bo r hr
 refine ⟨h.r16,by rw [List.length_set];exact h.ls,h.lo,by rw [List.length_set];exact h.lp,hr,fun i hi hir=> ?_,fun i hi=> ?_,h.bo,fun i hi=> ?_,h.bu,h.c1,h.c2,h.bc,by omega,h.bm⟩
 ·rw [getD_set _ _ _ _ (by rw [h.ls];exact hr),if_neg (by omega)]
  exact h.hs i (by omega) hir
 ·rw [getD_set _ _ _ _ (by rw [h.ls];exact hr)]
  split
  ·omega
  ·exact h.bs i hi
 ·rw [getD_set _ _ _ _ (by rw [h.lp];exact hr)]
  split
  ·omega
  ·exact h.bp i hi
theorem sumTo2_take (xs : List Int) (k : Nat) : ∀ j,j≤k→k≤xs.length→sumTo2 (xs.take k) j=sumTo2 xs j
 | 0,_,_=>rfl
 | j+1,hj,hk=>by
   rw [sumTo2,sumTo2,sumTo2_take xs k j (by omega) hk]
   congr 1
   simp [List.getD_eq_getElem?_getD,List.getElem?_take,show j < k from hj]
theorem sumI_take {xs : List Int} {k : Nat} (hk : k≤xs.length) : sumI (xs.take k)=sumTo2 xs k:=by
 unfold sumI
 rw [show (xs.take k).length=k by simp;omega]
 exact sumTo2_take xs k k (Nat.le_refl _) hk
theorem LayP.putOk {rows : Nat} {most : Int} {sh ct old : List Int} {r left : Nat} {u : Option (List Int)} {put : List Int} (h : LayP rows most sh ct old r left u put) : sumOk put :=
 ⟨by have:=h.lp;have:=h.r16;omega,fun k hk=>by have:=h.bp k (by rw [← h.lp];exact hk);omega⟩
theorem sumTo2_bnd {xs : List Int} {n : Nat} (h : ∀ i,i < n→0≤xs.getD i 0∧xs.getD i 0≤1000) : ∀ k,k≤n→0≤sumTo2 xs k∧sumTo2 xs k≤k * 1000
 | 0,_=>by simp [sumTo2]
 | k+1,hk=>by
   have a:=sumTo2_bnd h k (by omega)
   have b:=h k (by omega)
   rw [sumTo2]
   push_cast
   omega
theorem prefL_len (put : List Int) : (prefL put).length=put.length:=by simp [prefL]
theorem prefL_getD {put : List Int} {k : Nat} (hk : k < put.length) : (prefL put).getD k 0=sumTo2 put k:=by
 unfold prefL
 rw [List.getD_eq_getElem?_getD,List.getElem?_map,List.getElem?_range hk]
 exact sumI_take (by omega)
theorem LayP.up {rows : Nat} {most : Int} {sh old : List Int} {c0 c1 : Int} {cs : List Int} {r left : Nat} {u : Option (List Int)} {put : List Int} (h : LayP rows most sh (c0 :: c1 :: cs) old r left u put) :
 LayP rows most sh (c1 :: cs) sh 0 c1.toNat (some (prefL put)) (List.replicate rows 0):=by
 have hc : ∀ i,i < (c1 :: cs).length→0≤(c1 :: cs).getD i 0∧(c1 :: cs).getD i 0≤1000:=fun i hi=>by
  have:=h.bc (i+1) (by simp at hi ⊢;omega)
  simpa using this
 refine ⟨h.r16,h.ls,h.ls,List.length_replicate,Nat.zero_le _,fun _ _ _=>rfl,h.bs,h.bs,fun i hi=> ?_,fun l hl=> ?_,by simp,by have:=h.c2;simp at this ⊢;omega,hc,?_,h.bm⟩
 ·simp [List.getD_eq_getElem?_getD,List.getElem?_replicate,hi]
 ·injection hl with hl
  subst hl
  refine ⟨by rw [prefL_len,h.lp],fun i hi=> ?_⟩
  rw [prefL_getD (by rw [h.lp];exact hi)]
  have:=sumTo2_bnd (fun i hi=>h.bp i hi) i (by omega)
  have:=h.r16
  omega
 ·have:=hc 0 (by simp)
  simp at this
  omega
theorem layL_left {most : Int} {f : Nat} {sh ct old : List Int} {left : Nat} {u : Option (List Int)} {put : List Int} (h : 0 < left) : layL most (f+1) sh ct old sh.length left u put=[]:=by
 unfold layL
 rw [if_pos rfl,if_pos h]
theorem layL_see {most : Int} {f : Nat} {sh old : List Int} {c0 : Int} {u : Option (List Int)} {put : List Int} : layL most (f+1) sh [c0] old sh.length 0 u put=[sh]:=by
 unfold layL
 rw [if_pos rfl,if_neg (Nat.lt_irrefl 0)]
theorem layL_up {most : Int} {f : Nat} {sh old : List Int} {c0 c1 : Int} {cs : List Int} {u : Option (List Int)} {put : List Int} : layL most (f+1) sh (c0 :: c1 :: cs) old sh.length 0 u put=layL most f sh (c1 :: cs) sh 0 c1.toNat (some (prefL put)) (List.replicate sh.length 0):=by
 conv=>lhs;unfold layL
 rw [if_pos rfl,if_neg (Nat.lt_irrefl 0)]
def rowL (most : Int) (f : Nat) (sh ct old : List Int) (r left : Nat) (u : Option (List Int)) (put : List Int) (m : Nat) : List (List Int):=layL most f (sh.set r (sh.getD r 0+(m : Int))) ct old (r+1) (left - m) u (put.set r (m : Int))
theorem layL_row {most : Int} {f : Nat} {sh ct old : List Int} {r left : Nat} {u : Option (List Int)} {put : List Int} (h : r ≠ sh.length) :
 layL most (f+1) sh ct old r left u put=((List.range (left+1)).takeWhile (layOk old most u put r)).flatMap (rowL most f sh ct old r left u put):=by
 conv=>lhs;unfold layL
 rw [if_neg h]
 rfl
theorem lay_most (p : Nat→Bool) : ∀ n,∃ m,m≤n∧(∀ j,j < m→p j=true)∧(m=n ∨ p m=false)∧(List.range n).takeWhile p=List.range m
 | 0=>⟨0,Nat.le_refl _,fun j hj=>absurd hj (Nat.not_lt_zero _),.inl rfl,rfl⟩
 | n+1=>by
   obtain ⟨m,h1,h2,h3,_⟩:=lay_most p n
   rcases h3 with rfl | h3
   ·by_cases e : p m=true
    ·exact ⟨m+1,Nat.le_refl _,fun j hj=>by rcases Nat.lt_succ_iff_lt_or_eq.1 hj with h | rfl;exact h2 j h;exact e,.inl rfl,takeWhile_range p _ _ (Nat.le_refl _) (fun j hj=>by rcases Nat.lt_succ_iff_lt_or_eq.1 hj with h | rfl;exact h2 j h;exact e) (.inl rfl)⟩
    ·have e' : p m=false:=by simpa using e
     exact ⟨m,Nat.le_succ _,h2,.inr e',takeWhile_range p _ _ (Nat.le_succ _) h2 (.inr e')⟩
   ·exact ⟨m,Nat.le_succ_of_le h1,h2,.inr h3,takeWhile_range p _ _ (Nat.le_succ_of_le h1) h2 (.inr h3)⟩
def upTo (F : Nat→List (List Int)) (k : Nat) : List (List Int):=(List.range k).flatMap F
theorem upTo_succ (F : Nat→List (List Int)) (k : Nat) : upTo F (k+1)=upTo F k ++ F k:=by
 unfold upTo
 rw [List.range_succ,List.flatMap_append,List.flatMap_singleton]
theorem upTo_le (F : Nat→List (List Int)) {k m : Nat} (h : k≤m) : (upTo F k).length≤(upTo F m).length:=by
 induction m with
 | zero=>obtain rfl : k=0:=by omega
         exact Nat.le_refl _
 | succ m ih =>
   by_cases e : k=m+1
   ·rw [e];exact Nat.le_refl _
   ·rw [upTo_succ,List.length_append]
    have:=ih (by omega)
    omega
def LayC (wB : World) (lo lo2 bo rows : Nat) (most : Int) (f : Nat) : Prop :=
 ∀ (sh ct old : List Int) (r left : Nat) (u : Option (List Int)) (put : List Int) (cs : List Cls) (m : Nat) (w : World) (vs vc vo vu vp : Value),LayP rows most sh ct old r left u put→ct.length * (rows+1)≤f+r →
   Env wB lo lo2 bo cs m w→IntsK wB.heap.size w vs sh→IntsK wB.heap.size w vc ct→IntsK wB.heap.size w vo old→UnR wB.heap.size w vu u→IntsK wB.heap.size w vp put →
   m+(layL most f sh ct old r left u put).length < 1000 →
   Calls Tryz.prog 58 #[vs,vc,vo,.int .i64 (r : Int),.int .i64 (left : Int),vu,vp,.int .i64 most,.func (.func 53) #[] #[.pointer (some ⟨bo,0,none⟩)]] w fun e w' =>
    e=.returned (.tuple #[])∧Env wB lo lo2 bo (cntL (layL most f sh ct old r left u put) cs) (m+(layL most f sh ct old r left u put).length) w'∧FrX lo (fun k=>k=bo) w w'
theorem fill_set {xs : List Int} {n k : Nat} (hl : xs.length=n) (hk : k < n) : (xs.take k ++ List.replicate (n - k) 0).set k (xs.getD k 0)=xs.take (k+1) ++ List.replicate (n - (k+1)) 0:=by
 have h1 : (xs.take k).length=k:=by simp;omega
 rw [List.set_append_right _ _ (by omega),h1,Nat.sub_self]
 obtain ⟨d,hd⟩ : ∃ d,n - k=d+1:=⟨n - k - 1,by omega⟩
 have h2 : xs.take (k+1)=xs.take k ++ [xs.getD k 0]:=by
  rw [List.take_add_one,List.getElem?_eq_getElem (by omega)]
  simp [List.getD_eq_getElem?_getD,List.getElem?_eq_getElem (show k < xs.length by omega)]
 rw [hd,show n - (k+1)=d by omega,List.replicate_succ,List.set_cons_zero,h2,List.append_assoc]
 rfl
theorem blkF_drew {w : World} {k : Nat} {o : Obj} (h : w.heap[k]?=some o) : w.drew.heap[k]?=some o:=h
theorem belF_al {a w : World} {B : Nat} (h : Below B a w) (hB : B≤a.heap.size) (o : Obj) : Below B a (w.alloc o):=h.trans ((below_alloc w o).mono (Nat.le_trans hB h.size))
theorem keepB {a : Addr} {v : Value} {w0 w w' : World} (hb : Below w.heap.size w w') (h : w.cell? a=some v∧Below w0.heap.size w0 w) : w'.cell? a=some v∧Below w0.heap.size w0 w':=⟨cell_below hb h.1,h.2.trans (hb.mono h.2.size)⟩
section
variable {wB : World} {lo lo2 bo rows : Nat} {most : Int}
theorem lay_see (sh old : List Int) (c0 : Int) (u : Option (List Int)) (put : List Int) (cs : List Cls) (m : Nat) (w : World) (vs vc vo vu vp : Value) (h16 : sh.length≤16) (hE : Env wB lo lo2 bo cs m w) (hs : IntsK wB.heap.size w vs sh) (hc : IntsK wB.heap.size w vc [c0]) (hm : m+1 < 1000) :
 Calls Tryz.prog 58 #[vs,vc,vo,.int .i64 (sh.length : Int),.int .i64 0,vu,vp,.int .i64 most,.func (.func 53) #[] #[.pointer (some ⟨bo,0,none⟩)]] w fun e w' =>
  e=.returned (.tuple #[])∧Env wB lo lo2 bo (cntL [sh] cs) (m+1) w'∧FrX lo (fun k=>k=bo) w w':=by
 have HS:=Lib.hid (seeF_any wB lo lo2 bo m vs sh cs w hE hs.ints (by omega) (by omega))
 obtain ⟨ps,ks,rfl,_,_⟩:=hs.shape
 obtain ⟨pc,kc,rfl,_,_⟩:=hc.shape
 rw [show [c0].length=1 from rfl]
 obtain ⟨n,hn⟩ : ∃ n,n=sh.length:=⟨_,rfl⟩
 rw [← hn] at HS ⊢
 clear hE hs hc hm hn h16
 go_enter Tryz.func58,Tryz.ntmps58
 go_wp2_with fail
 refine HS.out.mono ?_
 rintro e w1 ⟨rfl,hE1,hF1⟩
 have HE1:=Lib.hid hE1
 have HF1:=Lib.hid hF1
 clear hE1 hF1
 go_wp2_with fail
 (try simp only [Exit.inBlock,Exit.then])
 refine bodyPost_ret (results_none rfl _ _ _) rfl ?_
 exact ⟨rfl,HE1.out,HF1.out⟩
theorem lay_left (left n : Nat) (hl : 0 < left) (vc vo vu vp : Value) (ps : Option Addr) (ks : Nat) (w : World) (hl2 : left≤1000) (hn : n≤16) :
 Calls Tryz.prog 58 #[.slice ps n ks,vc,vo,.int .i64 (n : Int),.int .i64 (left : Int),vu,vp,.int .i64 most,.func (.func 53) #[] #[.pointer (some ⟨bo,0,none⟩)]] w fun e w' =>
  e=.returned (.tuple #[])∧w'=w:=by
 have hl3 : (0 : Int) < (left : Int):=by omega
 go_enter Tryz.func58,Tryz.ntmps58
 go_wp2_with fail
 (try simp only [Exit.inBlock,Exit.then])
 refine bodyPost_ret (results_none rfl _ _ _) rfl ?_
 exact ⟨rfl,rfl⟩
theorem lay_up (f : Nat) (ih : LayC wB lo lo2 bo rows most f) (sh old : List Int) (c0 c1 : Int) (cs' : List Int) (u : Option (List Int)) (put : List Int) (cs : List Cls) (m : Nat) (w : World) (vs vc vo vu vp : Value) (hP : LayP rows most sh (c0 :: c1 :: cs') old rows 0 u put) (hf : (c0 :: c1 :: cs').length * (rows+1)≤f+1+rows)
 (hE : Env wB lo lo2 bo cs m w) (hs : IntsK wB.heap.size w vs sh) (hc : IntsK wB.heap.size w vc (c0 :: c1 :: cs')) (hp : IntsK wB.heap.size w vp put) (hm : m+(layL most f sh (c1 :: cs') sh 0 c1.toNat (some (prefL put)) (List.replicate rows 0)).length < 1000) :
 Calls Tryz.prog 58 #[vs,vc,vo,.int .i64 (rows : Int),.int .i64 0,vu,vp,.int .i64 most,.func (.func 53) #[] #[.pointer (some ⟨bo,0,none⟩)]] w fun e w' =>
  e=.returned (.tuple #[])∧Env wB lo lo2 bo (cntL (layL most f sh (c1 :: cs') sh 0 c1.toNat (some (prefL put)) (List.replicate rows 0)) cs) (m+(layL most f sh (c1 :: cs') sh 0 c1.toNat (some (prefL put)) (List.replicate rows 0)).length) w'∧FrX lo (fun k=>k=bo) w w':=by
 have hls:=hP.ls
 have hlp:=hP.lp
 have h16:=hP.r16
 have hcb:=hP.bc 1 (by simp)
 have hc1 : 0≤c1∧c1≤1000:=by simpa using hcb
 have hU:=hP.up
 obtain ⟨O,hO⟩ : ∃ O : Obj,O=.cells (madeCells #[Value.int .i64 0] rows) 3:=⟨_,rfl⟩
 have hmk:=run_make_row' (P:=Tryz.prog) 24 3 (.int .i64 0) 8 Tryz.underlying24 info_int rfl .i64 .i64 rows (by omega) (by omega)
 rw [← hO] at hmk
 have hOz : O=.cells (ivs (List.replicate rows 0)).toArray 3:=by rw [hO,madeF_zeros]
 obtain ⟨n0,hn0⟩ : ∃ n0,n0=w.heap.size:=⟨_,rfl⟩
 have HC:=Lib.hid (show ∀ (WX : World) (vo' vn : Value) (gz : Nat) (cp : Nat) (pc : Value),Below w.heap.size w WX→IntsK wB.heap.size WX vo' sh→IntsK wB.heap.size WX pc (c1 :: cs')→UnR wB.heap.size WX vn (some (prefL put))→WX.heap[gz]?=some O →
  Calls Tryz.prog 58 #[vs,pc,vo',.int .i64 0,.int .i64 c1,vn,.slice (some ⟨gz,0,none⟩) rows rows,.int .i64 most,.func (.func 53) #[] #[.pointer (some ⟨bo,0,none⟩)]] WX fun e w' =>
   e=.returned (.tuple #[])∧Env wB lo lo2 bo (cntL (layL most f sh (c1 :: cs') sh 0 c1.toNat (some (prefL put)) (List.replicate rows 0)) cs) (m+(layL most f sh (c1 :: cs') sh 0 c1.toNat (some (prefL put)) (List.replicate rows 0)).length) w'∧FrX lo (fun k=>k=bo) w w' from fun WX vo' vn gz cp pc hb h1 h2 h3 h4=>by
  have hz : Arr WX gz (List.replicate rows 0):=by unfold Arr;rw [h4,hOz]
  have hzI:=IntsK.of_arr (B:=wB.heap.size) hz (by rw [List.length_replicate];unfold maxLen;omega)
  rw [List.length_replicate] at hzI
  have:=ih sh (c1 :: cs') sh 0 c1.toNat (some (prefL put)) (List.replicate rows 0) cs m WX vs pc vo' vn (.slice (some ⟨gz,0,none⟩) rows rows) hU (by
   simp only [List.length_cons] at hf ⊢
   have e1:=Nat.add_mul (cs'.length+1) 1 (rows+1)
   omega) (hE.below hb) (hs.below hb) h2 h1 h3 hzI hm
  rw [Int.toNat_of_nonneg hc1.1] at this
  exact this.mono fun e w' ⟨he,hE',hF⟩=>⟨he,hE',(FrX.of_below hb).trans hF⟩)
 have hpo:=hP.putOk
 have hsum:=fun k (hk : k≤rows)=>sumTo2_bnd (fun i hi=>hP.bp i hi) k hk
 have HSum:=Lib.hid hsum
 have Hbp:=Lib.hid hP.bp
 have hE0:=Lib.hid hE
 have Hs:=Lib.hid hs
 have Hc:=Lib.hid hc
 have Hp:=Lib.hid hp
 have Hlp:=Lib.hid hlp
 have Hls:=Lib.hid hls
 obtain ⟨ps,ks,rfl,_,_⟩:=hs.shape
 obtain ⟨pc,kc,rfl,hck1,hck2⟩:=hc.shape
 obtain ⟨pp,kp,rfl,_,_⟩:=hp.shape
 rw [hls] at HC ⊢
 rw [hlp] at ⊢
 obtain ⟨nc,hnc⟩ : ∃ nc,nc=(c0 :: c1 :: cs').length:=⟨_,rfl⟩
 rw [← hnc] at hck1 ⊢
 have hnc1 : ((nc : Int) == 1)=false:=by simp at hnc ⊢;omega
 have Hnc:=Lib.hid hnc
 have Hmk:=Lib.hid hmk
 have HO:=Lib.hid hOz
 clear hE hs hc hp hm hP hU hpo hsum hls hlp hnc hO hOz hf ih hn0
 go_enter Tryz.func58,Tryz.ntmps58
 have hmk:=Hmk.out
 go_wp2_with fail
 have Hb0:=Lib.hid (below_alloc w O)
 have Hz0:=Lib.hid (show Arr (w.alloc O) w.heap.size (List.replicate rows 0) by rw [HO.out];exact heap_alloc_top _ _)
 obtain ⟨gz,hgz⟩ : ∃ gz,gz=w.heap.size:=⟨_,rfl⟩
 rw [← hgz] at Hz0 Hb0 ⊢
 have Hgz:=Lib.hid hgz
 clear hgz
 go_loopg [19,20,21,43] rows (fun g s19 s20 s21 s43 wr=> ∃ k : Nat,k≤rows∧g=rows - k∧s43=.int .i64 (k : Int)∧s19=.int .i64 (sumTo2 put k)∧Hid (Below gz w wr)∧Hid (Arr wr gz ((prefL put).take k ++ List.replicate (rows - k) 0)))
 case atStart=>exact ⟨0,Nat.zero_le _,rfl,rfl,rfl,Hb0,by rw [List.take_zero,List.nil_append,Nat.sub_zero];exact Hz0⟩
 case round =>
  obtain ⟨k,hk,rfl,rfl,rfl,hb,ha⟩:=hrel
  obtain ⟨wo,rfl⟩ : ∃ x : World,x=wr:=⟨_,rfl⟩
  by_cases hlt : k < rows
  ·have hkr : (k : Int) < (rows : Int):=by omega
   obtain ⟨_,_,e,_,hcp⟩:=Hp.out.ints
   injection e with e1 e2 e3
   subst e1 e3
   obtain ⟨bp,op,rfl,hcq⟩:=hcp (by rw [Hlp.out];omega)
   have hbw : Below w.heap.size w wo:=by rw [← Hgz.out];exact hb.out
   have c1:=cell_below hbw (hcq k (by rw [Hlp.out];exact hlt))
   have hbk:=Hbp.out k hlt
   obtain ⟨x,hx⟩ : ∃ x,x=put.getD k 0:=⟨_,rfl⟩
   unfold iv at c1
   rw [← hx] at c1 hbk
   obtain ⟨z,hz⟩ : ∃ z,z=sumTo2 put k:=⟨_,rfl⟩
   have hzb:=HSum.out k hk
   rw [← hz] at hzb ⊢
   have Hsz:=Lib.hid (show sumTo2 put (k+1)=z+x by rw [sumTo2,hz,hx])
   have Hz:=Lib.hid hz
   obtain ⟨x0,hx0⟩:=(show ∃ x0,((prefL put).take k ++ List.replicate (rows - k) 0).getD k 0=x0 from ⟨_,rfl⟩)
   have hal : ((prefL put).take k ++ List.replicate (rows - k) 0).length=rows:=by simp [prefL_len,Hlp.out];omega
   have c2:=ha.out.cell (j:=k) (by omega)
   have c2f:=ha.out.free k
   have hset:=ha.out.set k z
   rw [show z=(prefL put).getD k 0 by rw [prefL_getD (by rw [Hlp.out];exact hlt),hz],fill_set (by rw [prefL_len,Hlp.out]) hlt,show (prefL put).getD k 0=z by rw [prefL_getD (by rw [Hlp.out];exact hlt),hz]] at hset
   have Hset:=Lib.hid hset
   have Hb1:=Lib.hid (hb.out.setCell (p:=⟨gz,k,none⟩) (Nat.le_refl _) (.int .i64 z))
   have hk16 : (k : Int) * 1000≤16000:=by omega
   clear hcp hcq hx hz hx0 hal hset hbw hb ha e2
   go_wp2_with fail
   go_roundg (rows - (k+1))
   case measure=>omega
   case rel=>exact ⟨k+1,by omega,rfl,by go_num,by rw [Hsz.out],Hb1,Hset⟩
  ·obtain rfl : k=rows:=by omega
   rw [Nat.sub_self,List.replicate_zero,List.append_nil,List.take_of_length_le (by rw [prefL_len,Hlp.out];exact Nat.le_refl _)] at ha
   obtain ⟨_,_,e,_,hcp⟩:=Hc.out.ints
   injection e with e1 e2 e3
   subst e1 e3
   obtain ⟨bc,oc,rfl,hcq⟩:=hcp (by simp)
   have hbw : Below w.heap.size w wo:=by rw [← Hgz.out];exact hb.out
   have c1':=cell_below hbw (hcq 1 (by simp))
   have hi1 : iv (c0 :: c1 :: cs') 1=.int .i64 c1:=rfl
   rw [hi1] at c1'
   have hc1b : (1 : Int) < (nc : Int):=by have:=Hnc.out;simp at this;omega
   have hs1 : (1 : Int)≤(nc : Int):=by omega
   have hs2 : (nc : Int)≤(kc : Int):=by omega
   have hcz : kc ≠ 1:=by have:=Hnc.out;simp at this;omega
   have HCl:=Lib.hid (show ∀ wx,Below wo.heap.size wo wx→Calls Tryz.prog 42 #[.slice ps k ks] wx fun e w'=> ∃ u,e=.returned u∧IntsK wB.heap.size w' u sh∧Below wx.heap.size wx w'∧Below wo.heap.size wo w' from fun wx hx=>by
    have h:=clone_any (.slice ps sh.length ks) sh wx ((Hs.out.below hbw).below hx).ints (by rw [Hls.out];omega)
    rw [Hls.out] at h
    exact h.mono fun e w' ⟨u,he,ho,hb⟩=>⟨u,he,.of_own ho,hb,hx.trans (hb.mono hx.size)⟩)
   have HK:=Lib.hid (show ∀ w',FrX lo (fun k=>k=bo) w w'→w'.cell? ⟨bc,oc+1,none⟩=some (.int .i64 c1) from fun w' hF=>by
    obtain ⟨_,_,e,_,hcp⟩:=Hc.out.frx hF hE0.out.wb_lo hE0.out.wb_le (by obtain ⟨u,hu,_⟩:=hE0.out.out;exact ⟨_,_,hu⟩)
    injection e with e1 e2 e3
    obtain ⟨b',o',e4,_,hcq⟩:=hcp (by simp)
    rw [← e1] at e4
    injection e4 with e4
    injection e4 with e5 e6
    have:=hcq 1 (by simp)
    rw [← e5,← e6] at this
    exact this)
   have HL:=Lib.hid (show ∀ (WX : World) (vo' : Value) (g' : Nat),Below wo.heap.size wo WX→IntsK wB.heap.size WX vo' sh→WX.heap[g']?=some O→Calls Tryz.prog 58 #[.slice ps k ks,.slice (some ⟨bc,oc+1,none⟩) (nc - 1) (kc - 1),vo',.int .i64 0,.int .i64 c1,.slice (some ⟨gz,0,none⟩) k k,.slice (some ⟨g',0,none⟩) k k,.int .i64 most,.func (.func 53) #[] #[.pointer (some ⟨bo,0,none⟩)]] WX fun e w' =>
    e=.returned (.tuple #[])∧Env wB lo lo2 bo (cntL (layL most f sh (c1 :: cs') sh 0 c1.toNat (some (prefL put)) (List.replicate k 0)) cs) (m+(layL most f sh (c1 :: cs') sh 0 c1.toNat (some (prefL put)) (List.replicate k 0)).length) w'∧FrX lo (fun k=>k=bo) w w'∧w'.cell? ⟨bc,oc+1,none⟩=some (.int .i64 c1) from fun WX vo' g' hw h1 h4 =>
    Calls.mono (HC.out WX vo' _ g' 0 _ (hbw.trans (hw.mono hbw.size)) h1 (by
     have h:=((Hc.out.below hbw).below hw)
     rw [Hnc.out]
     exact IntsK.drop1 h) (by
     have h:=IntsK.of_arr (B:=wB.heap.size) (ha.out.below hw) (by rw [prefL_len,Hlp.out];unfold maxLen;omega)
     rw [prefL_len,Hlp.out] at h
     exact ⟨h,_,_,_,rfl⟩) h4) fun e w' ⟨he,hE',hF⟩=>⟨he,hE',hF,HK.out w' hF⟩)
   clear e2 hcp hcq hb ha
   go_wp2_with fail
   go_region_held3 (fun w'=>w'.cell? ⟨bc,oc+1,none⟩=some (.int .i64 c1))
    (first | with_reducible assumption | exact c1' | exact cell_below (below_alloc _ _) (by assumption) | exact cell_below bC (by assumption) | exact hS9)
    (first
      | (go_at_call 42;with_reducible refine Calls.mono (HCl.out _ (by (repeat (first | assumption | with_reducible refine Below.drew ?_ | with_reducible refine belF_al ?_ (Nat.le_refl _) _ | exact Below.refl _ _)))) ?_;rintro e wC ⟨uC,rfl,oC,bC,bC2⟩)
      | (go_at_call 58;with_reducible refine Calls.mono (HL.out _ _ _ (by (repeat (first | assumption | with_reducible refine Below.drew ?_ | with_reducible refine belF_al ?_ (Nat.le_refl _) _ | exact Below.refl _ _))) (by first | exact oC | exact oC.below (below_alloc _ _)) (by (repeat (first | with_reducible exact heap_alloc_top _ _ | with_reducible refine blk_later ?_ bC | with_reducible refine blkF_drew ?_)))) ?_;rintro e w9 ⟨rfl,hE9,hF9,hS9⟩))
   all_goals
    go_wp2_with fail
    (try simp only [Exit.inBlock,Exit.then])
    refine bodyPost_ret (results_none rfl _ _ _) rfl ?_
    exact ⟨rfl,hE9,hF9⟩
end
end
end Go.Proofs.YtijadclebjcckaaGreat
