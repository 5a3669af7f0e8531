/-
  A part of the proof of FnTop (texts of one proof, joined).
-/
import Derived.Test.YtijadclebjcckaaGreatJ2
import Derived.Test.YtijadclebjcckaaGreatChecked
import Derived.WideKeyEntry
namespace Go.Proofs.YtijadclebjcckaaGreat
set_option linter.all false
set_option maxRecDepth 100000
set_option maxHeartbeats 16000000
section
open Go.RowKit
theorem OwnF.apart {w : World} {lo hi lo' hi' : Nat} {T T' : TypeId} {v v' : Value} {n n' : Nat} {f f' : Nat→Value} (h : OwnF w lo hi T v n f) (h' : OwnF w lo' hi' T' v' n' f') (hT : T ≠ T') : ∀ k,v.ownBlock=some k→v'.ownBlock ≠ some k:=by
 intro k h1 h2
 obtain ⟨xs,h,_⟩:=h
 obtain ⟨ys,h',_⟩:=h'
 obtain ⟨c,fz,e⟩:=Lib.ownsRow_kind h.1 k h1
 obtain ⟨c',fz',e'⟩:=Lib.ownsRow_kind h'.1 k h2
 rw [e] at e'
 injection e' with e'
 injection e' with _ e' _
 exact hT e'
theorem OwnI.grownI {w w' : World} {lo hi : Nat} {T : TypeId} {v u : Value} {xs : List Int} (h : OwnI T w lo hi v xs) (hg : w.grownBy w' u.ownBlock) (hne : ∀ k,v.ownBlock=some k→u.ownBlock ≠ some k) : OwnI T w' lo hi v xs :=
 ⟨ownsRow_of_block h.1 fun k hk=>hg.block k (Own.block h hk).2.2 fun e=>hne k hk e.symm,h.2⟩
def RowsN (w : World) (lo hi N : Nat) (f : Nat→Value) (L : Nat→List Int) : Prop :=
 (∀ i,i < N→OwnI 3 w lo hi (f i) (L i)) ∧ ∀ i j,i < N→j < N→i ≠ j → ∀ b,(f i).ownBlock=some b→(f j).ownBlock ≠ some b
theorem RowsN.mono {w : World} {lo hi hi' N : Nat} {f : Nat→Value} {L : Nat→List Int} (h : RowsN w lo hi N f L) (hh : hi≤hi') : RowsN w lo hi' N f L :=
 ⟨fun i hi=>(h.1 i hi).mono (Nat.le_refl _) hh,h.2⟩
theorem RowsN.grown {w w' : World} {lo hi N lo' hi' n : Nat} {f g : Nat→Value} {L : Nat→List Int} {v : Value} (h : RowsN w lo hi N f L) (hv : OwnF w lo' hi' 24 v n g) (hg : w.grownBy w' v.ownBlock) : RowsN w' lo hi N f L :=
 ⟨fun i hi=>OwnI.grownI (h.1 i hi) hg fun k hk=>OwnF.apart (h.1 i hi).fn hv (by decide) k hk,h.2⟩
theorem RowsN.set {w w' : World} {lo hi N k : Nat} {f : Nat→Value} {L : Nat→List Int} {u : Value} {r : List Int} (h : RowsN w lo hi N f L) (hk : k < N) (hhi : hi≤w.heap.size) (ho : OwnI 3 w' lo w'.heap.size u r)
 (hg : w.grownBy w' (f k).ownBlock) (hn : ∀ b,u.ownBlock=some b→(f k).ownBlock=some b ∨ w.heap.size≤b) :
 RowsN w' lo w'.heap.size N (fun i=>if i=k then u else f i) (fun i=>if i=k then r else L i):=by
 have hs:=hg.size
 refine ⟨fun i hi=> ?_,fun i j hi hj hij b=> ?_⟩
 ·by_cases e : i=k
  ·simp only [e,if_true];exact ho
  ·simp only [e,if_false]
   exact OwnI.mono (OwnI.grownI (h.1 i hi) hg fun b hb=>(h.2 i k hi hk e b hb)) (Nat.le_refl _) (by omega)
 ·by_cases e : i=k
  ·subst e
   have e2 : ¬ j=i:=fun e=>hij e.symm
   simp only [e2,if_true,if_false]
   intro hb hb2
   rcases hn b hb with h1 | h1
   ·exact h.2 i j hi hj hij b h1 hb2
   ·have:=OwnF.blocks (h.1 j hj).fn b hb2
    omega
  ·by_cases e2 : j=k
   ·subst e2
    simp only [e,if_true,if_false]
    intro hb hb2
    rcases hn b hb2 with h1 | h1
    ·exact h.2 i j hi hj hij b hb h1
    ·have:=OwnF.blocks (h.1 i hi).fn b hb
     omega
   ·simp only [e,e2,if_false]
    exact h.2 i j hi hj hij b
def OwnE (w : World) (lo hi : Nat) (T : TypeId) (v : Value) (n : Nat) (f : Nat→Value) : Prop:=(n=0 ∧ ∃ p,v=.slice p 0 0) ∨ OwnF w lo hi T v n f
theorem RowsN.congr {w : World} {lo hi N : Nat} {f f' : Nat→Value} {L L' : Nat→List Int} (h : RowsN w lo hi N f L) (hf : ∀ i,i < N→f' i=f i) (hL : ∀ i,i < N→L' i=L i) : RowsN w lo hi N f' L' :=
 ⟨fun i hi=>by rw [hf i hi,hL i hi];exact h.1 i hi,fun i j hi hj hij=>by rw [hf i hi,hf j hj];exact h.2 i j hi hj hij⟩
theorem RowsN.below {w w' : World} {lo hi N : Nat} {f : Nat→Value} {L : Nat→List Int} (h : RowsN w lo hi N f L) (hb : Below w.heap.size w w') : RowsN w' lo hi N f L :=
 ⟨fun i hi=>(h.1 i hi).below hb,h.2⟩
theorem RowsN.snoc {w : World} {lo mid hi N : Nat} {f : Nat→Value} {L : Nat→List Int} {x : Value} {r : List Int} (h : RowsN w lo mid N f L) (hx : OwnI 3 w mid hi x r) (hm : lo≤mid) (hmh : mid≤hi) :
 RowsN w lo hi (N+1) (fun i=>if i < N then f i else x) (fun i=>if i < N then L i else r):=by
 refine ⟨fun i hi=> ?_,fun i j hi hj hij b=> ?_⟩
 ·by_cases e : i < N
  ·simp only [e,if_true];exact (h.1 i e).mono (Nat.le_refl _) hmh
  ·simp only [e,if_false];exact hx.mono hm (Nat.le_refl _)
 ·by_cases e : i < N
  ·by_cases e2 : j < N
   ·simp only [e,e2,if_true]
    exact h.2 i j e e2 hij b
   ·simp only [e,e2,if_true,if_false]
    intro hb hb2
    have:=OwnF.blocks (h.1 i e).fn b hb
    have:=OwnF.blocks hx.fn b hb2
    omega
  ·by_cases e2 : j < N
   ·simp only [e,e2,if_true,if_false]
    intro hb hb2
    have:=OwnF.blocks (h.1 j e2).fn b hb2
    have:=OwnF.blocks hx.fn b hb
    omega
   ·omega
theorem RowsN.join {w : World} {lo mid hi N M : Nat} {f g : Nat→Value} {L K : Nat→List Int} (h : RowsN w lo mid N f L) (hx : RowsN w mid hi M g K) (hm : lo≤mid) (hmh : mid≤hi) :
 RowsN w lo hi (N+M) (fun i=>if i < N then f i else g (i - N)) (fun i=>if i < N then L i else K (i - N)):=by
 refine ⟨fun i hi=> ?_,fun i j hi hj hij b=> ?_⟩
 ·by_cases e : i < N
  ·simp only [e,if_true];exact (h.1 i e).mono (Nat.le_refl _) hmh
  ·simp only [e,if_false];exact (hx.1 _ (by omega)).mono hm (Nat.le_refl _)
 ·by_cases e : i < N
  ·by_cases e2 : j < N
   ·simp only [e,e2,if_true]
    exact h.2 i j e e2 hij b
   ·simp only [e,e2,if_true,if_false]
    intro hb hb2
    have:=OwnF.blocks (h.1 i e).fn b hb
    have:=OwnF.blocks (hx.1 (j - N) (by omega)).fn b hb2
    omega
  ·by_cases e2 : j < N
   ·simp only [e,e2,if_true,if_false]
    intro hb hb2
    have:=OwnF.blocks (h.1 j e2).fn b hb2
    have:=OwnF.blocks (hx.1 (i - N) (by omega)).fn b hb
    omega
   ·simp only [e,e2,if_false]
    exact hx.2 _ _ (by omega) (by omega) (by omega) b
theorem OwnII.rowsN {w : World} {lo hi : Nat} {v : Value} {rows : List (List Int)} (h : OwnII 24 3 w lo hi v rows) : ∃ f,OwnF w lo hi 24 v rows.length f∧RowsN w lo hi rows.length f fun i=>rows.getD i []:=by
 obtain ⟨f,h1,h2,h3⟩:=h
 refine ⟨f,h1,h2,fun i j hi hj hij b hb hb2=> ?_⟩
 rcases Nat.lt_or_gt_of_ne hij with e | e
 ·exact h3 i j e hj b hb hb2
 ·exact h3 j i e hi b hb2 hb
theorem RowsN.rd {w : World} {lo hi lo' hi' : Nat} {v : Value} {rows : List (List Int)} {f : Nat→Value} {L : Nat→List Int} (h : RowsN w lo hi rows.length f L) (hv : OwnE w lo' hi' 24 v rows.length f) (hL : ∀ i,i < rows.length→L i=rows.getD i []) : RdII w v rows:=by
 refine ⟨f,?_,fun i hi=>by rw [← hL i hi];exact (h.1 i hi).ints⟩
 rcases hv with ⟨e,p,rfl⟩ | hv
 ·rw [e]
  exact ⟨p,0,rfl,⟨Nat.le_refl _,Nat.zero_le _⟩,fun h=>absurd h (Nat.lt_irrefl _)⟩
 ·exact hv.rd
theorem OwnE.keepB {w w' : World} {lo hi n B : Nat} {T : TypeId} {v : Value} {f : Nat→Value} (h : OwnE w lo hi T v n f) (hb : Below B w w') (hh : hi≤B) : OwnE w' lo hi T v n f:=by
 rcases h with h | h
 ·exact .inl h
 ·exact .inr (h.keep fun k _ h2 _=>hb.block k (by omega))
theorem RowsN.keepB {w w' : World} {lo hi N B : Nat} {f : Nat→Value} {L : Nat→List Int} (h : RowsN w lo hi N f L) (hb : Below B w w') (hh : hi≤B) : RowsN w' lo hi N f L :=
 ⟨fun i hi=>Own.keep (h.1 i hi) fun k _ h2 _=>hb.block k (by omega),h.2⟩
def OwnE2 (w : World) (lo hi : Nat) (T : TypeId) (v : Value) (n : Nat) (f : Nat→Value) (t : Value) : Prop:=(n=0 ∧ ∃ p,v=.slice p 0 0) ∨ (OwnF w lo hi T v n f ∧ ∀ b,v.ownBlock=some b→t.ownBlock ≠ some b)
def Lot (w : World) (lo : Nat) (s t : Value) (ra rb k : Nat) (fB : Nat→Value) (L : Nat→List Int) : Prop :=
 ∃ fo,OwnE2 w lo w.heap.size 24 s (ra+k) fo t∧RowsN w lo w.heap.size (ra+rb) fo L∧OwnF w lo w.heap.size 24 t rb fB ∧ ∀ i,k≤i→i < rb→fo (ra+i)=fB i
theorem Lot.row {w : World} {lo ra rb k : Nat} {s t : Value} {fB : Nat→Value} {L : Nat→List Int} (h : Lot w lo s t ra rb k fB L) (hk : k < rb) : OwnI 3 w lo w.heap.size (fB k) (L (ra+k)):=by
 obtain ⟨fo,_,h2,_,h4⟩:=h
 rw [← h4 k (Nat.le_refl _) hk]
 exact h2.1 _ (by omega)
theorem Lot.start {wr w9 : World} {lo ra : Nat} {s t : Value} {fo : Nat→Value} {LA : Nat→List Int} {rows : List (List Int)} (hlo : lo≤wr.heap.size) (hE : OwnE wr lo wr.heap.size 24 s ra fo) (hN : RowsN wr lo wr.heap.size ra fo LA)
 (hb : Below wr.heap.size wr w9) (hB : OwnII 24 3 w9 wr.heap.size w9.heap.size t rows) :
 ∃ fB,Lot w9 lo s t ra rows.length 0 fB (fun i=>if i < ra then LA i else rows.getD (i - ra) []):=by
 obtain ⟨fB,hB1,hB2⟩:=hB.rowsN
 have hs:=hb.size
 refine ⟨fB,fun i=>if i < ra then fo i else fB (i - ra),?_,(hN.keepB hb (Nat.le_refl _)).join hB2 hlo hs,hB1.mono hlo (Nat.le_refl _),fun i _ hi=> ?_⟩
 ·rcases hE with hE | hE
  ·exact .inl hE
  ·refine .inr ⟨((hE.keep fun k _ h2 _=>hb.block k h2).mono (Nat.le_refl _) hs).congr fun j hj=> ?_,fun b h1 h2=> ?_⟩
   ·simp only [show j < ra by omega,if_true]
   ·have:=hE.blocks b h1
    have:=hB1.blocks b h2
    omega
 ·simp only [show ¬ ra+i < ra by omega,if_false]
  congr 1;omega
theorem Lot.rd {w : World} {lo ra rb : Nat} {s t : Value} {fB : Nat→Value} {L : Nat→List Int} {rows : List (List Int)} (h : Lot w lo s t ra rb rb fB L) (hl : rows.length=ra+rb) (hL : ∀ i,i < ra+rb→L i=rows.getD i []) : RdII w s rows:=by
 obtain ⟨fo,h1,h2,_,_⟩:=h
 rw [← hl] at h1 h2 hL
 refine h2.rd (lo':=lo) (hi':=w.heap.size) ?_ hL
 rcases h1 with h1 | ⟨h1,_⟩
 ·exact .inl h1
 ·exact .inr h1
def strOk (s : List Int) : Bool:=decide (1≤s.length∧s.length≤7 ∧ ∀ x ∈ s,x=0 ∨ x=1)
theorem isSize_any (n : Int) (w : World) :
 Calls Tryz.prog 80 #[.int .i64 n] w fun e w'=>e=.returned (.bool (decide (1≤n∧n≤7)))∧w=w':=by
 go_enter Tryz.func80,Tryz.ntmps80
 by_cases h1 : 1≤n
 ·by_cases h2 : n≤7
  ·go_wp2
   go_ret
   exact ⟨ret_bool (by simp [h1,h2]),rfl⟩
  ·go_wp2
   go_ret
   exact ⟨ret_bool (by simp [h1,h2]),rfl⟩
 ·go_wp2
  go_ret
  exact ⟨ret_bool (by simp;omega),rfl⟩
theorem strOk_take {s : List Int} (h : ∀ k,k < s.length→s.getD k 0=0 ∨ s.getD k 0=1) : ∀ x ∈ s,x=0 ∨ x=1:=by
 intro x hx
 obtain ⟨k,hk,rfl⟩:=List.getElem_of_mem hx
 have:=h k hk
 simpa [List.getD_eq_getElem?_getD,hk] using this
theorem strOk_bad {s : List Int} {k : Nat} (hk : k < s.length) (h0 : ¬ s.getD k 0=0) (h1 : ¬ s.getD k 0=1) : strOk s=false:=by
 unfold strOk
 refine decide_eq_false ?_
 rintro ⟨_,_,h⟩
 have:=h (s.getD k 0) (getD_mem hk)
 omega
theorem implIsString_any (v : Value) (s : List Int) (w : World) (h : Ints w v s) :
 Calls Tryz.prog 59 #[v] w fun e w'=>e=.returned (.bool (strOk s))∧w=w':=by
 obtain ⟨p,cap,rfl,⟨hx1,hx⟩,hxc⟩:=h
 unfold maxLen at hx
 have Hxc:=Lib.hid hxc
 clear hxc
 go_enter Tryz.func59,Tryz.ntmps59
 go_wp2
 go_loop [7] (fun s7=> ∃ k : Nat,k≤s.length∧s7=.int .i64 k∧Hid (∀ j,j < k→s.getD j 0=0 ∨ s.getD j 0=1)) (fun s7=>s.length - (intOf s7).toNat)
 case atStart=>exact ⟨0,Nat.zero_le _,rfl,fun j hj=>absurd hj (Nat.not_lt_zero _)⟩
 case round =>
  obtain ⟨k,hk,rfl,hok⟩:=hrel
  by_cases hlt : k < s.length
  ·have hlt2 : (k : Int) < (s.length : Int):=by omega
   obtain ⟨b,off,rfl,hc⟩:=Hxc.out (by omega)
   have c1:=hc k hlt
   unfold iv at c1
   obtain ⟨x,hx'⟩ : ∃ x,x=s.getD k 0:=⟨_,rfl⟩
   rw [← hx'] at c1
   have Hx:=Lib.hid hx'
   clear hx' hc
   by_cases e0 : x=0
   ·subst e0
    go_wp2
    go_round
    case rel =>
     refine ⟨k+1,by omega,by go_num,fun j hj=> ?_⟩
     by_cases e : j=k
     ·subst e;exact Or.inl Hx.out.symm
     ·exact hok.out j (by omega)
    case measure=>simp [intOf];omega
   ·by_cases e1 : x=1
    ·subst e1
     go_wp2
     go_round
     case rel =>
      refine ⟨k+1,by omega,by go_num,fun j hj=> ?_⟩
      by_cases e : j=k
      ·subst e;exact Or.inr Hx.out.symm
      ·exact hok.out j (by omega)
     case measure=>simp [intOf];omega
    ·have hz : (x != 0)=true:=by simp [e0]
     have hz1 : (x != 1)=true:=by simp [e1]
     have hbad:=Lib.hid (strOk_bad hlt (by rw [← Hx.out];exact e0) (by rw [← Hx.out];exact e1))
     go_wp2
     go_ret
     exact ⟨ret_bool hbad.out.symm,rfl⟩
  ·obtain rfl : k=s.length:=by omega
   have hlt2 : ¬ (s.length : Int) < (s.length : Int):=by omega
   have He:=Lib.hid (show decide (1≤(s.length : Int)∧(s.length : Int)≤7)=strOk s by
    unfold strOk
    have:=strOk_take hok.out
    by_cases h1 : 1≤s.length∧s.length≤7
    ·rw [decide_eq_true (by omega),decide_eq_true ⟨h1.1,h1.2,this⟩]
    ·rw [decide_eq_false (by omega),decide_eq_false (by intro h;exact h1 ⟨h.1,h.2.1⟩)])
   go_wp2_with fail
   refine (isSize_any _ _).mono ?_
   rintro e w' ⟨rfl,rfl⟩
   rw [He.out]
   go_wp2_with fail
   go_ret
   exact ⟨rfl,rfl⟩
theorem implIsString_b (v : Value) (s : List Int) (b : Bool) (hb : strOk s=b) (w : World) (h : Ints w v s) :
 Calls Tryz.prog 59 #[v] w fun e w'=>e=.returned (.bool b)∧w=w':=hb ▸ implIsString_any v s w h
def shN (xs : List Int) : Nat→Nat
 | 0=>0
 | n+1=>if xs.getD n 0=0 then shN xs n else n+1
theorem shN_le (xs : List Int) : ∀ n,shN xs n≤n
 | 0=>Nat.le_refl _
 | n+1=>by
   rw [shN]
   split
   ·exact Nat.le_succ_of_le (shN_le xs n)
   ·exact Nat.le_refl _
def shL (xs : List Int) : List Int:=xs.take (shN xs xs.length)
theorem OwnF.made1 (w : World) (T : TypeId) (x : Value) : OwnF (w.alloc (.cells #[x] T)) w.heap.size (w.heap.size+1) T (.slice (some ⟨w.heap.size,0,none⟩) 1 1) 1 (fun _=>x) :=
 OwnF.mk' ⟨#[x],heap_alloc_top _ _,rfl,fun j hj=>by obtain rfl : j=0:=by omega
                                                    rfl⟩ (Nat.le_refl _) (Nat.lt_succ_self _) (Nat.le_refl _) (by unfold maxLen;omega) fun _ _=>rfl
theorem shortened_any (v : Value) (xs : List Int) (w : World) (h : Ints w v xs) :
 Calls Tryz.prog 82 #[v] w fun e w'=> ∃ u,e=.returned u∧Ints w' u (shL xs)∧Qt w w':=by
 have Hh:=Lib.hid h
 obtain ⟨p,cap,rfl,⟨hx1,hx2⟩,hxc⟩:=h
 unfold maxLen at hx2
 go_enter Tryz.func82,Tryz.ntmps82
 go_wp2_with fail
 go_loopg [3] (xs.length+1) (fun g s3 wr=> ∃ k : Nat,k≤xs.length∧g=k+1∧s3=.int .i64 k∧Qt w wr∧Hid (shN xs xs.length=shN xs k))
 case atStart=>exact ⟨xs.length,Nat.le_refl _,rfl,rfl,Qt.refl _,Lib.hid rfl⟩
 case round =>
  obtain ⟨k,hk,rfl,rfl,hq,hp⟩:=hrel
  by_cases h0 : k=0
  ·subst h0
   go_wp2_with fail
   go_ret
   refine ⟨_,rfl,?_,hq⟩
   have:=ints_takeP Hh.out (i:=0) (Nat.zero_le _)
   unfold shL
   rw [hp.out]
   exact this.qt hq
  ·obtain ⟨m,rfl⟩ : ∃ m,k=m+1:=⟨k - 1,by omega⟩
   obtain ⟨b,off,rfl,hc⟩:=hxc (by omega)
   obtain ⟨x,hx⟩ : ∃ x,x=xs.getD m 0:=⟨_,rfl⟩
   have c1:=hq.cell (hc m (by omega))
   unfold iv at c1
   rw [← hx] at c1
   have Hx:=Lib.hid hx
   have hm1 : (0 : Int) < ((m+1 : Nat) : Int):=by omega
   have hm2 : ((m+1 : Nat) : Int) - 1=(m : Int):=by omega
   have hm3 : (m : Int) < (xs.length : Int):=by omega
   have hm4 : ((m+1 : Nat) : Int)≤(cap : Int):=by omega
   have HN:=Lib.hid (show shN xs (m+1)=if xs.getD m 0=0 then shN xs m else m+1 from rfl)
   clear hx hc hxc h0
   by_cases hx0 : x=0
   ·go_wp2_with fail
    go_roundg (m+1)
    case measure=>omega
    case rel=>exact ⟨m,by omega,rfl,by go_num,hq,Lib.hid (by rw [hp.out,HN.out,if_pos (by rw [← Hx.out];exact hx0)])⟩
   ·go_wp2_with fail
    go_ret
    refine ⟨_,rfl,?_,hq⟩
    have:=ints_takeP Hh.out (i:=m+1) hk
    unfold shL
    rw [hp.out,HN.out,if_neg (by rw [← Hx.out];exact hx0)]
    exact this.qt hq
theorem shapeOfRows_any (v : Value) (xs : List Int) (w : World) (h : Ints w v xs) :
 Calls Tryz.prog 46 #[v] w fun e w'=> ∃ u,e=.returned u∧Ints w' u (shL xs)∧Qt w w':=by
 have Hh:=Lib.hid h
 obtain ⟨p,cap,rfl,⟨hx1,hx2⟩,hxc⟩:=h
 clear hxc
 go_enter Tryz.func46,Tryz.ntmps46
 go_wp2_with fail
 refine (shortened_any _ xs _ Hh.out).mono ?_
 rintro e w1 ⟨u,rfl,hi,hq⟩
 have Hi:=Lib.hid hi
 obtain ⟨p1,c1,rfl,_,_⟩:=hi
 go_wp2_with fail
 go_ret
 exact ⟨_,rfl,Hi.out,hq⟩
def ssZ (t : List Int) : Nat→Nat
 | 0=>0
 | i+1=>if t.getD i 0=0 then ssZ t i+1 else ssZ t i
def ssR (t : List Int) : Nat→List Int
 | 0=>[]
 | i+1=>if t.getD i 0=0 then ssR t i else (ssZ t i : Int) :: ssR t i
theorem ssZ_le (t : List Int) : ∀ i,ssZ t i≤i
 | 0=>Nat.le_refl _
 | i+1=>by
   have:=ssZ_le t i
   rw [ssZ]
   split <;> omega
theorem ssR_len (t : List Int) : ∀ i,(ssR t i).length≤i
 | 0=>Nat.le_refl _
 | i+1=>by
   have:=ssR_len t i
   rw [ssR]
   split
   ·omega
   ·rw [List.length_cons];omega
theorem OwnI.cons1 {T : TypeId} {w : World} {lo hi n : Nat} {v : Value} {out : List Int} {x : Int} (hn : n=out.length) (h : OwnF w lo hi T v (1+n) (fun j=>if j < 1 then .int .i64 x else iv out (j - 1))) : OwnI T w lo hi v (x :: out):=by
 subst hn
 refine OwnF.ints ?_
 rw [List.length_cons,Nat.add_comm]
 refine h.congr fun j hj=> ?_
 by_cases e : j=0
 ·subst e;rfl
 ·rw [if_neg (by omega)]
  obtain ⟨i,rfl⟩ : ∃ i,j=i+1:=⟨j - 1,by omega⟩
  rfl
theorem ShapeOfString_any (v : Value) (t : List Int) (w : World) (h : Ints w v t) (ht : strOk t=true) :
 Calls Tryz.prog 29 #[v] w fun e w'=> ∃ u,e=.returned (.tuple #[u,.int .i64 ((ssR t t.length).length : Int),.bool true])∧Ints w' u (shL (ssR t t.length))∧Below w.heap.size w w':=by
 have Hh:=Lib.hid h
 have Ht:=Lib.hid ht
 have h7 : t.length≤7:=by
  unfold strOk at ht
  exact (of_decide_eq_true ht).2.1
 clear ht
 obtain ⟨p,cap,rfl,⟨hx1,hx2⟩,hxc⟩:=h
 unfold maxLen at hx2
 go_enter Tryz.func29,Tryz.ntmps29
 go_wp2_with fail
 refine (implIsString_b _ t true Ht.out _ Hh.out).mono ?_
 rintro e w1 ⟨rfl,rfl⟩
 go_wp2_with fail
 go_loopg [5,6,8,15] t.length (fun g s5 s6 s8 i wr=> ∃ k : Nat,k≤t.length∧g=t.length - k∧i=.int .i64 k∧s6=.int .i64 (ssZ t k : Nat)∧Hid (OwnI 3 wr w.heap.size wr.heap.size s5 (ssR t k))∧Hid (Below w.heap.size w wr))
 case atStart=>exact ⟨0,Nat.zero_le _,rfl,rfl,rfl,Lib.hid (OwnF.ints ((OwnF.made0 w 3 (iv [])).mono (Nat.le_refl _) (by simp))),Lib.hid (below_alloc _ _)⟩
 case round =>
  obtain ⟨k,hk,rfl,rfl,rfl,ho,hb⟩:=hrel
  have hsr:=hb.out.size
  by_cases hlt : k < t.length
  ·have hlt2 : (k : Int) < (t.length : Int):=by omega
   obtain ⟨b,off,rfl,hc⟩:=hxc (by omega)
   obtain ⟨x,hx⟩ : ∃ x,x=t.getD k 0:=⟨_,rfl⟩
   have c0:=hc k hlt
   unfold iv at c0
   rw [← hx] at c0
   have c1:=cell_below hb.out c0
   have HX:=Lib.hid hx
   obtain ⟨z,hz⟩ : ∃ z,z=ssZ t k:=⟨_,rfl⟩
   have hz7 : z≤7:=by rw [hz];exact Nat.le_trans (ssZ_le t k) (by omega)
   have HZ:=Lib.hid hz
   rw [← hz]
   obtain ⟨q5,k5,rfl,_,_⟩:=ho.out.shape
   clear hx hc hxc hz c0
   by_cases hx0 : x=0
   ·have Hn1:=Lib.hid (show ssZ t (k+1)=z+1 by rw [ssZ,if_pos (by rw [← HX.out];exact hx0),HZ.out])
    have Hn2:=Lib.hid (show ssR t (k+1)=ssR t k by rw [ssR,if_pos (by rw [← HX.out];exact hx0)])
    go_wp2_with fail
    go_roundg (t.length - (k+1))
    case measure=>omega
    case rel=>exact ⟨k+1,by omega,rfl,by go_num,by rw [Hn1.out];go_num,by rw [Hn2.out];exact ho,hb⟩
   ·have Hn1:=Lib.hid (show ssZ t (k+1)=z by rw [ssZ,if_neg (by rw [← HX.out];exact hx0),HZ.out])
    have Hn2:=Lib.hid (show ssR t (k+1)=(z : Int) :: ssR t k by rw [ssR,if_neg (by rw [← HX.out];exact hx0),HZ.out])
    obtain ⟨L,hL⟩ : ∃ L,L=ssR t k:=⟨_,rfl⟩
    have hL7 : L.length≤7:=by rw [hL];exact Nat.le_trans (ssR_len t k) (by omega)
    rw [← hL] at ho Hn2 ⊢
    obtain ⟨n,hn⟩ : ∃ n,n=L.length:=⟨_,rfl⟩
    have Hrd:=Lib.hid (show Rd wr (.slice q5 n k5) n (iv L) by rw [hn];exact ho.out.ints)
    have Hn:=Lib.hid hn
    rw [← hn] at hL7 ho ⊢
    have Hb1:=Lib.hid (show 1+n≤maxLen by unfold maxLen;omega)
    have Hb2:=Lib.hid (show (1+n) * 8≤140737488355328 by omega)
    clear hL hn
    go_wp2_with (at_builtin;go_must (refine wpList_append_F rfl (.tmp 24) (.tmp 25) 24 rfl 3 (.int .i64 0) 8 Tryz.underlying24 info_int rfl wr.heap.size (wr.heap.size+1) _ 1 (fun _=>.int .i64 (z : Int)) rfl (OwnF.made1 wr 3 _) (by rw [size_alloc];omega) (by rw [size_alloc];omega) _ n (iv L) rfl (Hrd.out.below (below_alloc wr _)) (fun j _=>rfl) Hb1.out Hb2.out ?_;intro v2 w2 ho2 hg2))
    go_roundg (t.length - (k+1))
    case measure=>omega
    case rel =>
     have hbx : Below wr.heap.size wr w2:=(below_alloc wr _).trans (grownBy_below hg2 (OwnF.made1 wr 3 (.int .i64 (z : Int))).blocks (Nat.le_refl _) (by rw [size_alloc];omega))
     exact ⟨k+1,by omega,rfl,by go_num,by rw [Hn1.out],by rw [Hn2.out];exact Lib.hid ((OwnI.cons1 Hn.out ho2).mono hsr (Nat.le_refl _)),Lib.hid (hb.out.trans (hbx.mono hsr))⟩
  ·obtain rfl : k=t.length:=by omega
   have hlt2 : ¬ (t.length : Int) < (t.length : Int):=by omega
   have hl7 : (ssR t t.length).length≤7:=Nat.le_trans (ssR_len t _) h7
   obtain ⟨L,hL⟩ : ∃ L,L=ssR t t.length:=⟨_,rfl⟩
   rw [← hL] at ho hl7
   have HL:=Lib.hid hL
   have Hoi:=Lib.hid ho.out.ints
   obtain ⟨q5,k5,rfl,_,_⟩:=ho.out.shape
   clear ho hL hxc
   go_wp2_with fail
   refine (shapeOfRows_any _ L _ Hoi.out).mono ?_
   rintro e w2 ⟨u,rfl,hi,hq⟩
   have Hi:=Lib.hid hi
   obtain ⟨p1,c1,rfl,_,_⟩:=hi
   go_wp2_with fail
   refine bodyPost_ret (v:=.tuple #[.slice p1 (shL L).length c1,.int .i64 (L.length : Int),.bool true]) (by simp [results,Tryz.results29,go_sem]) rfl ?_
   rw [← HL.out]
   exact ⟨_,rfl,Hi.out,hb.out.trans (hq.below _)⟩
def duR (xs : List Int) (r c : Nat) : List Int:=(List.range r).map fun b=>(c : Int) - (r : Int) - xs.getD (r - 1 - b) 0
theorem duR_length (xs : List Int) (r c : Nat) : (duR xs r c).length=r:=by simp [duR]
theorem duR_getD {xs : List Int} {r c b : Nat} (h : b < r) : (duR xs r c).getD b 0=(c : Int) - (r : Int) - xs.getD (r - 1 - b) 0:=by simp [duR,List.getD_eq_getElem?_getD,h]
def duP (xs : List Int) (r c k : Nat) : List Int:=(duR xs r c).take k
theorem duP_length {xs : List Int} {r c k : Nat} (h : k≤r) : (duP xs r c k).length=k:=by simp [duP,duR_length];omega
theorem duP_succ {xs : List Int} {r c k : Nat} (h : k < r) : duP xs r c (k+1)=duP xs r c k ++ [(c : Int) - (r : Int) - xs.getD (r - 1 - k) 0]:=by
 have hk : k < (duR xs r c).length:=by rw [duR_length];exact h
 unfold duP
 rw [List.take_succ,List.getElem?_eq_getElem hk,Option.toList,← getD_lt hk,duR_getD h]
theorem rowOf_s2 (v : Value) (xs : List Int) (i : Nat) (s : Int) (hs : s=xs.getD i 0) (hi : i≤1000000) (w : World) (h : Ints w v xs) :
 Calls Tryz.prog 34 #[v,.int .i64 (i : Int)] w fun e w'=>e=.returned (.int .i64 s)∧Qt w w':=by
 rw [hs]
 exact rowOf_any v xs i w h hi
theorem DualShape_any (v : Value) (xs : List Int) (r c : Nat) (w : World) (h : Ints w v xs) (hx : bxOk xs r c=true) (hrc : r≤c) (hc0 : 1≤c) (hc7 : c≤7) (hr : ∀ i,i < r→0≤xs.getD i 0∧xs.getD i 0≤(c : Int) - (r : Int)) :
 Calls Tryz.prog 17 #[v,.int .i64 (r : Int),.int .i64 (c : Int)] w fun e w'=> ∃ u,e=.returned u∧Ints w' u (shL (duR xs r c))∧Below w.heap.size w w':=by
 have Hh:=Lib.hid h
 have Hx:=Lib.hid hx
 clear hx
 obtain ⟨p,cap,rfl,⟨hx1,hx2⟩,hxc⟩:=h
 unfold maxLen at hx2
 clear hxc
 go_enter Tryz.func17,Tryz.ntmps17
 go_wp2_with fail
 refine (IsInBox_any _ xs r c _ (Hh.out.below (below_alloc w _)) hrc hc0 hc7).mono ?_
 rintro e w1 ⟨rfl,hq1⟩
 rw [Hx.out]
 have HB1:=Lib.hid ((below_alloc w (.cells #[] 3)).trans (hq1.below _))
 have HO1:=Lib.hid (show OwnI 3 w1 w.heap.size w1.heap.size (.slice (some ⟨w.heap.size,0,none⟩) 0 0) [] from ((OwnF.ints (xs:=[]) (OwnF.made0 w 3 (iv []))).below (hq1.below _)).mono (Nat.le_refl _) (by rw [hq1.size];simp))
 clear hq1
 go_wp2_with fail
 go_loopg [7,8] (r+1) (fun g s7 s8 wr=> ∃ k : Nat,k≤r∧g=r - k+1∧s8=.int .i64 ((r : Int) - 1 - (k : Int))∧Hid (OwnI 3 wr w.heap.size wr.heap.size s7 (duP xs r c k))∧Hid (Below w.heap.size w wr))
 case atStart=>exact ⟨0,Nat.zero_le _,rfl,by go_num,HO1,HB1⟩
 case round =>
  obtain ⟨k,hk,rfl,rfl,ho,hb⟩:=hrel
  have hsr:=hb.out.size
  by_cases hlt : k < r
  ·obtain ⟨m,hm⟩ : ∃ m,m=r - 1 - k:=⟨_,rfl⟩
   have hmi : (r : Int) - 1 - (k : Int)=(m : Int):=by omega
   rw [hmi]
   have hm0 : (0 : Int)≤(m : Int):=by omega
   obtain ⟨s,hs⟩ : ∃ s,s=xs.getD m 0:=⟨_,rfl⟩
   have hs1:=hr m (by omega)
   rw [← hs] at hs1
   have Hs:=Lib.hid hs
   have Hn:=Lib.hid (show duP xs r c (k+1)=duP xs r c k ++ [(c : Int) - (r : Int) - s] by rw [duP_succ hlt,hs,hm])
   obtain ⟨q7,k7,e7,_,_⟩:=ho.out.shape
   rw [duP_length hk] at e7
   subst e7
   have hofn:=ho.out.fn
   rw [duP_length hk] at hofn
   have Ho:=Lib.hid hofn
   have Hm:=Lib.hid hm
   have Hmi:=Lib.hid hmi
   have Hb1:=Lib.hid (show k+1≤maxLen by unfold maxLen;omega)
   have Hb2:=Lib.hid (show (k+1) * 8≤140737488355328 by omega)
   clear hs hm hmi ho hofn
   go_wp2_with fail
   refine (rowOf_s2 _ xs m s Hs.out (by have:=Hm.out;omega) _ (Hh.out.below hb.out)).mono ?_
   rintro e w2 ⟨rfl,hq⟩
   have HQ:=Lib.hid hq
   have hsq:=hq.size
   clear hq
   go_wp2_with (at_builtin;go_must (refine wpList_append_F rfl (.tmp 22) (.tmp 30) 24 rfl 3 (.int .i64 0) 8 Tryz.underlying24 info_int rfl w.heap.size wr.heap.size _ k (iv (duP xs r c k)) rfl ((Ho.out.below (HQ.out.below _)).below (below_alloc _ _)) (by rw [size_alloc];omega) (by rw [size_alloc];omega) _ 1 _ rfl (rd_one _ _ _ HQ.out.size.symm) (fun j _=>rfl) Hb1.out Hb2.out ?_;intro v2 w3 ho2 hg2))
   go_roundg (r - (k+1)+1)
   case measure=>omega
   case rel =>
    have hbx : Below w.heap.size wr w3:=((HQ.out.below _).trans ((below_alloc w2 _).mono (by omega))).trans (grownBy_below hg2 Ho.out.blocks (Nat.le_refl _) (by rw [size_alloc];omega))
    refine ⟨k+1,by omega,rfl,?_,?_,Lib.hid (hb.out.trans hbx)⟩
    ·have:=Hmi.out
     exact congrArg (Value.int .i64) ((w64 (n:=(m : Int) - 1) (by omega) (by omega)).trans (by omega))
    ·rw [Hn.out]
     exact Lib.hid (OwnI.snoc1 (by rw [duP_length hk];exact ho2))
  ·obtain rfl : k=r:=by omega
   have hm0 : ¬ (0 : Int)≤(k : Int) - 1 - (k : Int):=by omega
   have hoi:=ho.out.ints
   obtain ⟨q7,k7,e7,_,_⟩:=ho.out.shape
   rw [duP_length hk] at e7
   subst e7
   rw [show duP xs k c k=duR xs k c by unfold duP;exact List.take_of_length_le (by rw [duR_length];exact Nat.le_refl _)] at hoi
   have Hoi:=Lib.hid hoi
   clear ho hoi
   go_wp2_with fail
   refine (shapeOfRows_any _ (duR xs k c) _ Hoi.out).mono ?_
   rintro e w2 ⟨u,rfl,hi,hq⟩
   have Hi:=Lib.hid hi
   obtain ⟨p1,c1,rfl,_,_⟩:=hi
   go_wp2_with fail
   go_ret
   exact ⟨_,rfl,Hi.out,hb.out.trans (hq.below _)⟩
def ishs : Nat→Nat→List (List Int)
 | 0,_=>[[]]
 | r+1,m=>[] :: (List.range m).flatMap fun (n : Nat)=>(ishs r (n+1)).map fun l=>((n : Int)+1) :: l
theorem ishs_len : ∀ (r m : Nat),(ishs r m).length≤(m+1) ^ r
 | 0,m=>by simp [ishs]
 | r+1,m=>by
   rw [ishs,List.length_cons]
   have a : ∀ k,k≤m→((List.range k).flatMap fun (n : Nat)=>(ishs r (n+1)).map fun l=>((n : Int)+1) :: l).length≤k * (m+1) ^ r:=by
    intro k
    induction k with
    | zero=>intro _;simp
    | succ k ih =>
      intro hk
      rw [flatMap_snoc,List.length_append,Nat.succ_mul,List.length_map]
      have a:=ih (by omega)
      have b:=ishs_len r (k+1)
      have c : (k+1+1) ^ r≤(m+1) ^ r:=Nat.pow_le_pow_left (by omega) r
      omega
   have a:=a m (Nat.le_refl m)
   have b : 1≤(m+1) ^ r:=Nat.one_le_pow _ _ (by omega)
   rw [Nat.pow_succ,Nat.mul_add]
   rw [Nat.mul_comm ((m+1) ^ r) m]
   omega
theorem ishs_len' (r m k : Nat) (hk : k≤m) : ((List.range k).flatMap fun (n : Nat)=>(ishs r (n+1)).map fun l=>((n : Int)+1) :: l).length≤k * (m+1) ^ r:=by
 induction k with
 | zero=>simp
 | succ k ih =>
   rw [flatMap_snoc,List.length_append,Nat.succ_mul,List.length_map]
   have a:=ih (by omega)
   have b:=ishs_len r (k+1)
   have c : (k+1+1) ^ r≤(m+1) ^ r:=Nat.pow_le_pow_left (by omega) r
   omega
theorem ishs_short : ∀ (r m : Nat),∀ l ∈ ishs r m,l.length≤r
 | 0,m,l,h=>by simp [ishs] at h;simp [h]
 | r+1,m,l,h=>by
   rw [ishs,List.mem_cons] at h
   rcases h with rfl | h
   ·simp
   ·obtain ⟨n,_,h⟩:=List.mem_flatMap.1 h
    obtain ⟨l',h',rfl⟩:=List.mem_map.1 h
    have:=ishs_short r (n+1) l' h'
    simp;omega
theorem take_snoc_map {α β : Type} (g : α→β) (L : List α) {j : Nat} (h : j < L.length) : (L.take (j+1)).map g=(L.take j).map g ++ [g L[j]]:=by
 rw [List.take_succ,List.getElem?_eq_getElem h,List.map_append]
 rfl
theorem made_nil1 (w : World) : OwnII 24 3 ((w.alloc (.cells #[] 3)).alloc (.cells #[.slice (some ⟨w.heap.size,0,none⟩) 0 0] 24)) w.heap.size (w.heap.size+1+1) (.slice (some ⟨w.heap.size+1,0,none⟩) 1 1) [[]]:=by
 refine ⟨fun _=>.slice (some ⟨w.heap.size,0,none⟩) 0 0,?_,fun i hi=> ?_,fun i j hij hj=> ?_⟩
 ·have:=(OwnF.made1 (w.alloc (.cells #[] 3)) 24 (.slice (some ⟨w.heap.size,0,none⟩) 0 0)).mono (lo':=w.heap.size) (hi':=w.heap.size+1+1) (by simp) (by simp)
  rw [size_alloc] at this
  exact this
 ·obtain rfl : i=0:=by simpa using hi
  exact ((OwnF.ints (xs:=[]) (OwnF.made0 w 3 (iv []))).below (below_alloc _ _)).mono (Nat.le_refl _) (by omega)
 ·have : j=0:=by simpa using hj
  omega
theorem shapesIn_go (r : Nat) : ∀ (R M : Int) (m : Nat) (w : World),R=(r : Int)→M=(m : Int)→m≤100→r≤50→(m+1) ^ r≤1000000 →
 Calls Tryz.prog 38 #[.int .i64 R,.int .i64 M] w (RetII w (ishs r m)):=by
 induction r with
 | zero =>
   intro R M m w hR hM h1 h2 h3
   subst hR
   clear h3
   have HM:=Lib.hid (made_nil1 w)
   have HB:=Lib.hid (below_alloc2 w (.cells #[] 3) (.cells #[.slice (some ⟨w.heap.size,0,none⟩) 0 0] 24))
   go_enter Tryz.func38,Tryz.ntmps38
   go_wp2_with fail
   go_loopg [5,6,8] 0 (fun g s5 s6 s8 wr=>Hid (OwnII 24 3 wr w.heap.size wr.heap.size s5 [[]])∧Hid (Below w.heap.size w wr))
   case atStart=>exact ⟨by have:=HM.out.mono (hi':=((w.alloc (.cells #[] 3)).alloc (.cells #[.slice (some ⟨w.heap.size,0,none⟩) 0 0] 24)).heap.size) (Nat.le_refl _) (by simp);exact Lib.hid this,HB⟩
   case round =>
    obtain ⟨ho,hb⟩:=hrel
    obtain ⟨p5,k5,rfl,_,_⟩:=ho.out.shape
    go_wp2_with fail
    go_ret
    exact ⟨_,rfl,ho.out,hb.out⟩
 | succ r ih =>
   intro R M m w hR hM h1 h2 h3
   subst hM
   obtain ⟨q,hq⟩ : ∃ q,q=(m+1) ^ r:=⟨_,rfl⟩
   rw [Nat.pow_succ,← hq,Nat.mul_comm,Nat.succ_mul] at h3
   have hp1 : 1≤q:=by rw [hq];exact Nat.one_le_pow _ _ (by omega)
   have Hq:=Lib.hid hq
   have Hmq:=Lib.hid h3
   have Ih:=Lib.hid ih
   have hR1 : 1≤R:=by omega
   have hR2 : R≤100:=by omega
   have HR:=Lib.hid hR
   have HM:=Lib.hid (made_nil1 w)
   have HB:=Lib.hid (below_alloc2 w (.cells #[] 3) (.cells #[.slice (some ⟨w.heap.size,0,none⟩) 0 0] 24))
   clear hR hq h3 ih
   go_enter Tryz.func38,Tryz.ntmps38
   go_wp2_with fail
   go_loopg [5,6,8] m (fun g s5 s6 s8 wr=> ∃ t : Nat,t≤m∧g=m - t∧s6=.int .i64 ((t : Int)+1)∧Hid (OwnII 24 3 wr w.heap.size wr.heap.size s5 ([] :: (List.range t).flatMap fun (n : Nat)=>(ishs r (n+1)).map fun l=>((n : Int)+1) :: l))∧Hid (Below w.heap.size w wr))
   case atStart=>exact ⟨0,Nat.zero_le _,rfl,by go_num,by have:=HM.out.mono (hi':=((w.alloc (.cells #[] 3)).alloc (.cells #[.slice (some ⟨w.heap.size,0,none⟩) 0 0] 24)).heap.size) (Nat.le_refl _) (by simp);exact Lib.hid this,HB⟩
   case round =>
    obtain ⟨t,ht,rfl,rfl,ho,hb⟩:=hrel
    obtain ⟨wo,rfl⟩ : ∃ x : World,x=wr:=⟨_,rfl⟩
    have hsw:=hb.out.size
    obtain ⟨L,hL⟩ : ∃ L,L=[] :: (List.range t).flatMap fun (n : Nat)=>(ishs r (n+1)).map fun l=>((n : Int)+1) :: l:=⟨_,rfl⟩
    rw [← hL] at ho
    by_cases hlt : t < m
    ·have hLn : ([] :: (List.range (t+1)).flatMap fun (n : Nat)=>(ishs r (n+1)).map fun l=>((n : Int)+1) :: l)=L ++ (ishs r (t+1)).map fun l=>((t : Int)+1) :: l:=by
      rw [flatMap_snoc,hL,List.cons_append]
     have hp : (t+1+1) ^ r≤q:=by rw [Hq.out];exact Nat.pow_le_pow_left (by omega) r
     have hLl : L.length+q≤1000000:=by
      have a:=ishs_len' r m t (by omega)
      rw [← Hq.out] at a
      have c : t * q≤(m - 1) * q:=Nat.mul_le_mul_right q (by omega)
      have d : m * q=(m - 1) * q+q:=by rw [← Nat.succ_mul];congr 1;omega
      have e:=Hmq.out
      rw [hL,List.length_cons]
      omega
     have HLn:=Lib.hid hLn
     have HLl:=Lib.hid hLl
     have Hp:=Lib.hid hp
     have Ho:=Lib.hid ho.out
     have Hb:=Lib.hid hb.out
     obtain ⟨p3,k3,rfl,_,_⟩:=ho.out.shape
     have ht1 : (t : Int)+1≤(m : Int):=by omega
     clear hL hLn hLl hp ho hb
     go_wp2_with fail
     refine (Ih.out _ _ (t+1) _ (by have:=HR.out;omega) (by omega) (by omega) (by omega) (by have:=Hp.out;have:=Hmq.out;omega)).mono ?_
     rintro e w1 ⟨u,rfl,hou,hbu⟩
     obtain ⟨N,hN⟩ : ∃ N,N=ishs r (t+1):=⟨_,rfl⟩
     have hNl : N.length≤q:=by rw [hN];exact Nat.le_trans (ishs_len r (t+1)) Hp.out
     have hNs : ∀ l ∈ N,l.length≤r:=by rw [hN];exact ishs_short r (t+1)
     rw [← hN] at hou
     have HN:=Lib.hid hN
     have HNl:=Lib.hid hNl
     have HNs:=Lib.hid hNs
     have Hbu:=Lib.hid hbu
     have hsu:=hbu.size
     obtain ⟨pu,ku,rfl,hku,hku2⟩:=hou.shape
     unfold maxLen at hku2
     obtain ⟨G,j1,j2,j3⟩:=hou
     have J1:=Lib.hid j1
     have J2:=Lib.hid j2
     have HBo:=Lib.hid (Hb.out.trans (hbu.mono hsw))
     have Hw1:=Lib.hid (show ∀ b,(Value.slice p3 L.length k3).ownBlock=some b→b < wo.heap.size ∨ w1.heap.size≤b from fun b hb=>by
      obtain ⟨F,q1,_⟩:=Ho.out
      exact .inl (q1.blocks b hb).2)
     have Ho1:=Lib.hid ((Ho.out.below hbu).mono (Nat.le_refl _) hsu)
     have hs0 : w.heap.size≤w1.heap.size:=by omega
     clear hN hNl hNs hbu j1 j2 j3 Hb Ho
     go_wp2_with fail
     go_loopg [5,8,25] N.length (fun g s5 s8 s25 wr=> ∃ j : Nat,j≤N.length∧g=N.length - j∧s25=.int .i64 j∧Hid (OwnII 24 3 wr w.heap.size wr.heap.size s5 (L ++ (N.take j).map fun l=>((t : Int)+1) :: l))∧Hid (Below w.heap.size w wr∧w1.heap.size≤wr.heap.size ∧ ∀ b,s5.ownBlock=some b→b < wo.heap.size ∨ w1.heap.size≤b)∧Hid (OwnF wr wo.heap.size w1.heap.size 24 (.slice pu N.length ku) N.length G)∧Hid (∀ i,i < N.length→OwnI 3 wr wo.heap.size w1.heap.size (G i) (N.getD i [])))
     case atStart=>exact ⟨0,Nat.zero_le _,rfl,rfl,by rw [List.take_zero,List.map_nil,List.append_nil];exact Ho1,Lib.hid ⟨HBo.out,Nat.le_refl _,Hw1.out⟩,J1,J2⟩
     case round =>
      obtain ⟨j,hj,rfl,rfl,ho,hb,hg,hgi⟩:=hrel
      obtain ⟨w2,rfl⟩ : ∃ x : World,x=wr:=⟨_,rfl⟩
      have hs2:=hb.out.2.1
      have hs9:=hb.out.1.size
      obtain ⟨K,hK⟩ : ∃ K,K=L ++ (N.take j).map fun l=>((t : Int)+1) :: l:=⟨_,rfl⟩
      have hKl : K.length=L.length+j:=by rw [hK,List.length_append,List.length_map,List.length_take];omega
      rw [← hK] at ho
      by_cases hjl : j < N.length
      ·have hKn : L ++ (N.take (j+1)).map (fun l=>((t : Int)+1) :: l)=K ++ [((t : Int)+1) :: N.getD j []]:=by
        rw [take_snoc_map _ _ hjl,hK,List.append_assoc,List.getD_eq_getElem?_getD,List.getElem?_eq_getElem hjl]
        rfl
       obtain ⟨x,hx⟩ : ∃ x,x=N.getD j []:=⟨_,rfl⟩
       have hxl : x.length≤50:=by
        have:=HNs.out x (by rw [hx,List.getD_eq_getElem?_getD,List.getElem?_eq_getElem hjl];exact List.getElem_mem hjl)
        omega
       have hrow:=hgi.out j hjl
       rw [← hx] at hKn hrow
       obtain ⟨pj,kj,ej,_,_⟩:=hrow.shape
       rw [ej] at hrow
       obtain ⟨g0,hg0,hgl,hgh,hgs⟩:=hg.out.at_ (by omega)
       subst hg0
       have c0:=hg.out.cell hjl
       rw [ej] at c0
       obtain ⟨n,hn⟩ : ∃ n,n=x.length:=⟨_,rfl⟩
       have Hrd:=Lib.hid (show Rd w2 (.slice pj n kj) n (iv x) by rw [hn];exact hrow.ints)
       rw [← hn] at hxl c0
       have Hn:=Lib.hid hn
       have HKn:=Lib.hid hKn
       have Hgi:=Lib.hid hgi.out
       have Hg:=Lib.hid hg.out
       have Hb:=Lib.hid hb.out
       have hju : (j : Int) < (N.length : Int):=by omega
       have hKs : K.length≤1000000:=by have:=HLl.out;have:=HNl.out;omega
       obtain ⟨F,q1,q2,q3⟩:=ho.out
       have Q1:=Lib.hid q1
       have Q2:=Lib.hid q2
       have Q3:=Lib.hid q3
       obtain ⟨pK,kK,rfl,_,_⟩:=q1.shape
       have Hb1:=Lib.hid (show 1+n≤maxLen by unfold maxLen;omega)
       have Hb2:=Lib.hid (show (1+n) * 8≤140737488355328 by omega)
       have Hc1:=Lib.hid (show K.length+1≤maxLen by unfold maxLen;omega)
       have Hc2:=Lib.hid (show (K.length+1) * 24≤140737488355328 by omega)
       clear hK hKl hKn hrow hx hn q1 q2 q3 ho hb hg hgi ej hKs
       go_wp2_with (at_builtin;first
        | (refine wpList_append_G rfl (.tmp 29) (.tmp 34) 43 rfl 24 (.slice none 0 0) 24 Tryz.underlying43 info_sl rfl w.heap.size w2.heap.size _ K.length F rfl ((Q1.out.below Hbx.out).below (below_alloc w3 _)) (by simp;omega) (by simp;omega) _ 1 _ rfl (rd_one _ _ _ rfl) (fun j _=>rfl) Hc1.out Hc2.out ?_;intro v5 w5 ho5 hg5 hw5)
        | go_must (refine wpList_append_F rfl (.tmp 31) (.tmp 32) 24 rfl 3 (.int .i64 0) 8 Tryz.underlying24 info_int rfl w2.heap.size (w2.heap.size+1) _ 1 (fun _=>.int .i64 ((t : Int)+1)) rfl (OwnF.made1 w2 3 _) (by rw [size_alloc];omega) (by rw [size_alloc];omega) _ n (iv x) rfl (Hrd.out.below (below_alloc w2 _)) (fun j _=>rfl) Hb1.out Hb2.out ?_;intro v3 w3 ho3 hg3;have hr3:=OwnI.cons1 Hn.out ho3;have hbx : Below w2.heap.size w2 w3:=(below_alloc w2 _).trans (grownBy_below hg3 (OwnF.made1 w2 3 (.int .i64 ((t : Int)+1))).blocks (Nat.le_refl _) (by rw [size_alloc];omega));obtain ⟨p4,k4,rfl,_,_⟩:=hr3.shape;have Hr3:=Lib.hid hr3;have Hbx:=Lib.hid hbx;have hs3:=hbx.size;clear hr3 hbx ho3 hg3))
       have hb5:=below_alloc w3 (.cells #[.slice p4 (((t : Int)+1) :: x).length k4] 24)
       have hs5:=OwnII.snoc ((Q1.out.below Hbx.out).below hb5) (fun i hi=>((Q2.out i hi).below Hbx.out).below hb5) Q3.out (Hr3.out.below hb5) (by omega) (by omega) (by decide) hg5 (by have:=hg5.size;simp at this;omega) (ho5.congr fun j hj=>by by_cases e : j < K.length <;> simp [e])
       have hbw : w2.grownBy w5 (Value.slice pK K.length kK).ownBlock:=grown_after (Hbx.out.trans (hb5.mono hs3)) hg5
       have hgr:=hbw.size
       have hwhere : ∀ b,v5.ownBlock=some b→b < wo.heap.size ∨ w1.heap.size≤b:=fun b hb'=>by
        rcases hw5 b hb' with h | h
        ·exact Hb.out.2.2 b h
        ·right;simp at h;omega
       have hG5:=Hg.out.grown hbw fun k hk e=>by
        have : g0=k:=by simpa [Value.ownBlock] using hk
        have:=Hb.out.2.2 k e
        omega
       have hI5 : ∀ i,i < N.length→OwnI 3 w5 wo.heap.size w1.heap.size (G i) (N.getD i []):=fun i hi=>(Hgi.out i hi).grownBy hbw Q1.out (by decide)
       have hB5 : Below w.heap.size w w5:=Hb.out.1.trans (grownBy_below hbw Q1.out.blocks (Nat.le_refl _) hs9)
       have HS5:=Lib.hid hs5
       have HW5:=Lib.hid hwhere
       have HG5:=Lib.hid hG5
       have HI5:=Lib.hid hI5
       have HB5:=Lib.hid hB5
       have hz5 : w1.heap.size≤w5.heap.size:=by omega
       obtain ⟨p6,k6,rfl,_,_⟩:=hs5.shape
       clear hs5 hwhere hG5 hI5 hB5 hbw hg5 hw5 ho5 hb5
       go_wp2_with fail
       go_roundg (N.length - (j+1))
       case measure=>omega
       case rel=>exact ⟨j+1,by omega,rfl,by go_num,by rw [HKn.out];exact HS5,Lib.hid ⟨HB5.out,hz5,HW5.out⟩,HG5,HI5⟩
      ·obtain rfl : j=N.length:=by omega
       have hju : ¬ (N.length : Int) < (N.length : Int):=by omega
       have HK:=Lib.hid hK
       have Ho:=Lib.hid ho.out
       obtain ⟨p6,k6,rfl,_,_⟩:=ho.out.shape
       clear ho hK hKl
       go_wp2_with fail
       go_roundg (m - (t+1))
       case measure=>omega
       case rel=>exact ⟨t+1,by omega,rfl,by go_num,by rw [HLn.out,← HN.out,show (L ++ N.map fun l=>((t : Int)+1) :: l)=K by rw [HK.out,List.take_length]];exact Ho,Lib.hid hb.out.1⟩
    ·have ht1 : ¬ (t : Int)+1≤(m : Int):=by omega
     obtain rfl : t=m:=by omega
     have HL:=Lib.hid hL
     have Ho:=Lib.hid ho.out
     obtain ⟨p3,k3,rfl,_,_⟩:=ho.out.shape
     clear ho hL
     go_wp2_with fail
     go_ret
     exact ⟨_,rfl,by rw [ishs,← HL.out];exact Ho.out,hb.out⟩
def sumTo2 (xs : List Int) : Nat→Int
 | 0=>0
 | k+1=>sumTo2 xs k+xs.getD k 0
def sumI (xs : List Int) : Int:=sumTo2 xs xs.length
def sumOk (xs : List Int) : Prop:=xs.length≤1000 ∧ ∀ k,k < xs.length→0≤xs.getD k 0∧xs.getD k 0≤1000000
theorem sumTo2_rng {xs : List Int} (h : sumOk xs) : ∀ k,k≤xs.length→0≤sumTo2 xs k∧sumTo2 xs k≤k * 1000000
 | 0,_=>by simp [sumTo2]
 | k+1,hk=>by
   have a:=sumTo2_rng h k (by omega)
   have b:=h.2 k (by omega)
   rw [sumTo2]
   push_cast
   omega
theorem sumInts_any (v : Value) (xs : List Int) (w : World) (h : Ints w v xs) (ho : sumOk xs) :
 Calls Tryz.prog 60 #[v] w fun e w'=>e=.returned (.int .i64 (sumI xs))∧Qt w w':=by
 obtain ⟨p,cap,rfl,⟨hx1,hx2⟩,hxc⟩:=h
 unfold maxLen at hx2
 have HO:=Lib.hid ho
 have hl:=ho.1
 clear ho
 go_enter Tryz.func60,Tryz.ntmps60
 go_wp2_with fail
 go_loopg [3,5,8] xs.length (fun g s3 s5 s8 wr=> ∃ k : Nat,k≤xs.length∧g=xs.length - k∧s8=.int .i64 k∧s3=.int .i64 (sumTo2 xs k)∧Qt w wr)
 case atStart=>exact ⟨0,Nat.zero_le _,rfl,rfl,rfl,Qt.refl _⟩
 case round =>
  obtain ⟨k,hk,rfl,rfl,rfl,hq⟩:=hrel
  obtain ⟨z,hz⟩ : ∃ z,z=sumTo2 xs k:=⟨_,rfl⟩
  have hr:=sumTo2_rng HO.out k hk
  rw [← hz] at hr ⊢
  have Hz:=Lib.hid hz
  by_cases hlt : k < xs.length
  ·obtain ⟨b,off,rfl,hc⟩:=hxc (by omega)
   obtain ⟨x,hx⟩ : ∃ x,x=xs.getD k 0:=⟨_,rfl⟩
   have c1:=hq.cell (hc k hlt)
   unfold iv at c1
   rw [← hx] at c1
   have hx2:=HO.out.2 k hlt
   rw [← hx] at hx2
   have Hn:=Lib.hid (show sumTo2 xs (k+1)=z+x by rw [sumTo2,hz,hx])
   have hk1 : (k : Int) < (xs.length : Int):=by omega
   have hk2 : (k : Int) * 1000000≤1000000000:=by omega
   clear hx hc hxc hz
   go_wp2_with fail
   go_roundg (xs.length - (k+1))
   case measure=>omega
   case rel=>exact ⟨k+1,by omega,rfl,by go_num,by rw [Hn.out],hq⟩
  ·obtain rfl : k=xs.length:=by omega
   have hk1 : ¬ (xs.length : Int) < (xs.length : Int):=by omega
   clear hz
   go_wp2_with fail
   go_ret
   exact ⟨by rw [Hz.out];rfl,hq⟩
theorem lawSum_any (v : Value) (xs : List Int) (w : World) (h : Ints w v xs) (ho : sumOk xs) :
 Calls Tryz.prog 13 #[v] w fun e w'=>e=.returned (.int .i64 (sumI xs))∧Qt w w':=by
 obtain ⟨p,cap,rfl,⟨hx1,hx2⟩,hxc⟩:=h
 unfold maxLen at hx2
 have HO:=Lib.hid ho
 have hl:=ho.1
 clear ho
 go_enter Tryz.func13,Tryz.ntmps13
 go_wp2_with fail
 go_loopg [3,4] xs.length (fun g s3 s8 wr=> ∃ k : Nat,k≤xs.length∧g=xs.length - k∧s8=.int .i64 k∧s3=.int .i64 (sumTo2 xs k)∧Qt w wr)
 case atStart=>exact ⟨0,Nat.zero_le _,rfl,rfl,rfl,Qt.refl _⟩
 case round =>
  obtain ⟨k,hk,rfl,rfl,rfl,hq⟩:=hrel
  obtain ⟨z,hz⟩ : ∃ z,z=sumTo2 xs k:=⟨_,rfl⟩
  have hr:=sumTo2_rng HO.out k hk
  rw [← hz] at hr ⊢
  have Hz:=Lib.hid hz
  by_cases hlt : k < xs.length
  ·obtain ⟨b,off,rfl,hc⟩:=hxc (by omega)
   obtain ⟨x,hx⟩ : ∃ x,x=xs.getD k 0:=⟨_,rfl⟩
   have c1:=hq.cell (hc k hlt)
   unfold iv at c1
   rw [← hx] at c1
   have hx2:=HO.out.2 k hlt
   rw [← hx] at hx2
   have Hn:=Lib.hid (show sumTo2 xs (k+1)=z+x by rw [sumTo2,hz,hx])
   have hk1 : (k : Int) < (xs.length : Int):=by omega
   have hk2 : (k : Int) * 1000000≤1000000000:=by omega
   clear hx hc hxc hz
   go_wp2_with fail
   go_roundg (xs.length - (k+1))
   case measure=>omega
   case rel=>exact ⟨k+1,by omega,rfl,by go_num,by rw [Hn.out],hq⟩
  ·obtain rfl : k=xs.length:=by omega
   have hk1 : ¬ (xs.length : Int) < (xs.length : Int):=by omega
   clear hz
   go_wp2_with fail
   go_ret
   exact ⟨by rw [Hz.out];rfl,hq⟩
def layOk (old : List Int) (most : Int) (u : Option (List Int)) (put : List Int) (r m : Nat) : Bool :=
 !((decide (0 < r) && decide (old.getD (r - 1) 0 < old.getD r 0+(m : Int))) || decide (most < old.getD r 0+(m : Int)) ||
   (match u with
     | none=>false
     | some l=>decide (l.getD r 0 < sumI (put.take r)+(m : Int))))
def prefL (put : List Int) : List Int:=(List.range put.length).map fun k=>sumI (put.take k)
def layL (most : Int) : Nat→List Int→List Int→List Int→Nat→Nat→Option (List Int)→List Int→List (List Int)
 | 0,_,_,_,_,_,_,_=>[]
 | f+1,sh,ct,old,r,left,u,put =>
   if r=sh.length then
    (if 0 < left then [] else
      match ct with
      | []=>[]
      | [_]=>[sh]
      | _ :: c :: cs=>layL most f sh (c :: cs) sh 0 c.toNat (some (prefL put)) (List.replicate sh.length 0))
   else ((List.range (left+1)).takeWhile (layOk old most u put r)).flatMap fun (m : Nat)=>layL most f (sh.set r (sh.getD r 0+(m : Int))) ct old (r+1) (left - m) u (put.set r (m : Int))
def startL (a : List Int) (rows : Nat) : List Int:=a ++ List.replicate (rows - a.length) 0
def fsL (a b : List Int) (rows : Nat) (most : Int) : List (List Int) :=
 match b with
 | []=>[startL a rows]
 | c :: cs=>layL most ((cs.length+1) * (rows+1)+1) (startL a rows) (c :: cs) (startL a rows) 0 c.toNat none (List.replicate rows 0)
def cntL (l : List (List Int)) (cs : List Cls) : List Cls:=l.foldl (fun cs c=>sumdL (shL c) 1 cs) cs
def filL (a b : List Int) (rows : Nat) (most : Int) : List Cls:=cntL (fsL a b rows most) []
theorem cntL_append (l l' : List (List Int)) (cs : List Cls) : cntL (l ++ l') cs=cntL l' (cntL l cs):=List.foldl_append
theorem takeWhile_range (p : Nat→Bool) : ∀ n m : Nat,m≤n→(∀ j,j < m→p j=true)→(m=n ∨ p m=false)→(List.range n).takeWhile p=List.range m
 | 0,m,h,_,_=>by obtain rfl : m=0:=by omega
                 rfl
 | n+1,m,h,h1,h2=>by
   rw [List.range_succ]
   by_cases e : m=n+1
   ·subst e
    rw [List.range_succ]
    have : ∀ l : List Nat,(∀ x ∈ l,p x=true)→l.takeWhile p=l:=fun l=>by
     induction l with
     | nil=>intro _;rfl
     | cons x l ih=>intro h;rw [List.takeWhile_cons_of_pos (h x List.mem_cons_self),ih fun y hy=>h y (List.mem_cons_of_mem _ hy)]
    rw [← List.range_succ]
    exact this _ fun x hx=>h1 x (List.mem_range.1 hx)
   ·have hf : p m=false:=h2.resolve_left e
    by_cases e2 : m=n
    ·subst e2
     rw [List.takeWhile_append_of_pos (fun x hx=>h1 x (List.mem_range.1 hx))]
     rw [List.takeWhile_cons_of_neg (by rw [hf];decide),List.append_nil]
    ·have ih:=takeWhile_range p n m (by omega) h1 (.inr hf)
     rw [List.takeWhile_append,ih,List.length_range,List.length_range,if_neg e2]
end
section
def putZ (x : Int) : List Int→List Int
 | []=>[x]
 | y :: l=>if x≤y then x :: y :: l else y :: putZ x l
def srtZ : List Int→List Int
 | []=>[]
 | x :: l=>putZ x (srtZ l)
theorem putZ_perm (x : Int) : ∀ l,(putZ x l).Perm (x :: l)
 | []=>.refl _
 | y :: l=>by
   unfold putZ
   split
   ·exact .refl _
   ·exact ((putZ_perm x l).cons y).trans (.swap x y l)
theorem srtZ_perm : ∀ l,(srtZ l).Perm l
 | []=>.refl _
 | x :: l=>(putZ_perm x _).trans ((srtZ_perm l).cons x)
theorem putZ_sorted (x : Int) : ∀ l : List Int,l.Pairwise (· ≤ ·)→(putZ x l).Pairwise (· ≤ ·)
 | [],_=>List.pairwise_singleton _ _
 | y :: l,h=>by
   obtain ⟨h1,h2⟩:=List.pairwise_cons.1 h
   unfold putZ
   split
   ·rename_i hxy
    refine List.pairwise_cons.2 ⟨fun z hz=> ?_,h⟩
    rcases List.mem_cons.1 hz with rfl | hz
    ·exact hxy
    ·exact Int.le_trans hxy (h1 z hz)
   ·rename_i hxy
    refine List.pairwise_cons.2 ⟨fun z hz=> ?_,putZ_sorted x l h2⟩
    rcases List.mem_cons.1 ((putZ_perm x l).mem_iff.1 hz) with rfl | hz
    ·omega
    ·exact h1 z hz
theorem srtZ_sorted : ∀ l,(srtZ l).Pairwise (· ≤ ·)
 | []=>List.Pairwise.nil
 | x :: l=>putZ_sorted x _ (srtZ_sorted l)
theorem sorted_one : ∀ {l m : List Int},l.Perm m→l.Pairwise (· ≤ ·)→m.Pairwise (· ≤ ·)→l=m
 | [],m,h,_,_=>(List.nil_perm.1 h).symm
 | x :: l,m,h,h1,h2=>by
   cases m with
   | nil=>exact absurd (List.perm_nil.1 h) (by simp)
   | cons y m =>
     have a1:=List.pairwise_cons.1 h1
     have a2:=List.pairwise_cons.1 h2
     have hxy : x=y:=by
      have p1:=h.mem_iff.1 (List.mem_cons_self (a:=x) (l:=l))
      have p2:=h.mem_iff.2 (List.mem_cons_self (a:=y) (l:=m))
      rcases List.mem_cons.1 p1 with e | e
      ·exact e
      ·rcases List.mem_cons.1 p2 with e2 | e2
       ·exact e2.symm
       ·exact Int.le_antisymm (a1.1 y e2) (a2.1 x e)
     subst hxy
     rw [sorted_one (List.perm_cons x |>.1 h) a1.2 a2.2]
theorem merge_srtZ (l : List Int) : l.mergeSort (fun x y=>decide (x≤y))=srtZ l:=by
 refine sorted_one ((List.mergeSort_perm _ _).trans (srtZ_perm l).symm) ?_ (srtZ_sorted l)
 have:=List.pairwise_mergeSort (le:=fun (x y : Int)=>decide (x≤y)) (fun a b c h1 h2=>by simp at *;omega) (fun a b=>by simp;omega) l
 exact this.imp fun h=>by simpa using h
theorem srtZ_len (l : List Int) : (srtZ l).length=l.length:=(srtZ_perm l).length_eq
end
section
open Go.RowKit Go.Maps Go.WideMaps
def kls (e : List Int) : List Lit:=e.map fun n=>Lit.int .i64 n
def kv (e : List Int) : Value:=.agg (e.map fun n=>Value.int .i64 n).toArray
def kl (e : List Int) : Lit:=.string (keyBytes (kls e))
def K7 (d : Nat) (e : List Int) : Prop:=e.length=7 ∧ ∀ x ∈ e,0≤x∧x≤(d : Int)
theorem und56 : Tryz.prog.underlying 107=some (.array 7 3):=by kernel_rfl
theorem und41 : Tryz.prog.underlying 102=some (.map 107 3):=by kernel_rfl
theorem undI : Tryz.prog.underlying 3=some (.int .i64):=by kernel_rfl
theorem arr7 : ArrKey Tryz.prog 107 3 7:=⟨und56,by kernel_rfl,by kernel_rfl,by kernel_rfl⟩
theorem types_pos : ∃ m,Tryz.prog.types.size=m+1:=⟨Tryz.prog.types.size - 1,by have : 0 < Tryz.prog.types.size:=of_decide_eq_true (by kernel_rfl);omega⟩
theorem klaw : Keyed Tryz.prog 107:=Keyed.of_law arr7.law
theorem zeroI (w : World) : (zeroValue 3).run Tryz.prog w=.ok (.int .i64 0) w:=by kernel_rfl
theorem wf_of {d : Nat} {x : Int} (hd : d≤1000000) (h : 0≤x∧x≤(d : Int)) : (Lit.int .i64 x).wf=true:=WalkArith.wf_i64 (by omega)
theorem keyOf_kv {e : List Int} {d : Nat} (h : K7 d e) (hd : d≤1000000) : keyOf Tryz.prog 107 (kv e)=some (kl e):=by
 obtain ⟨hl,hr⟩:=h
 match e,hl with
 | [a,b,c,x,y,z,u],_ =>
   have wa:=wf_of hd (hr a (by simp))
   have wb:=wf_of hd (hr b (by simp))
   have wc:=wf_of hd (hr c (by simp))
   have wx:=wf_of hd (hr x (by simp))
   have wy:=wf_of hd (hr y (by simp))
   have wz:=wf_of hd (hr z (by simp))
   have wu:=wf_of hd (hr u (by simp))
   have hkt:=arr7.keyType types_pos
   obtain ⟨m,hm⟩:=types_pos
   unfold keyOf kv kl kls
   simp only [und56]
   rw [if_pos (by simp [hkt,Value.formed,und56,arr7.size]),hm]
   unfold Program.keyLits
   simp only [und56,Value.cells]
   rw [if_pos (by rw [arr7.size];rfl),show List.range 7=[0,1,2,3,4,5,6] from rfl]
   simp [arr7.one,Program.keyLits,undI,wa,wb,wc,wx,wy,wz,wu]
theorem kl_inj {e e' : List Int} {d d' : Nat} (h : K7 d e) (hd : d≤1000000) (h' : K7 d' e') (hd' : d'≤1000000) (hk : kl e=kl e') : e=e':=by
 have a:=keyOf_kv h hd
 have b:=keyOf_kv h' hd'
 rw [← hk] at b
 have:=klaw.inj a b
 unfold kv at this
 injection this with this
 have:=congrArg Array.toList this
 simp only [List.toList_toArray] at this
 exact (List.map_inj_right (fun x y hxy=>by injection hxy)).1 this
abbrev DU:=DataW Unit
def coef : DU→Int
 | .lit (.int _ c)=>c
 | _=>0
def SmL (h : Lit→Int) : List (Lit × DU)→Int
 | []=>0
 | p :: l=>coef p.2 * h p.1+SmL h l
def SmD (D : DU) (h : Lit→Int) : Int:=match D with
 | .map es=>SmL h es
 | _=>0
theorem SmL_perm (h : Lit→Int) {l l' : List (Lit × DU)} (hp : l.Perm l') : SmL h l=SmL h l':=by
 induction hp with
 | nil=>rfl
 | cons x _ ih=>simp only [SmL,ih]
 | swap x y l=>simp only [SmL];omega
 | trans _ _ a b=>exact a.trans b
theorem SmL_split (h : Lit→Int) (f : Lit × DU→Bool) : ∀ l : List (Lit × DU),SmL h l=SmL h (l.filter f)+SmL h (l.filter fun p=> !f p)
 | []=>rfl
 | p :: l=>by
   have ih:=SmL_split h f l
   cases hf : f p <;> simp [SmL,List.filter_cons,hf,ih] <;> omega
theorem find_one {l : List (Lit × DU)} {k : Lit} (hd : l.Pairwise fun p q=>p.1 ≠ q.1) (hk : WideAt.IsKeyLit k) (h : Lit→Int) :
 SmL h (l.filter fun p=>p.1.sameKey k)=coef ((DataW.map l).atKey k (.lit (.int .i64 0))) * h k:=by
 induction l with
 | nil=>simp [SmL,DataW.atKey,coef]
 | cons p l ih =>
   rw [List.pairwise_cons] at hd
   cases hs : p.1.sameKey k with
   | true =>
     have e:=WideAt.sameKey_eq hs
     have hn : l.filter (fun p=>p.1.sameKey k)=[]:=by
      rw [List.filter_eq_nil_iff]
      intro q hq hqs
      exact hd.1 q hq (by rw [e,WideAt.sameKey_eq hqs])
     rw [List.filter_cons,if_pos hs,hn]
     simp [SmL,DataW.atKey,List.find?_cons,e,WideAt.sameKey_self hk]
   | false =>
     rw [List.filter_cons,if_neg (by rw [hs];decide),ih hd.2]
     simp [DataW.atKey,List.find?_cons,hs]
theorem SmD_del {D : DU} (hD : Tidy D) {k : Lit} (hk : WideAt.IsKeyLit k) (h : Lit→Int) : SmD D h=SmD (D.del k) h+coef (D.atKey k (.lit (.int .i64 0))) * h k:=by
 obtain ⟨es,rfl,hd⟩:=hD
 have:=SmL_split h (fun p=>p.1.sameKey k) es
 rw [find_one hd hk] at this
 show SmL h es=SmL h (es.filter fun p=> !p.1.sameKey k)+_
 omega
theorem SmD_put {D : DU} (hD : Tidy D) {k : Lit} (h : Lit→Int) (d : DU) : SmD (D.put k d) h=SmD (D.del k) h+coef d * h k:=by
 obtain ⟨es,rfl,hd⟩:=hD
 show SmL h (DataW.insert (k,d) (es.filter fun p=> !p.1.sameKey k))=SmL h (es.filter fun p=> !p.1.sameKey k)+_
 rw [SmL_perm h (WideShapes.insert_perm _ _)]
 exact Int.add_comm _ _
theorem del_put {D : DU} (hD : Tidy D) {k : Lit} (hk : WideAt.IsKeyLit k) (h : Lit→Int) (d : DU) : SmD ((D.put k d).del k) h=SmD (D.del k) h:=by
 have a:=SmD_del (hD.put hk d) hk h
 rw [SmD_put hD h d,atKey_put_same hD.isMap hk] at a
 omega
def SmK (D : DU) (left : Lit→Bool) (h : Lit→Int) : Int:=match D with
 | .map es=>SmL h (es.filter fun p=>left p.1)
 | _=>0
theorem SmK_all {D : DU} (hD : Tidy D) (hk : ∀ l,has D l=true→WideAt.IsKeyLit l) (hm : ∀ es,D=.map es → ∀ p ∈ es,WideAt.IsKeyLit p.1) (h : Lit→Int) : SmK D (has D) h=SmD D h:=by
 obtain ⟨es,rfl,hd⟩:=hD
 show SmL h (es.filter fun p=>has (.map es) p.1)=SmL h es
 rw [List.filter_eq_self.2]
 intro p hp
 exact List.any_eq_true.2 ⟨p,hp,WideAt.sameKey_self (hm es rfl p hp)⟩
theorem SmK_none {D : DU} {left : Lit→Bool} (hl : ∀ l,left l=false) (h : Lit→Int) : SmK D left h=0:=by
 cases D <;> try rfl
 rename_i es
 show SmL h (es.filter fun p=>left p.1)=0
 rw [List.filter_eq_nil_iff.2 (fun p _=>by rw [hl];decide)]
 rfl
theorem SmK_step {D : DU} (hD : Tidy D) {left : Lit→Bool} {k : Lit} (hk : WideAt.IsKeyLit k) (hl : left k=true) (h : Lit→Int) :
 SmK D left h=coef (D.atKey k (.lit (.int .i64 0))) * h k+SmK D (fun z=>left z && !z.sameKey k) h:=by
 obtain ⟨es,rfl,hd⟩:=hD
 show SmL h (es.filter fun p=>left p.1)=_+SmL h (es.filter fun p=>left p.1 && !p.1.sameKey k)
 rw [SmL_split h (fun p=>p.1.sameKey k) (es.filter fun p=>left p.1),List.filter_filter,List.filter_filter,← find_one hd hk]
 congr 1
 ·congr 1
  apply List.filter_congr
  intro p _
  cases hs : p.1.sameKey k with
  | true=>rw [WideAt.sameKey_eq hs,hl];rfl
  | false=>simp
 ·congr 1
  apply List.filter_congr
  intro p _
  rw [Bool.and_comm]
end
end Go.Proofs.YtijadclebjcckaaGreat
