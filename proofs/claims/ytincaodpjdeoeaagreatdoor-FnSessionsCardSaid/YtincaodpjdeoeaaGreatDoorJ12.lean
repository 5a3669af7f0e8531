/-
  A part of the proof of FnSessions (texts of one proof, joined).
-/
import Derived.Test.YtincaodpjdeoeaaGreatDoorJ11
namespace Go.Proofs.YtincaodpjdeoeaaGreatDoor
set_option linter.all false
set_option maxRecDepth 100000
set_option maxHeartbeats 16000000
section
open Go.RowKit
theorem OwnF.apart {w : World} {lo hi lo' hi' : Nat} {T T' : TypeId} {v v' : Value} {n n' : Nat} {f f' : Nat→Value} (h : OwnF w lo hi T v n f) (h' : OwnF w lo' hi' T' v' n' f') (hT : T ≠ T') : ∀ k,v.ownBlock=some k→v'.ownBlock ≠ some k:=by
 intro k h1 h2
 obtain ⟨xs,h,_⟩:=h
 obtain ⟨ys,h',_⟩:=h'
 obtain ⟨c,fz,e⟩:=Lib.ownsRow_kind h.1 k h1
 obtain ⟨c',fz',e'⟩:=Lib.ownsRow_kind h'.1 k h2
 rw [e] at e'
 injection e' with e'
 injection e' with _ e' _
 exact hT e'
theorem OwnI.grownI {w w' : World} {lo hi : Nat} {T : TypeId} {v u : Value} {xs : List Int} (h : OwnI T w lo hi v xs) (hg : w.grownBy w' u.ownBlock) (hne : ∀ k,v.ownBlock=some k→u.ownBlock ≠ some k) : OwnI T w' lo hi v xs :=
 ⟨ownsRow_of_block h.1 fun k hk=>hg.block k (Own.block h hk).2.2 fun e=>hne k hk e.symm,h.2⟩
def RowsN (w : World) (lo hi N : Nat) (f : Nat→Value) (L : Nat→List Int) : Prop :=
 (∀ i,i < N→OwnI 3 w lo hi (f i) (L i)) ∧ ∀ i j,i < N→j < N→i ≠ j → ∀ b,(f i).ownBlock=some b→(f j).ownBlock ≠ some b
theorem RowsN.mono {w : World} {lo hi hi' N : Nat} {f : Nat→Value} {L : Nat→List Int} (h : RowsN w lo hi N f L) (hh : hi≤hi') : RowsN w lo hi' N f L :=
 ⟨fun i hi=>(h.1 i hi).mono (Nat.le_refl _) hh,h.2⟩
theorem RowsN.grown {w w' : World} {lo hi N lo' hi' n : Nat} {f g : Nat→Value} {L : Nat→List Int} {v : Value} (h : RowsN w lo hi N f L) (hv : OwnF w lo' hi' 24 v n g) (hg : w.grownBy w' v.ownBlock) : RowsN w' lo hi N f L :=
 ⟨fun i hi=>OwnI.grownI (h.1 i hi) hg fun k hk=>OwnF.apart (h.1 i hi).fn hv (by decide) k hk,h.2⟩
theorem RowsN.set {w w' : World} {lo hi N k : Nat} {f : Nat→Value} {L : Nat→List Int} {u : Value} {r : List Int} (h : RowsN w lo hi N f L) (hk : k < N) (hhi : hi≤w.heap.size) (ho : OwnI 3 w' lo w'.heap.size u r)
 (hg : w.grownBy w' (f k).ownBlock) (hn : ∀ b,u.ownBlock=some b→(f k).ownBlock=some b ∨ w.heap.size≤b) :
 RowsN w' lo w'.heap.size N (fun i=>if i=k then u else f i) (fun i=>if i=k then r else L i):=by
 have hs:=hg.size
 refine ⟨fun i hi=> ?_,fun i j hi hj hij b=> ?_⟩
 ·by_cases e : i=k
  ·simp only [e,if_true];exact ho
  ·simp only [e,if_false]
   exact OwnI.mono (OwnI.grownI (h.1 i hi) hg fun b hb=>(h.2 i k hi hk e b hb)) (Nat.le_refl _) (by omega)
 ·by_cases e : i=k
  ·subst e
   have e2 : ¬ j=i:=fun e=>hij e.symm
   simp only [e2,if_true,if_false]
   intro hb hb2
   rcases hn b hb with h1 | h1
   ·exact h.2 i j hi hj hij b h1 hb2
   ·have:=OwnF.blocks (h.1 j hj).fn b hb2
    omega
  ·by_cases e2 : j=k
   ·subst e2
    simp only [e,if_true,if_false]
    intro hb hb2
    rcases hn b hb2 with h1 | h1
    ·exact h.2 i j hi hj hij b hb h1
    ·have:=OwnF.blocks (h.1 i hi).fn b hb
     omega
   ·simp only [e,e2,if_false]
    exact h.2 i j hi hj hij b
def OwnE (w : World) (lo hi : Nat) (T : TypeId) (v : Value) (n : Nat) (f : Nat→Value) : Prop:=(n=0 ∧ ∃ p,v=.slice p 0 0) ∨ OwnF w lo hi T v n f
theorem RowsN.congr {w : World} {lo hi N : Nat} {f f' : Nat→Value} {L L' : Nat→List Int} (h : RowsN w lo hi N f L) (hf : ∀ i,i < N→f' i=f i) (hL : ∀ i,i < N→L' i=L i) : RowsN w lo hi N f' L' :=
 ⟨fun i hi=>by rw [hf i hi,hL i hi];exact h.1 i hi,fun i j hi hj hij=>by rw [hf i hi,hf j hj];exact h.2 i j hi hj hij⟩
theorem RowsN.below {w w' : World} {lo hi N : Nat} {f : Nat→Value} {L : Nat→List Int} (h : RowsN w lo hi N f L) (hb : Below w.heap.size w w') : RowsN w' lo hi N f L :=
 ⟨fun i hi=>(h.1 i hi).below hb,h.2⟩
theorem RowsN.snoc {w : World} {lo mid hi N : Nat} {f : Nat→Value} {L : Nat→List Int} {x : Value} {r : List Int} (h : RowsN w lo mid N f L) (hx : OwnI 3 w mid hi x r) (hm : lo≤mid) (hmh : mid≤hi) :
 RowsN w lo hi (N+1) (fun i=>if i < N then f i else x) (fun i=>if i < N then L i else r):=by
 refine ⟨fun i hi=> ?_,fun i j hi hj hij b=> ?_⟩
 ·by_cases e : i < N
  ·simp only [e,if_true];exact (h.1 i e).mono (Nat.le_refl _) hmh
  ·simp only [e,if_false];exact hx.mono hm (Nat.le_refl _)
 ·by_cases e : i < N
  ·by_cases e2 : j < N
   ·simp only [e,e2,if_true]
    exact h.2 i j e e2 hij b
   ·simp only [e,e2,if_true,if_false]
    intro hb hb2
    have:=OwnF.blocks (h.1 i e).fn b hb
    have:=OwnF.blocks hx.fn b hb2
    omega
  ·by_cases e2 : j < N
   ·simp only [e,e2,if_true,if_false]
    intro hb hb2
    have:=OwnF.blocks (h.1 j e2).fn b hb2
    have:=OwnF.blocks hx.fn b hb
    omega
   ·omega
theorem RowsN.join {w : World} {lo mid hi N M : Nat} {f g : Nat→Value} {L K : Nat→List Int} (h : RowsN w lo mid N f L) (hx : RowsN w mid hi M g K) (hm : lo≤mid) (hmh : mid≤hi) :
 RowsN w lo hi (N+M) (fun i=>if i < N then f i else g (i - N)) (fun i=>if i < N then L i else K (i - N)):=by
 refine ⟨fun i hi=> ?_,fun i j hi hj hij b=> ?_⟩
 ·by_cases e : i < N
  ·simp only [e,if_true];exact (h.1 i e).mono (Nat.le_refl _) hmh
  ·simp only [e,if_false];exact (hx.1 _ (by omega)).mono hm (Nat.le_refl _)
 ·by_cases e : i < N
  ·by_cases e2 : j < N
   ·simp only [e,e2,if_true]
    exact h.2 i j e e2 hij b
   ·simp only [e,e2,if_true,if_false]
    intro hb hb2
    have:=OwnF.blocks (h.1 i e).fn b hb
    have:=OwnF.blocks (hx.1 (j - N) (by omega)).fn b hb2
    omega
  ·by_cases e2 : j < N
   ·simp only [e,e2,if_true,if_false]
    intro hb hb2
    have:=OwnF.blocks (h.1 j e2).fn b hb2
    have:=OwnF.blocks (hx.1 (i - N) (by omega)).fn b hb
    omega
   ·simp only [e,e2,if_false]
    exact hx.2 _ _ (by omega) (by omega) (by omega) b
theorem OwnII.rowsN {w : World} {lo hi : Nat} {v : Value} {rows : List (List Int)} (h : OwnII 24 3 w lo hi v rows) : ∃ f,OwnF w lo hi 24 v rows.length f∧RowsN w lo hi rows.length f fun i=>rows.getD i []:=by
 obtain ⟨f,h1,h2,h3⟩:=h
 refine ⟨f,h1,h2,fun i j hi hj hij b hb hb2=> ?_⟩
 rcases Nat.lt_or_gt_of_ne hij with e | e
 ·exact h3 i j e hj b hb hb2
 ·exact h3 j i e hi b hb2 hb
theorem RowsN.rd {w : World} {lo hi lo' hi' : Nat} {v : Value} {rows : List (List Int)} {f : Nat→Value} {L : Nat→List Int} (h : RowsN w lo hi rows.length f L) (hv : OwnE w lo' hi' 24 v rows.length f) (hL : ∀ i,i < rows.length→L i=rows.getD i []) : RdII w v rows:=by
 refine ⟨f,?_,fun i hi=>by rw [← hL i hi];exact (h.1 i hi).ints⟩
 rcases hv with ⟨e,p,rfl⟩ | hv
 ·rw [e]
  exact ⟨p,0,rfl,⟨Nat.le_refl _,Nat.zero_le _⟩,fun h=>absurd h (Nat.lt_irrefl _)⟩
 ·exact hv.rd
theorem OwnE.keepB {w w' : World} {lo hi n B : Nat} {T : TypeId} {v : Value} {f : Nat→Value} (h : OwnE w lo hi T v n f) (hb : Below B w w') (hh : hi≤B) : OwnE w' lo hi T v n f:=by
 rcases h with h | h
 ·exact .inl h
 ·exact .inr (h.keep fun k _ h2 _=>hb.block k (by omega))
theorem RowsN.keepB {w w' : World} {lo hi N B : Nat} {f : Nat→Value} {L : Nat→List Int} (h : RowsN w lo hi N f L) (hb : Below B w w') (hh : hi≤B) : RowsN w' lo hi N f L :=
 ⟨fun i hi=>Own.keep (h.1 i hi) fun k _ h2 _=>hb.block k (by omega),h.2⟩
def OwnE2 (w : World) (lo hi : Nat) (T : TypeId) (v : Value) (n : Nat) (f : Nat→Value) (t : Value) : Prop:=(n=0 ∧ ∃ p,v=.slice p 0 0) ∨ (OwnF w lo hi T v n f ∧ ∀ b,v.ownBlock=some b→t.ownBlock ≠ some b)
def Lot (w : World) (lo : Nat) (s t : Value) (ra rb k : Nat) (fB : Nat→Value) (L : Nat→List Int) : Prop :=
 ∃ fo,OwnE2 w lo w.heap.size 24 s (ra+k) fo t∧RowsN w lo w.heap.size (ra+rb) fo L∧OwnF w lo w.heap.size 24 t rb fB ∧ ∀ i,k≤i→i < rb→fo (ra+i)=fB i
theorem Lot.row {w : World} {lo ra rb k : Nat} {s t : Value} {fB : Nat→Value} {L : Nat→List Int} (h : Lot w lo s t ra rb k fB L) (hk : k < rb) : OwnI 3 w lo w.heap.size (fB k) (L (ra+k)):=by
 obtain ⟨fo,_,h2,_,h4⟩:=h
 rw [← h4 k (Nat.le_refl _) hk]
 exact h2.1 _ (by omega)
theorem Lot.start {wr w9 : World} {lo ra : Nat} {s t : Value} {fo : Nat→Value} {LA : Nat→List Int} {rows : List (List Int)} (hlo : lo≤wr.heap.size) (hE : OwnE wr lo wr.heap.size 24 s ra fo) (hN : RowsN wr lo wr.heap.size ra fo LA)
 (hb : Below wr.heap.size wr w9) (hB : OwnII 24 3 w9 wr.heap.size w9.heap.size t rows) :
 ∃ fB,Lot w9 lo s t ra rows.length 0 fB (fun i=>if i < ra then LA i else rows.getD (i - ra) []):=by
 obtain ⟨fB,hB1,hB2⟩:=hB.rowsN
 have hs:=hb.size
 refine ⟨fB,fun i=>if i < ra then fo i else fB (i - ra),?_,(hN.keepB hb (Nat.le_refl _)).join hB2 hlo hs,hB1.mono hlo (Nat.le_refl _),fun i _ hi=> ?_⟩
 ·rcases hE with hE | hE
  ·exact .inl hE
  ·refine .inr ⟨((hE.keep fun k _ h2 _=>hb.block k h2).mono (Nat.le_refl _) hs).congr fun j hj=> ?_,fun b h1 h2=> ?_⟩
   ·simp only [show j < ra by omega,if_true]
   ·have:=hE.blocks b h1
    have:=hB1.blocks b h2
    omega
 ·simp only [show ¬ ra+i < ra by omega,if_false]
  congr 1;omega
theorem Lot.rd {w : World} {lo ra rb : Nat} {s t : Value} {fB : Nat→Value} {L : Nat→List Int} {rows : List (List Int)} (h : Lot w lo s t ra rb rb fB L) (hl : rows.length=ra+rb) (hL : ∀ i,i < ra+rb→L i=rows.getD i []) : RdII w s rows:=by
 obtain ⟨fo,h1,h2,_,_⟩:=h
 rw [← hl] at h1 h2 hL
 refine h2.rd (lo':=lo) (hi':=w.heap.size) ?_ hL
 rcases h1 with h1 | ⟨h1,_⟩
 ·exact .inl h1
 ·exact .inr h1
def shN (xs : List Int) : Nat→Nat
 | 0=>0
 | n+1=>if xs.getD n 0=0 then shN xs n else n+1
theorem shN_le (xs : List Int) : ∀ n,shN xs n≤n
 | 0=>Nat.le_refl _
 | n+1=>by
   rw [shN]
   split
   ·exact Nat.le_succ_of_le (shN_le xs n)
   ·exact Nat.le_refl _
def shL (xs : List Int) : List Int:=xs.take (shN xs xs.length)
theorem shortened_any (v : Value) (xs : List Int) (w : World) (h : Ints w v xs) :
 Calls Tryz.prog 34 #[v] w fun e w'=> ∃ u,e=.returned u∧Ints w' u (shL xs)∧Qt w w':=by
 have Hh:=Lib.hid h
 obtain ⟨p,cap,rfl,⟨hx1,hx2⟩,hxc⟩:=h
 unfold maxLen at hx2
 go_enter Tryz.func34,Tryz.ntmps34
 go_wp2_with fail
 go_loopg [3] (xs.length+1) (fun g s3 wr=> ∃ k : Nat,k≤xs.length∧g=k+1∧s3=.int .i64 k∧Qt w wr∧Hid (shN xs xs.length=shN xs k))
 case atStart=>exact ⟨xs.length,Nat.le_refl _,rfl,rfl,Qt.refl _,Lib.hid rfl⟩
 case round =>
  obtain ⟨k,hk,rfl,rfl,hq,hp⟩:=hrel
  by_cases h0 : k=0
  ·subst h0
   go_wp2_with fail
   go_ret
   refine ⟨_,rfl,?_,hq⟩
   have:=ints_takeP Hh.out (i:=0) (Nat.zero_le _)
   unfold shL
   rw [hp.out]
   exact this.qt hq
  ·obtain ⟨m,rfl⟩ : ∃ m,k=m+1:=⟨k - 1,by omega⟩
   obtain ⟨b,off,rfl,hc⟩:=hxc (by omega)
   obtain ⟨x,hx⟩ : ∃ x,x=xs.getD m 0:=⟨_,rfl⟩
   have c1:=hq.cell (hc m (by omega))
   unfold iv at c1
   rw [← hx] at c1
   have Hx:=Lib.hid hx
   have hm1 : (0 : Int) < ((m+1 : Nat) : Int):=by omega
   have hm2 : ((m+1 : Nat) : Int) - 1=(m : Int):=by omega
   have hm3 : (m : Int) < (xs.length : Int):=by omega
   have hm4 : ((m+1 : Nat) : Int)≤(cap : Int):=by omega
   have HN:=Lib.hid (show shN xs (m+1)=if xs.getD m 0=0 then shN xs m else m+1 from rfl)
   clear hx hc hxc h0
   by_cases hx0 : x=0
   ·go_wp2_with fail
    go_roundg (m+1)
    case measure=>omega
    case rel=>exact ⟨m,by omega,rfl,by go_num,hq,Lib.hid (by rw [hp.out,HN.out,if_pos (by rw [← Hx.out];exact hx0)])⟩
   ·go_wp2_with fail
    go_ret
    refine ⟨_,rfl,?_,hq⟩
    have:=ints_takeP Hh.out (i:=m+1) hk
    unfold shL
    rw [hp.out,HN.out,if_neg (by rw [← Hx.out];exact hx0)]
    exact this.qt hq
theorem shapeOfRows_any (v : Value) (xs : List Int) (w : World) (h : Ints w v xs) :
 Calls Tryz.prog 75 #[v] w fun e w'=> ∃ u,e=.returned u∧Ints w' u (shL xs)∧Qt w w':=by
 have Hh:=Lib.hid h
 obtain ⟨p,cap,rfl,⟨hx1,hx2⟩,hxc⟩:=h
 clear hxc
 go_enter Tryz.func75,Tryz.ntmps75
 go_wp2_with fail
 refine (shortened_any _ xs _ Hh.out).mono ?_
 rintro e w1 ⟨u,rfl,hi,hq⟩
 have Hi:=Lib.hid hi
 obtain ⟨p1,c1,rfl,_,_⟩:=hi
 go_wp2_with fail
 go_ret
 exact ⟨_,rfl,Hi.out,hq⟩
def gpA (sh : List Int) (k i : Nat) : List Int:=(List.range i).map fun (t : Nat)=>(t : Int)+sh.getD (k - 1 - t) 0
def gpB (A : List Int) (n : Nat) : List Int:=((List.range n).filter fun (x : Nat)=>decide (¬ (x : Int) ∈ A)).map fun (x : Nat)=>(x : Int)
def gpW (sh : List Int) (k n : Nat) : List Int:=gpA sh k k ++ gpB (gpA sh k k) n
theorem OwnI.grownBy {Ts Ti : TypeId} {w w' : World} {lo mid lo1 hi1 n : Nat} {lv fv : Value} {f : Nat→Value} {xs : List Int} (h : OwnI Ti w lo1 hi1 fv xs) (hg : w.grownBy w' lv.ownBlock) (hl : OwnF w lo mid Ts lv n f) (hT : Ts ≠ Ti) : OwnI Ti w' lo1 hi1 fv xs :=
 ⟨ownsRow_of_block h.1 fun k hk=>hg.block k (Own.block h hk).2.2 fun e=>own_types hl h hT e.symm hk,h.2⟩
def ishs : Nat→Nat→List (List Int)
 | 0,_=>[[]]
 | r+1,m=>[] :: (List.range m).flatMap fun (n : Nat)=>(ishs r (n+1)).map fun l=>((n : Int)+1) :: l
def sumTo2 (xs : List Int) : Nat→Int
 | 0=>0
 | k+1=>sumTo2 xs k+xs.getD k 0
def sumI (xs : List Int) : Int:=sumTo2 xs xs.length
def sumOk (xs : List Int) : Prop:=xs.length≤1000 ∧ ∀ k,k < xs.length→0≤xs.getD k 0∧xs.getD k 0≤1000000
theorem sumTo2_rng {xs : List Int} (h : sumOk xs) : ∀ k,k≤xs.length→0≤sumTo2 xs k∧sumTo2 xs k≤k * 1000000
 | 0,_=>by simp [sumTo2]
 | k+1,hk=>by
   have a:=sumTo2_rng h k (by omega)
   have b:=h.2 k (by omega)
   rw [sumTo2]
   push_cast
   omega
theorem sumInts_any (v : Value) (xs : List Int) (w : World) (h : Ints w v xs) (ho : sumOk xs) :
 Calls Tryz.prog 81 #[v] w fun e w'=>e=.returned (.int .i64 (sumI xs))∧Qt w w':=by
 obtain ⟨p,cap,rfl,⟨hx1,hx2⟩,hxc⟩:=h
 unfold maxLen at hx2
 have HO:=Lib.hid ho
 have hl:=ho.1
 clear ho
 go_enter Tryz.func81,Tryz.ntmps81
 go_wp2_with fail
 go_loopg [3,5,8] xs.length (fun g s3 s5 s8 wr=> ∃ k : Nat,k≤xs.length∧g=xs.length - k∧s8=.int .i64 k∧s3=.int .i64 (sumTo2 xs k)∧Qt w wr)
 case atStart=>exact ⟨0,Nat.zero_le _,rfl,rfl,rfl,Qt.refl _⟩
 case round =>
  obtain ⟨k,hk,rfl,rfl,rfl,hq⟩:=hrel
  obtain ⟨z,hz⟩ : ∃ z,z=sumTo2 xs k:=⟨_,rfl⟩
  have hr:=sumTo2_rng HO.out k hk
  rw [← hz] at hr ⊢
  have Hz:=Lib.hid hz
  by_cases hlt : k < xs.length
  ·obtain ⟨b,off,rfl,hc⟩:=hxc (by omega)
   obtain ⟨x,hx⟩ : ∃ x,x=xs.getD k 0:=⟨_,rfl⟩
   have c1:=hq.cell (hc k hlt)
   unfold iv at c1
   rw [← hx] at c1
   have hx2:=HO.out.2 k hlt
   rw [← hx] at hx2
   have Hn:=Lib.hid (show sumTo2 xs (k+1)=z+x by rw [sumTo2,hz,hx])
   have hk1 : (k : Int) < (xs.length : Int):=by omega
   have hk2 : (k : Int) * 1000000≤1000000000:=by omega
   clear hx hc hxc hz
   go_wp2_with fail
   go_roundg (xs.length - (k+1))
   case measure=>omega
   case rel=>exact ⟨k+1,by omega,rfl,by go_num,by rw [Hn.out],hq⟩
  ·obtain rfl : k=xs.length:=by omega
   have hk1 : ¬ (xs.length : Int) < (xs.length : Int):=by omega
   clear hz
   go_wp2_with fail
   go_ret
   exact ⟨by rw [Hz.out];rfl,hq⟩
def EV (T : Pl) (v x : List Int) : Int:=Ev (lowP 10 v T) (mono x)
def Dst (n : Nat) (x : List Int) : Prop:=x.length=7 ∧ ∀ i j,i < j→j < n→x.getD i 0 ≠ x.getD j 0
theorem sw_getD {x : List Int} {k t : Nat} (hk : k+1 < x.length) : (sw k x).getD t 0=if t=k+1 then x.getD k 0 else if t=k then x.getD (k+1) 0 else x.getD t 0:=swapL_getD (by omega) hk
theorem sw_at {x : List Int} {k : Nat} (hk : k+1 < x.length) : (sw k x).getD k 0=x.getD (k+1) 0:=by rw [sw_getD hk,if_neg (by omega),if_pos rfl]
theorem sw_at1 {x : List Int} {k : Nat} (hk : k+1 < x.length) : (sw k x).getD (k+1) 0=x.getD k 0:=by rw [sw_getD hk,if_pos rfl]
theorem sw_off {x : List Int} {k t : Nat} (hk : k+1 < x.length) (h1 : t ≠ k) (h2 : t ≠ k+1) : (sw k x).getD t 0=x.getD t 0:=by rw [sw_getD hk,if_neg h2,if_neg h1]
theorem sw_sw {x : List Int} {k : Nat} (hk : k+1 < x.length) : sw k (sw k x)=x:=by
 refine getD_eq_list (by rw [sw_length,sw_length]) fun t _=> ?_
 rw [sw_getD (by rw [sw_length];exact hk),sw_at hk,sw_at1 hk,sw_getD hk]
 by_cases h1 : t=k+1
 ·rw [if_pos h1,h1]
 ·rw [if_neg h1,if_neg h1]
  by_cases h2 : t=k
  ·rw [if_pos h2,h2]
  ·rw [if_neg h2,if_neg h2]
theorem sw_far {x : List Int} {j k : Nat} (hk : k+1 < x.length) (hjk : j+2≤k) : sw k (sw j x)=sw j (sw k x):=by
 have lj : j+1 < x.length:=by omega
 have lk : k+1 < (sw j x).length:=by rw [sw_length];exact hk
 have lj2 : j+1 < (sw k x).length:=by rw [sw_length];exact lj
 refine getD_eq_list (by simp only [sw_length]) fun t _=> ?_
 rw [sw_getD lk,sw_getD lj2,sw_getD lj,sw_getD lj,sw_getD (t:=t) lj,sw_getD (t:=j) hk,sw_getD (t:=j+1) hk,sw_getD (t:=t) hk]
 repeat' split
 all_goals (first | rfl | omega)
theorem sw_near {x : List Int} {j : Nat} (hk : j+2 < x.length) : sw j (sw (j+1) (sw j x))=sw (j+1) (sw j (sw (j+1) x)):=by
 have l0 : j+1 < x.length:=by omega
 have l1 : j+1+1 < x.length:=by omega
 have a1 : j+1+1 < (sw j x).length:=by rw [sw_length];exact l1
 have b1 : j+1 < (sw (j+1) x).length:=by rw [sw_length];exact l0
 have a2 : j+1 < (sw (j+1) (sw j x)).length:=by rw [sw_length,sw_length];exact l0
 have b2 : j+1+1 < (sw j (sw (j+1) x)).length:=by rw [sw_length,sw_length];exact l1
 refine getD_eq_list (by simp only [sw_length]) fun t _=> ?_
 by_cases h0 : t=j
 ·rw [h0,sw_at a2,sw_at a1,sw_off l0 (by omega) (by omega),sw_off b2 (by omega) (by omega),sw_at b1,sw_at l1]
 ·by_cases h1 : t=j+1
  ·rw [h1,sw_at1 a2,sw_off a1 (by omega) (by omega),sw_at l0,sw_at b2,sw_off b1 (by omega) (by omega),sw_at1 l1]
  ·by_cases h2 : t=j+1+1
   ·rw [h2,sw_off a2 (by omega) (by omega),sw_at1 a1,sw_at1 l0,sw_at1 b2,sw_at1 b1,sw_off l1 (by omega) (by omega)]
   ·rw [sw_off a2 h0 h1,sw_off a1 h1 h2,sw_off l0 h0 h1,sw_off b2 h1 h2,sw_off b1 h0 h1,sw_off l1 h1 h2]
theorem Dst.sw {n : Nat} {x : List Int} (h : Dst n x) (hn : n≤7) {k : Nat} (hk : k+1 < n) : Dst n (sw k x):=by
 refine ⟨by rw [sw_length];exact h.1,fun i j hij hj=> ?_⟩
 have hl:=h.1
 rw [sw_getD (by omega),sw_getD (by omega)]
 repeat' split
 all_goals first | (exact h.2 _ _ (by omega) (by omega)) | (exact fun e=>h.2 _ _ (show _ < _ from by omega) (by omega) e.symm) | omega
theorem low_step {T : Pl} {n : Nat} {v : List Int} (h : P5 n v) {k : Nat} (hf : fasc v=some k) : lowP 10 v T=dvP k (lowP 10 (sw k v) T):=by
 have h0:=h.low
 rw [lowOk,hf] at h0
 rw [lowP,hf]
 dsimp only at h0 ⊢
 rw [← low_more 9 10 _ h0 (by omega)]
 rfl
theorem EV_first {T : Pl} (hT : Pos7 T) {n : Nat} {v : List Int} (h : P5 n v) {k : Nat} (hf : fasc v=some k) {x : List Int} (hx : x.length=7) :
 (x.getD k 0 - x.getD (k+1) 0) * EV T v x=EV T (sw k v) x - EV T (sw k v) (sw k x):=by
 unfold EV
 rw [low_step h hf]
 have hk:=fasc_lt hf
 have hl:=h.len
 have h5:=h.le
 exact dv_val (by omega) hx (hT.low 10 _ (by rw [sw_length];omega))
def WayAt (T : Pl) (n : Nat) (v : List Int) (k : Nat) (x : List Int) : Prop:=(x.getD k 0 - x.getD (k+1) 0) * EV T v x=EV T (sw k v) x - EV T (sw k v) (sw k x)
theorem WayAt.sym {T : Pl} {n : Nat} {v : List Int} {k : Nat} {x : List Int} (hk : k+1 < x.length) (h : WayAt T n v k x) (h' : WayAt T n v k (sw k x)) : EV T v (sw k x)=EV T v x:=by
 unfold WayAt at h h'
 rw [sw_sw hk,sw_at hk,sw_at1 hk] at h'
 by_cases e : x.getD k 0=x.getD (k+1) 0
 ·have : sw k x=x:=by
   refine getD_eq_list (sw_length _ _) fun t _=> ?_
   rw [sw_getD hk]
   split
   ·rename_i h;rw [h,e]
   ·split
    ·rename_i h;rw [h,e]
    ·rfl
  rw [this]
 ·have : (x.getD k 0 - x.getD (k+1) 0) * (EV T v x - EV T v (sw k x))=0:=by
   have t : ∀ a b p q : Int,(a - b) * (p - q)=(a - b) * p+(b - a) * q:=fun a b p q=>by grind
   rw [t,h,h'];omega
  have:=cancel (by omega) this
  omega
theorem way_dst {T : Pl} (hT : Pos7 T) {n : Nat} : ∀ (m : Nat) (v : List Int),P5 n v→upN v=m → ∀ k,k+1 < n→ascB k v=true → ∀ x,Dst n x→WayAt T n v k x:=by
 intro m
 induction m using Nat.strongRecOn with
 | _ m ih =>
   intro v hv hm k hk ha x hx
   have h5:=hv.le
   have hxl:=hx.1
   obtain ⟨j,hj⟩ : ∃ j,fasc v=some j:=by
    cases hf : fasc v with
    | some j=>exact ⟨j,rfl⟩
    | none =>
      exfalso
      have hl:=hv.len
      unfold fasc at hf
      rw [List.find?_eq_none] at hf
      have:=hf k (List.mem_range.2 (by omega))
      exact this ha
   have hjl:=fasc_lt hj
   have hl:=hv.len
   have hjn : j+1 < n:=by omega
   have haj : ascB j v=true:=by unfold ascB;exact decide_eq_true hjl.2.1
   have hjk : j≤k:=Nat.not_lt.1 fun hlt=>hjl.2.2 k hlt (of_decide_eq_true ha)
   have sub : ∀ u,P5 n u→upN u < upN v → ∀ i,i+1 < n→ascB i u=true → ∀ x,Dst n x→WayAt T n u i x:=fun u hu hlt i hi hai x hx=>ih (upN u) (by omega) u hu rfl i hi hai x hx
   have first : ∀ x : List Int,x.length=7→WayAt T n v j x:=fun x hx=>EV_first hT hv hj hx
   have uj:=(hv.asc hjn haj).1
   have uk:=(hv.asc hk ha).1
   rcases Nat.lt_or_eq_of_le hjk with hlt | rfl
   ·rcases Nat.lt_or_eq_of_le (Nat.succ_le_of_lt hlt) with h2 | h2
    ·
     obtain ⟨f1,f2,f3⟩:=hv.far hk (by omega) haj ha
     have a1:=first x hx.1
     have b1:=sub _ (hv.sw hjn) (by omega) k hk f1 x hx
     have b2:=sub _ (hv.sw hjn) (by omega) k hk f1 _ (hx.sw (by omega) hjn)
     have c1:=sub _ (hv.sw hk) (by omega) j hjn f2 x hx
     have c2:=sub _ (hv.sw hk) (by omega) j hjn f2 _ (hx.sw (by omega) hk)
     unfold WayAt at a1 b1 b2 c1 c2 ⊢
     have q1 : (Go.Proofs.YtincaodpjdeoeaaGreatDoor.sw j x).getD k 0=x.getD k 0:=sw_off (by omega) (by omega) (by omega)
     have q2 : (Go.Proofs.YtincaodpjdeoeaaGreatDoor.sw j x).getD (k+1) 0=x.getD (k+1) 0:=sw_off (by omega) (by omega) (by omega)
     have q3 : (Go.Proofs.YtincaodpjdeoeaaGreatDoor.sw k x).getD j 0=x.getD j 0:=sw_off (by omega) (by omega) (by omega)
     have q4 : (Go.Proofs.YtincaodpjdeoeaaGreatDoor.sw k x).getD (j+1) 0=x.getD (j+1) 0:=sw_off (by omega) (by omega) (by omega)
     rw [q1,q2,f3,sw_far (x:=x) (j:=j) (k:=k) (by omega) (by omega)] at b2
     rw [q3,q4] at c2
     rw [f3] at b1
     have hne:=hx.2 j (j+1) (by omega) hjn
     have key : (x.getD j 0 - x.getD (j+1) 0) * ((x.getD k 0 - x.getD (k+1) 0) * EV T v x - (EV T (Go.Proofs.YtincaodpjdeoeaaGreatDoor.sw k v) x - EV T (Go.Proofs.YtincaodpjdeoeaaGreatDoor.sw k v) (Go.Proofs.YtincaodpjdeoeaaGreatDoor.sw k x)))=0:=by
      have t : ∀ A B p q r : Int,A * (B * p - (q - r))=B * (A * p) - (A * q - A * r):=fun A B p q r=>by grind
      rw [t,a1,c1,c2]
      have t2 : ∀ B p q : Int,B * (p - q)=B * p - B * q:=fun B p q=>by grind
      rw [t2,b1,b2]
      omega
     have:=cancel (by omega) key
     omega
    ·
     obtain rfl : k=j+1:=by omega
     obtain ⟨f1,f2,f3,f4,f5⟩:=hv.near (by omega) haj ha
     have vj:=hv.sw hjn
     have vk:=hv.sw hk
     have vjk:=vj.sw hk
     have vkj:=vk.sw hjn
     have u1:=(vj.asc hk f1).1
     have u2:=(vk.asc hjn f3).1
     have D0:=hx
     have D1:=hx.sw (by omega) hjn
     have D2:=hx.sw (by omega) hk
     have D12:=D1.sw (by omega) hk
     have D21:=D2.sw (by omega) hjn
     have l0 : j+2 < x.length:=by omega
     have lj : j+1 < x.length:=by omega
     have h1:=sub _ vjk (by omega) j hjn f2 x D0
     have h1s:=sub _ vjk (by omega) j hjn f2 _ D1
     have h2:=sub _ vjk (by omega) j hjn f2 _ D2
     have h3:=sub _ vjk (by omega) j hjn f2 _ D12
     have h4:=sub _ vj (by omega) (j+1) hk f1 x D0
     have h5':=sub _ vj (by omega) (j+1) hk f1 _ D1
     have h6:=first x hx.1
     have g1:=sub _ vkj (by omega) (j+1) hk f4 x D0
     have g1s:=sub _ vkj (by omega) (j+1) hk f4 _ D2
     have g2:=sub _ vkj (by omega) (j+1) hk f4 _ D1
     have g3:=sub _ vkj (by omega) (j+1) hk f4 _ D21
     have g4:=sub _ vk (by omega) j hjn f3 x D0
     have g5:=sub _ vk (by omega) j hjn f3 _ D2
     have s1:=h1.sym lj h1s
     have s2:=g1.sym l0 g1s
     unfold WayAt at h1 h2 h3 h4 h5' h6 g1 g2 g3 g4 g5 ⊢
     have n12:=hx.2 j (j+1) (by omega) (by omega)
     have n13:=hx.2 j (j+2) (by omega) (by omega)
     have n23:=hx.2 (j+1) (j+2) (by omega) (by omega)
     have p1a : (Go.Proofs.YtincaodpjdeoeaaGreatDoor.sw j x).getD j 0=x.getD (j+1) 0:=sw_at lj
     have p1b : (Go.Proofs.YtincaodpjdeoeaaGreatDoor.sw j x).getD (j+1) 0=x.getD j 0:=sw_at1 lj
     have p1c : (Go.Proofs.YtincaodpjdeoeaaGreatDoor.sw j x).getD (j+1+1) 0=x.getD (j+2) 0:=sw_off lj (by omega) (by omega)
     have p2a : (Go.Proofs.YtincaodpjdeoeaaGreatDoor.sw (j+1) x).getD j 0=x.getD j 0:=sw_off l0 (by omega) (by omega)
     have p2b : (Go.Proofs.YtincaodpjdeoeaaGreatDoor.sw (j+1) x).getD (j+1) 0=x.getD (j+2) 0:=sw_at l0
     have p2c : (Go.Proofs.YtincaodpjdeoeaaGreatDoor.sw (j+1) x).getD (j+1+1) 0=x.getD (j+1) 0:=sw_at1 l0
     have p12a : (Go.Proofs.YtincaodpjdeoeaaGreatDoor.sw (j+1) (Go.Proofs.YtincaodpjdeoeaaGreatDoor.sw j x)).getD j 0=x.getD (j+1) 0:=by rw [sw_off (by rw [sw_length];omega) (by omega) (by omega),p1a]
     have p12b : (Go.Proofs.YtincaodpjdeoeaaGreatDoor.sw (j+1) (Go.Proofs.YtincaodpjdeoeaaGreatDoor.sw j x)).getD (j+1) 0=x.getD (j+2) 0:=by rw [sw_at (by rw [sw_length];omega),p1c]
     have p21b : (Go.Proofs.YtincaodpjdeoeaaGreatDoor.sw j (Go.Proofs.YtincaodpjdeoeaaGreatDoor.sw (j+1) x)).getD (j+1) 0=x.getD j 0:=by rw [sw_at1 (by rw [sw_length];omega),p2a]
     have p21c : (Go.Proofs.YtincaodpjdeoeaaGreatDoor.sw j (Go.Proofs.YtincaodpjdeoeaaGreatDoor.sw (j+1) x)).getD (j+1+1) 0=x.getD (j+1) 0:=by rw [sw_off (by rw [sw_length];omega) (by omega) (by omega),p2c]
     rw [p2a,p2b] at h2
     rw [p12a,p12b] at h3
     rw [p1b,p1c] at h5' g2
     rw [p2a,p2b] at g5
     rw [p21b,p21c] at g3
     rw [s1] at h5'
     rw [s2] at g5
     rw [← f5] at g1 g2 g3
     rw [sw_near l0] at h3
     show (x.getD (j+1) 0 - x.getD (j+2) 0) * _=_
     exact braid _ _ _ _ _ _ _ _ _ _ _ _ _ _ _ _ _ 0 _ _ _ (by omega) (by omega) (by omega) h1 h2 h3 h4 h5' h6 g1 g2 g3 g4 g5
   ·exact first x hx.1
def sumS (v ys : List Int) : List Nat→List Int→List Int→Int
 | [],_,h=>if h=v then 1 else 0
 | k :: r,u,h=>sumS v ys r (sw k u) h+(if ascB k h then (ys.getD (u.getD (k+1) 0).toNat 0 - ys.getD (u.getD k 0).toNat 0) * sumS v ys r (sw k u) (sw k h) else 0)
theorem abs_le_sum {l : List Int} {i : Nat} : (l.getD i 0).natAbs≤(l.map Int.natAbs).sum:=by
 induction l generalizing i with
 | nil=>simp
 | cons x l ih =>
   cases i with
   | zero=>simp
   | succ i =>
     have:=ih (i:=i)
     simp only [List.getD_cons_succ,List.map_cons,List.sum_cons]
     omega
def mvd (N : Int) (m : Nat) (l : List Int) : List Int:=(List.range m).map fun (i : Nat)=>l.getD i 0+N * (i : Int)
theorem mvd_length (N : Int) (m : Nat) (l : List Int) : (mvd N m l).length=m:=by simp [mvd]
theorem mvd_getD {N : Int} {m : Nat} {l : List Int} {i : Nat} (h : i < m) : (mvd N m l).getD i 0=l.getD i 0+N * (i : Int):=by simp [mvd,List.getD_eq_getElem?_getD,h]
theorem mvd_mg {N : Int} {m : Nat} {l : List Int} (hl : l.length=m) (i : Nat) : Mg N (l.getD i 0) ((mvd N m l).getD i 0):=by
 by_cases h : i < m
 ·rw [mvd_getD h];exact ⟨-(i : Int),by rw [Int.mul_neg];omega⟩
 ·have a : l.getD i 0=0:=by rw [List.getD_eq_getElem?_getD,List.getElem?_eq_none (by omega)];rfl
  have b : (mvd N m l).getD i 0=0:=by rw [List.getD_eq_getElem?_getD,List.getElem?_eq_none (by rw [mvd_length];omega)];rfl
  rw [a,b];exact Mg.refl _ _
theorem mvd_ne {N : Int} {m : Nat} {l : List Int} (hN : 2 * ((l.map Int.natAbs).sum : Int) < N) {i j : Nat} (hij : i < j) (hj : j < m) : (mvd N m l).getD i 0 ≠ (mvd N m l).getD j 0:=by
 rw [mvd_getD (by omega),mvd_getD hj]
 intro e
 have a:=abs_le_sum (l:=l) (i:=i)
 have b:=abs_le_sum (l:=l) (i:=j)
 have c:=Int.mul_le_mul_of_nonneg_left (show (1 : Int)≤(j : Int) - (i : Int) by omega) (show 0≤N by omega)
 rw [Int.mul_one,Int.mul_sub] at c
 omega
theorem EV_mg {N : Int} {T : Pl} {v x x' : List Int} (h : ∀ i,Mg N (x.getD i 0) (x'.getD i 0)) : Mg N (EV T v x) (EV T v x'):=Ev_mg (mono_mg h) _
theorem sw_mg {N : Int} {x x' : List Int} {k : Nat} (hk : k+1 < x.length) (hk' : k+1 < x'.length) (h : ∀ i,Mg N (x.getD i 0) (x'.getD i 0)) (i : Nat) : Mg N ((sw k x).getD i 0) ((sw k x').getD i 0):=by
 rw [sw_getD hk,sw_getD hk']
 split
 ·exact h k
 ·split
  ·exact h (k+1)
  ·exact h i
theorem way_all {T : Pl} (hT : Pos7 T) {n : Nat} {v : List Int} (hv : P5 n v) {k : Nat} (hk : k+1 < n) (ha : ascB k v=true) {x : List Int} (hx : x.length=7) : WayAt T n v k x:=by
 have h5:=hv.le
 unfold WayAt
 have key : (x.getD k 0 - x.getD (k+1) 0) * EV T v x - (EV T (sw k v) x - EV T (sw k v) (sw k x))=0:=by
  refine Mg.zero (2 * ((x.map Int.natAbs).sum : Int)) fun N hN hN0=> ?_
  have hm:=mvd_mg (N:=N) hx
  have hl:=mvd_length N 7 x
  have hd : Dst n (mvd N 7 x):=⟨hl,fun i j hij hj=>mvd_ne hN hij (by omega)⟩
  have hw:=way_dst hT (upN v) v hv rfl k hk ha _ hd
  unfold WayAt at hw
  have e : (mvd N 7 x).getD k 0 - (mvd N 7 x).getD (k+1) 0=(mvd N 7 x).getD k 0 - (mvd N 7 x).getD (k+1) 0:=rfl
  have:=(((hm k).sub (hm (k+1))).mul (EV_mg (T:=T) (v:=v) hm)).sub ((EV_mg (T:=T) (v:=sw k v) hm).sub (EV_mg (T:=T) (v:=sw k v) (sw_mg (x:=x) (x':=mvd N 7 x) (k:=k) (by omega) (by omega) hm)))
  rw [hw,Int.sub_self] at this
  exact this
 omega
theorem pickL_length (w ys : List Int) : (pickL w ys).length=7:=by simp [pickL]
theorem pickL_at {w ys : List Int} {i : Nat} (h : i < w.length) (h7 : w.length≤7) : (pickL w ys).getD i 0=ys.getD (w.getD i 0).toNat 0:=by
 rw [pickL_getD _ _ (by omega)];unfold pick;rw [if_pos h]
theorem pickL_sw {w ys : List Int} {k : Nat} (hk : k+1 < w.length) (h7 : w.length≤7) : pickL (sw k w) ys=sw k (pickL w ys):=by
 refine getD_eq_list (by rw [sw_length,pickL_length,pickL_length]) fun t ht=> ?_
 rw [pickL_length] at ht
 have hk7 : k+1 < (pickL w ys).length:=by rw [pickL_length];omega
 rw [sw_getD hk7,pickL_at (by omega) h7,pickL_at hk h7,pickL_getD _ _ ht,pickL_getD _ _ ht]
 unfold pick
 rw [sw_length,sw_getD hk]
 by_cases h1 : t=k+1
 ·rw [if_pos h1,if_pos h1,if_pos (by omega)]
 ·by_cases h2 : t=k
  ·rw [if_neg h1,if_pos h2,if_neg h1,if_pos h2,if_pos (by omega)]
  ·rw [if_neg h1,if_neg h2,if_neg h1,if_neg h2]
theorem pickL_mg {N : Int} {w ys ys' : List Int} (h : ∀ i,Mg N (ys.getD i 0) (ys'.getD i 0)) (i : Nat) : Mg N ((pickL w ys).getD i 0) ((pickL w ys').getD i 0):=by
 by_cases h7 : i < 7
 ·rw [pickL_getD _ _ h7,pickL_getD _ _ h7]
  unfold pick
  split
  ·exact h _
  ·exact Mg.refl _ _
 ·have a : ∀ y,(pickL w y).getD i 0=0:=fun y=>by rw [List.getD_eq_getElem?_getD,List.getElem?_eq_none (by rw [pickL_length];omega)];rfl
  rw [a,a];exact Mg.refl _ _
def FW (n : Nat) (ys v w : List Int) : Int:=EV (topI n ys n) v (pickL w ys)
theorem FW_mg {N : Int} {n : Nat} {ys ys' v w : List Int} (h : ∀ i,Mg N (ys.getD i 0) (ys'.getD i 0)) : Mg N (FW n ys v w) (FW n ys' v w) :=
 ((PMg.low (PMg.top h n n) 10 v) _).trans (Ev_mg (mono_mg (pickL_mg h)) _)
def df (ys w : List Int) (k : Nat) : Int:=ys.getD (w.getD (k+1) 0).toNat 0 - ys.getD (w.getD k 0).toNat 0
theorem FW_rec {n : Nat} {ys v w : List Int} (hv : P5 n v) (hw : P5 n w) {k : Nat} (hk : k+1 < n) :
 FW n ys v (sw k w)=FW n ys v w+(if ascB k v then 0 else df ys w k * FW n ys (sw k v) w):=by
 have hT:=Pos7.top n ys n
 have h5:=hv.le
 have hl:=hw.len
 unfold FW
 rw [pickL_sw (by omega) (by omega)]
 have hx7:=pickL_length w ys
 cases ha : ascB k v with
 | true =>
   have a:=way_all hT hv hk ha hx7
   have b:=way_all hT hv hk ha (x:=sw k (pickL w ys)) (by rw [sw_length,hx7])
   rw [a.sym (by omega) b];simp
 | false =>
   have hd:=hv.desc hk ha
   have a:=way_all hT (hv.sw hk) hk hd.2 hx7
   unfold WayAt at a
   rw [sw_sw (by have:=hv.len;omega),pickL_at (by omega) (by omega),pickL_at (by omega) (by omega)] at a
   unfold df
   rw [if_neg (by decide)]
   obtain ⟨A,hA⟩ : ∃ A,A=ys.getD (w.getD k 0).toNat 0:=⟨_,rfl⟩
   obtain ⟨B,hB⟩ : ∃ B,B=ys.getD (w.getD (k+1) 0).toNat 0:=⟨_,rfl⟩
   rw [← hA,← hB] at a ⊢
   rw [show B - A = -(A - B) by omega,Int.neg_mul,a]
   omega
theorem FW_way {n : Nat} {ys v w : List Int} (hv : P5 n v) (hw : P5 n w) {k : Nat} (hk : k+1 < n) (ha : ascB k v=true) :
 df ys w k * FW n ys v w=FW n ys (sw k v) (sw k w) - FW n ys (sw k v) w:=by
 have hvs:=hv.sw hk
 have:=FW_rec (ys:=ys) hvs hw hk
 rw [(hv.asc hk ha).2,sw_sw (by have:=hv.len;omega)] at this
 simp at this
 omega
def prodP (ys : List Int) : List (Int × Int)→Int
 | []=>1
 | p :: l=>(ys.getD p.1.toNat 0 - ys.getD p.2.toNat 0) * prodP ys l
theorem prodP_append (ys : List Int) (a b : List (Int × Int)) : prodP ys (a ++ b)=prodP ys a * prodP ys b:=by
 induction a with
 | nil=>simp [prodP]
 | cons p l ih=>rw [List.cons_append,prodP,prodP,ih,Int.mul_assoc]
theorem prodP_perm (ys : List Int) {a b : List (Int × Int)} (h : a.Perm b) : prodP ys a=prodP ys b:=by
 induction h with
 | nil=>rfl
 | cons x _ ih=>rw [prodP,prodP,ih]
 | swap x y l=>simp only [prodP];rw [Int.mul_left_comm]
 | trans _ _ a b=>exact a.trans b
theorem prodP_zero (ys : List Int) {l : List (Int × Int)} (h : ∃ p ∈ l,p.1=p.2) : prodP ys l=0:=by
 obtain ⟨p,hp,e⟩:=h
 induction l with
 | nil=>cases hp
 | cons q l ih =>
   rw [prodP]
   rcases List.mem_cons.1 hp with rfl | hp
   ·rw [e,Int.sub_self,Int.zero_mul]
   ·rw [ih hp,Int.mul_zero]
theorem prodP_mg {N : Int} {ys ys' : List Int} (h : ∀ i,Mg N (ys.getD i 0) (ys'.getD i 0)) : ∀ l,Mg N (prodP ys l) (prodP ys' l)
 | []=>Mg.refl _ _
 | p :: l=>((h _).sub (h _)).mul (prodP_mg h l)
theorem mono_rs {x e : List Int} {i : Nat} (hi : i < 7) (he : e.length=7) (hp : ∀ a ∈ e,(0 : Int)≤a) (hx : x.length=7) : mono x (rsE i e)=x.getD i 0 * mono x e:=by
 obtain ⟨a0,a1,a2,a3,a4,a5,a6,rfl⟩:=list7 he
 obtain ⟨x0,x1,x2,x3,x4,x5,x6,rfl⟩:=list7 hx
 have h0:=hp a0 (by simp)
 have h1:=hp a1 (by simp)
 have h2:=hp a2 (by simp)
 have h3:=hp a3 (by simp)
 have h4:=hp a4 (by simp)
 have h5:=hp a5 (by simp)
 have h6:=hp a6 (by simp)
 have t : ∀ a : Int,0≤a→(a+1).toNat=a.toNat+1:=fun a h=>by omega
 have : i=0 ∨ i=1 ∨ i=2 ∨ i=3 ∨ i=4 ∨ i=5 ∨ i=6:=by omega
 rcases this with rfl | rfl | rfl | rfl | rfl | rfl | rfl <;> (simp [mono,monoK,rsE,t _ h0,t _ h1,t _ h2,t _ h3,t _ h4,t _ h5,t _ h6,Int.pow_succ];ac_rfl)
theorem rs_val {x : List Int} {i : Nat} (hi : i < 7) (hx : x.length=7) : ∀ {P : Pl},Pos7 P→Ev (rsP i P) (mono x)=x.getD i 0 * Ev P (mono x)
 | [],_=>by simp [rsP,Ev]
 | p :: l,h=>by
   have ih:=rs_val hi hx (P:=l) fun q hq=>h q (List.mem_cons_of_mem _ hq)
   have hp:=h p List.mem_cons_self
   show p.2 * mono x (rsE i p.1)+Ev (rsP i l) (mono x)=_ * (p.2 * mono x p.1+Ev l (mono x))
   rw [ih,mono_rs hi hp.1 hp.2 hx,Int.mul_add,Int.mul_left_comm]
def tpJ (w : List Int) (i : Nat) : Nat→List (Int × Int)
 | 0=>[]
 | m+1=>(w.getD i 0,(m : Int)) :: tpJ w i m
def tpI (n : Nat) (w : List Int) : Nat→List (Int × Int)
 | 0=>[]
 | i+1=>tpJ w i (n - 1 - i) ++ tpI n w i
theorem top_val {n : Nat} {w ys : List Int} (hl : w.length=n) (h5 : n≤5) : ∀ i,i≤n→Ev (topI n ys i) (mono (pickL w ys))=prodP ys (tpI n w i)
 | 0,_=>by simp [topI,tpI,Ev,prodP,mono,monoK]
 | i+1,hi=>by
   rw [topI,tpI,prodP_append]
   have hx:=pickL_length w ys
   have : ∀ m,Ev (topJ i ys m (topI n ys i)) (mono (pickL w ys))=prodP ys (tpJ w i m) * prodP ys (tpI n w i)∧Pos7 (topJ i ys m (topI n ys i)):=fun m=>by
    induction m with
    | zero=>exact ⟨by rw [topJ,tpJ,prodP,Int.one_mul];exact top_val hl h5 i (by omega),Pos7.top n ys i⟩
    | succ m ih =>
      refine ⟨?_,(ih.2.rs i).append (ih.2.scl _)⟩
      rw [topJ,tpJ,prodP,Ev_append,Ev_scl,Ev_mul,rs_val (by omega) hx ih.2,ih.1,pickL_at (by omega) (by omega)]
      simp only [Int.toNat_natCast]
      obtain ⟨A,hA⟩ : ∃ A,A=prodP ys (tpJ w i m):=⟨_,rfl⟩
      obtain ⟨B,hB⟩ : ∃ A,A=prodP ys (tpI n w i):=⟨_,rfl⟩
      rw [← hA,← hB]
      grind
   exact (this _).1
def invs (v : List Int) : List (Int × Int):=(List.range v.length).flatMap fun j=>((List.range j).filter fun i=>decide (v.getD j 0 < v.getD i 0)).map fun i=>(v.getD i 0,v.getD j 0)
def vanB (w : List Int) : Bool:=if upN w=0 then (tpI w.length w w.length).isPerm (invs w) && (fasc w).isNone && decide (w=(idL w.length).reverse) else (tpI w.length w w.length).any (fun p=>decide (p.1=p.2)) && (fasc w).isSome
def invB (v : List Int) : Bool:=(List.range (v.length - 1)).all fun k=> !ascB k v || (invs (sw k v)).isPerm ((v.getD (k+1) 0,v.getD k 0) :: invs v)
theorem van_all : all5 vanB=true:=by decide +kernel
theorem inv_all : all5 invB=true:=by decide +kernel
theorem van_0 {n : Nat} {w : List Int} (hw : P5 n w) (h0 : upN w=0) : (tpI n w n).Perm (invs w)∧fasc w=none∧w=(idL n).reverse:=by
 have:=all5_at van_all hw.ok (by have:=hw.len;have:=hw.le;omega)
 unfold vanB at this
 rw [if_pos h0,hw.len] at this
 simpa [List.isPerm_iff,and_assoc] using this
theorem van_1 {n : Nat} {w : List Int} (hw : P5 n w) (h0 : upN w ≠ 0) : (∃ p ∈ tpI n w n,p.1=p.2) ∧ ∃ k,fasc w=some k:=by
 have:=all5_at van_all hw.ok (by have:=hw.len;have:=hw.le;omega)
 unfold vanB at this
 rw [if_neg h0,hw.len] at this
 simp only [Bool.and_eq_true,List.any_eq_true,decide_eq_true_eq,Option.isSome_iff_exists] at this
 exact this
theorem inv_sw {n : Nat} {v : List Int} (hv : P5 n v) {k : Nat} (hk : k+1 < n) (ha : ascB k v=true) : (invs (sw k v)).Perm ((v.getD (k+1) 0,v.getD k 0) :: invs v):=by
 have:=all5_at inv_all hv.ok (by have:=hv.len;have:=hv.le;omega)
 simp only [invB,List.all_eq_true,List.mem_range] at this
 have:=this k (by have:=hv.len;omega)
 rw [ha] at this
 simpa [List.isPerm_iff] using this
def DstY (n : Nat) (ys : List Int) : Prop:=∀ i j,i < n→j < n→i ≠ j→ys.getD i 0 ≠ ys.getD j 0
theorem df_ne {n : Nat} {ys w : List Int} (hy : DstY n ys) (hw : P5 n w) {k : Nat} (hk : k+1 < n) : df ys w k ≠ 0:=by
 obtain ⟨a,ha,han⟩:=hw.rng (j:=k) (by omega)
 obtain ⟨b,hb,hbn⟩:=hw.rng (j:=k+1) hk
 unfold df
 rw [ha,hb,Int.toNat_natCast,Int.toNat_natCast]
 have hne : b ≠ a:=fun e=>by
  have hp:=hw.ok
  simp only [permOk,decide_eq_true_eq] at hp
  have:=List.pairwise_iff_getElem.1 hp.2.2.2 k (k+1) (by have:=hw.len;omega) (by have:=hw.len;omega) (by omega)
  rw [← getD_lt,← getD_lt,ha,hb,e] at this
  exact this rfl
 have:=hy b a hbn han hne
 omega
theorem sw_inj {n : Nat} {v w : List Int} (hv : P5 n v) (hw : P5 n w) {k : Nat} (hk : k+1 < n) (h : sw k w=sw k v) : w=v:=by
 rw [← sw_sw (x:=w) (k:=k) (by have:=hw.len;omega),h,sw_sw (by have:=hv.len;omega)]
theorem up_near {n : Nat} {w : List Int} (hw : P5 n w) {k : Nat} (hk : k+1 < n) : upN w≤upN (sw k w)+1:=by
 cases ha : ascB k w with
 | true=>have:=(hw.asc hk ha).1;omega
 | false=>have:=(hw.desc hk ha).1;omega
theorem van_dst {n : Nat} {ys : List Int} (hy : DstY n ys) : ∀ (m : Nat) (v : List Int),P5 n v→upN v=m→(∀ w,P5 n w→m≤upN w→w ≠ v→FW n ys v w=0)∧FW n ys v v=prodP ys (invs v):=by
 intro m
 induction m with
 | zero =>
   intro v hv hm
   obtain ⟨h1,h2,h3⟩:=van_0 hv hm
   have hval : ∀ w,P5 n w→FW n ys v w=prodP ys (tpI n w n):=fun w hw=>by
    unfold FW EV
    rw [show lowP 10 v (topI n ys n)=topI n ys n by rw [lowP,h2]]
    exact top_val hw.len hw.le n (Nat.le_refl _)
   refine ⟨fun w hw _ hne=> ?_,by rw [hval v hv,prodP_perm ys h1]⟩
   rw [hval w hw]
   refine prodP_zero ys (van_1 hw fun h0=>hne ?_).1
   rw [h3,(van_0 hw h0).2.2]
 | succ m ih =>
   intro v hv hm
   obtain ⟨_,k,hk⟩:=van_1 hv (by omega)
   have hkl:=fasc_lt hk
   have hkn : k+1 < n:=by have:=hv.len;omega
   have ha : ascB k v=true:=decide_eq_true hkl.2.1
   have hu:=hv.asc hkn ha
   obtain ⟨z1,z2⟩:=ih (sw k v) (hv.sw hkn) (by omega)
   refine ⟨fun w hw hle hne=> ?_,?_⟩
   ·have a:=FW_way (ys:=ys) hv hw hkn ha
    have b:=up_near hw hkn
    rw [z1 w hw (by omega) (fun e=>by rw [e] at hle;omega),z1 (sw k w) (hw.sw hkn) (by omega) (fun e=>hne (sw_inj hv hw hkn e)),Int.sub_self] at a
    exact cancel (df_ne hy hw hkn) a
   ·have a:=FW_way (ys:=ys) hv hv hkn ha
    rw [z2,z1 v hv (by omega) (fun e=>by rw [← e] at hu;omega),prodP_perm ys (inv_sw hv hkn ha),prodP] at a
    have b:=df_ne hy hv hkn
    have : df ys v k * (FW n ys v v - prodP ys (invs v))=0:=by
     rw [Int.mul_sub,a]
     simp only [df]
     omega
    have:=cancel b this
    omega
theorem mvd_dst {N : Int} {n : Nat} {ys : List Int} (hN : 2 * ((ys.map Int.natAbs).sum : Int) < N) : DstY n (mvd N n ys):=fun i j hi hj hne=>by
 rcases Nat.lt_or_gt_of_ne hne with h | h
 ·exact mvd_ne hN h hj
 ·exact fun e=>mvd_ne hN h hi e.symm
theorem FW_zero {n : Nat} {ys v w : List Int} (hv : P5 n v) (hw : P5 n w) (hy : ys.length=n) (hle : upN v≤upN w) (hne : w ≠ v) : FW n ys v w=0 :=
 Mg.zero (2 * ((ys.map Int.natAbs).sum : Int)) fun N hN _=>by
  have a:=FW_mg (n:=n) (v:=v) (w:=w) (mvd_mg (N:=N) hy)
  rw [(van_dst (mvd_dst hN) _ v hv rfl).1 w hw hle hne] at a
  exact a
theorem FW_self {n : Nat} {ys v : List Int} (hv : P5 n v) (hy : ys.length=n) : FW n ys v v=prodP ys (invs v):=by
 have : FW n ys v v - prodP ys (invs v)=0 :=
  Mg.zero (2 * ((ys.map Int.natAbs).sum : Int)) fun N hN _=>by
   have a:=(FW_mg (n:=n) (v:=v) (w:=v) (mvd_mg (N:=N) hy)).sub (prodP_mg (mvd_mg (N:=N) hy) (invs v))
   rw [(van_dst (mvd_dst hN) _ v hv rfl).2,Int.sub_self] at a
   exact a
 omega
theorem sumS_snoc {n : Nat} {ys : List Int} {k : Nat} (hk : k+1 < n) : ∀ (r : List Nat) (v u h : List Int),P5 n v→P5 n h→u.length=n→(∀ j ∈ r,j+1 < n) →
 sumS v ys (r ++ [k]) u h=sumS v ys r u h+(if ascB k v then 0 else df ys (play r u) k * sumS (sw k v) ys r u h)
 | [],v,u,h,hv,hh,hu,_=>by
   simp only [List.nil_append,sumS,play,List.foldl_nil,df]
   congr 1
   cases ha : ascB k h with
   | true =>
     have a:=(hh.asc hk ha).2
     by_cases e : sw k h=v
     ·have e2 : h=sw k v:=by rw [← e,sw_sw (by have:=hh.len;omega)]
      rw [← e,a,sw_sw (by have:=hh.len;omega)]
      simp
     ·have e2 : ¬ h=sw k v:=fun e2=>e (by rw [e2,sw_sw (by have:=hv.len;omega)])
      simp [e,e2]
   | false =>
     cases hb : ascB k v with
     | true=>simp
     | false =>
       have e2 : ¬ h=sw k v:=fun e2=>by
        have:=(hv.desc hk hb).2
        rw [← e2,ha] at this
        cases this
       simp [e2]
 | j :: r,v,u,h,hv,hh,hu,hr=>by
   have hj : j+1 < n:=hr j List.mem_cons_self
   have hr' : ∀ j ∈ r,j+1 < n:=fun i hi=>hr i (List.mem_cons_of_mem _ hi)
   have i1:=sumS_snoc (ys:=ys) hk r v (sw j u) h hv hh (by rw [sw_length];exact hu) hr'
   have i2:=sumS_snoc (ys:=ys) hk r v (sw j u) (sw j h) hv (hh.sw hj) (by rw [sw_length];exact hu) hr'
   rw [List.cons_append,sumS,i1,i2,sumS,sumS]
   show _=_+(if ascB k v then 0 else df ys (play r (sw j u)) k * _)
   cases ascB k v <;> cases ascB j h <;> simp <;> grind
theorem play_p5 {n : Nat} : ∀ (r : List Nat) (u : List Int),P5 n u→(∀ j ∈ r,j+1 < n)→P5 n (play r u)
 | [],u,h,_=>h
 | j :: r,u,h,hr=>play_p5 r (sw j u) (h.sw (hr j List.mem_cons_self)) fun i hi=>hr i (List.mem_cons_of_mem _ hi)
theorem play_snoc (r : List Nat) (k : Nat) (u : List Int) : play (r ++ [k]) u=sw k (play r u):=by simp [play]
theorem id_most {n : Nat} {v : List Int} (hv : P5 n v) (h1 : 1≤n) : upN v≤upN (idL n)∧lnN (idL n)=0∧invs (idL n)=[]:=by
 have h5:=hv.le
 have a:=(wrd_at hv).2.2.2
 have b:=(wrd_at (P5.id h1 h5)).2.2.2
 have c : ∀ n : Fin 6,lnN (idL n)=0∧invs (idL n)=[]:=by decide
 have d:=c ⟨n,by omega⟩
 simp only at d
 refine ⟨by omega,d⟩
theorem sum_val {n : Nat} {ys : List Int} (hy : ys.length=n) (h1 : 1≤n) (h5 : n≤5) : ∀ (m : Nat) (r : List Nat) (v : List Int),r.length=m→P5 n v→(∀ j ∈ r,j+1 < n)→FW n ys v (play r (idL n))=sumS v ys r (idL n) (idL n):=by
 intro m
 induction m with
 | zero =>
   intro r v hr hv _
   obtain rfl:=List.eq_nil_of_length_eq_zero hr
   have hi:=P5.id h1 h5
   have a:=id_most hv h1
   show FW n ys v (idL n)=_
   rw [sumS]
   by_cases e : idL n=v
   ·rw [if_pos e,← e,FW_self hi hy,a.2.2];rfl
   ·rw [if_neg e]
    exact FW_zero hv hi hy a.1 e
 | succ m ih =>
   intro r v hr hv hrk
   have hne : r ≠ []:=fun e=>by rw [e] at hr;cases hr
   obtain ⟨r',k,rfl⟩ : ∃ r' k,r=r' ++ [k]:=⟨r.dropLast,r.getLast hne,(List.dropLast_concat_getLast hne).symm⟩
   have hk : k+1 < n:=hrk k (by simp)
   have hrk' : ∀ j ∈ r',j+1 < n:=fun j hj=>hrk j (by simp [hj])
   have hl : r'.length=m:=by simpa using hr
   have hi:=P5.id h1 h5
   rw [play_snoc,FW_rec hv (play_p5 r' _ hi hrk') hk,sumS_snoc hk r' v _ _ hv hi hi.len hrk',ih r' v hl hv hrk',ih r' (sw k v) hl (hv.sw hk) hrk']
def sumF (F : List Int→Int) (L : List (List Int)) : Int:=(L.map F).sum
theorem sumF_nil (F : List Int→Int) : sumF F []=0:=rfl
theorem sumF_cons (F : List Int→Int) (x : List Int) (L : List (List Int)) : sumF F (x :: L)=F x+sumF F L:=by simp [sumF]
theorem sumF_append (F : List Int→Int) : ∀ A B : List (List Int),sumF F (A ++ B)=sumF F A+sumF F B
 | [],B=>by rw [List.nil_append,sumF_nil,Int.zero_add]
 | x :: A,B=>by rw [List.cons_append,sumF_cons,sumF_cons,sumF_append F A B,Int.add_assoc]
theorem sumF_perm (F : List Int→Int) {A B : List (List Int)} (h : A.Perm B) : sumF F A=sumF F B:=by
 induction h with
 | nil=>rfl
 | cons x _ ih=>rw [sumF_cons,sumF_cons,ih]
 | swap x y l=>simp only [sumF_cons];omega
 | trans _ _ a b=>exact a.trans b
theorem sumF_congr {F G : List Int→Int} : ∀ {L : List (List Int)},(∀ x ∈ L,F x=G x)→sumF F L=sumF G L
 | [],_=>rfl
 | x :: L,h=>by rw [sumF_cons,sumF_cons,h x List.mem_cons_self,sumF_congr fun y hy=>h y (List.mem_cons_of_mem _ hy)]
theorem sumF_zero {F : List Int→Int} : ∀ {L : List (List Int)},(∀ x ∈ L,F x=0)→sumF F L=0
 | [],_=>rfl
 | x :: L,h=>by rw [sumF_cons,h x List.mem_cons_self,sumF_zero fun y hy=>h y (List.mem_cons_of_mem _ hy)];rfl
theorem sumF_add (F G : List Int→Int) : ∀ L : List (List Int),sumF (fun x=>F x+G x) L=sumF F L+sumF G L
 | []=>rfl
 | x :: L=>by rw [sumF_cons,sumF_cons,sumF_cons,sumF_add F G L];omega
theorem sumF_sub (F G : List Int→Int) : ∀ L : List (List Int),sumF (fun x=>F x - G x) L=sumF F L - sumF G L
 | []=>rfl
 | x :: L=>by rw [sumF_cons,sumF_cons,sumF_cons,sumF_sub F G L];omega
theorem sumF_mul (a : Int) (F : List Int→Int) : ∀ L : List (List Int),sumF (fun x=>a * F x) L=a * sumF F L
 | []=>by rw [sumF_nil,sumF_nil,Int.mul_zero]
 | x :: L=>by rw [sumF_cons,sumF_cons,sumF_mul a F L,Int.mul_add]
theorem sumF_swap (G : List Int→List Int→Int) (B : List (List Int)) : ∀ A : List (List Int),sumF (fun w=>sumF (fun u=>G w u) B) A=sumF (fun u=>sumF (fun w=>G w u) A) B
 | []=>by rw [sumF_nil];exact (sumF_zero fun _ _=>rfl).symm
 | x :: A=>by
   rw [sumF_cons,sumF_swap G B A,← sumF_add]
   exact sumF_congr fun u _=>(sumF_cons (fun w=>G w u) x A).symm
def cvUp (v : List Int) (k : Nat) : List (List Int):=((List.range v.length).filter fun j=>decide (k < j) && decide (lnN (swapL v k j)=lnN v+1)).map fun j=>swapL v k j
def cvDn (v : List Int) (k : Nat) : List (List Int):=((List.range k).filter fun j=>decide (lnN (swapL v j k)=lnN v+1)).map fun j=>swapL v j k
def dwn (m : Nat) (L : List (List Int)) : List (List Int):=(L.filter fun u=> !ascB m u).map (sw m)
def swN (m k : Nat) : Nat:=if k=m then m+1 else if k=m+1 then m else k
def chA (v : List Int) (k m : Nat) : List (List Int):=(if k=m then [v] else []) ++ ((if ascB m v then [] else cvUp (sw m v) (swN m k)) ++ dwn m (cvDn v k))
def chB (v : List Int) (k m : Nat) : List (List Int):=(if k=m+1 then [v] else []) ++ ((if ascB m v then [] else cvDn (sw m v) (swN m k)) ++ dwn m (cvUp v k))
def chvB (v : List Int) : Bool:=(List.range v.length).all fun k=>((List.range (v.length - 1)).all fun m=>(chA v k m).isPerm (chB v k m)) &&
 (cvUp v k).all (fun u=>permOk u && decide (u.length=v.length) && decide (lnN u=lnN v+1)) && (cvDn v k).all (fun u=>permOk u && decide (u.length=v.length) && decide (lnN u=lnN v+1))
theorem chv_all : all5 chvB=true:=by decide +kernel
theorem chv_at {n : Nat} {v : List Int} (hv : P5 n v) {k : Nat} (hk : k < n) : (∀ m,m+1 < n→(chA v k m).Perm (chB v k m))∧(∀ u ∈ cvUp v k,P5 n u∧lnN u=lnN v+1) ∧ ∀ u ∈ cvDn v k,P5 n u∧lnN u=lnN v+1:=by
 have:=all5_at chv_all hv.ok (by have:=hv.len;have:=hv.le;omega)
 simp only [chvB,List.all_eq_true,List.mem_range,Bool.and_eq_true,decide_eq_true_eq] at this
 obtain ⟨⟨h1,h2⟩,h3⟩:=this k (by rw [hv.len];exact hk)
 refine ⟨fun m hm=>List.isPerm_iff.1 (h1 m (by rw [hv.len];omega)),fun u hu=> ?_,fun u hu=> ?_⟩
 ·obtain ⟨⟨a,b⟩,c⟩:=h2 u hu
  exact ⟨⟨a,by rw [b,hv.len],hv.le⟩,c⟩
 ·obtain ⟨⟨a,b⟩,c⟩:=h3 u hu
  exact ⟨⟨a,by rw [b,hv.len],hv.le⟩,c⟩
def yAt (ys w : List Int) (k : Nat) : Int:=ys.getD (w.getD k 0).toNat 0
theorem df_y (ys w : List Int) (k : Nat) : df ys w k=yAt ys w (k+1) - yAt ys w k:=rfl
theorem yAt_sw {ys w : List Int} {m k : Nat} (hm : m+1 < w.length) : yAt ys (sw m w) k=yAt ys w (swN m k):=by
 unfold yAt swN
 rw [sw_getD hm]
 by_cases h1 : k=m
 ·rw [if_pos h1,if_neg (by omega),if_pos h1]
 ·by_cases h2 : k=m+1
  ·rw [if_pos h2,if_neg h1,if_pos h2]
  ·rw [if_neg h2,if_neg h1,if_neg h1,if_neg h2]
theorem swN_swN (m k : Nat) : swN m (swN m k)=k:=by
 unfold swN
 by_cases h1 : k=m
 ·rw [if_pos h1,if_neg (by omega),if_pos rfl,h1]
 ·by_cases h2 : k=m+1
  ·rw [if_neg h1,if_pos h2,if_pos rfl,h2]
  ·rw [if_neg h1,if_neg h2,if_neg h1,if_neg h2]
theorem swN_lt {m k n : Nat} (hk : k < n) (hm : m+1 < n) : swN m k < n:=by
 unfold swN
 by_cases h1 : k=m
 ·rw [if_pos h1];exact hm
 ·rw [if_neg h1]
  by_cases h2 : k=m+1
  ·rw [if_pos h2];omega
  ·rw [if_neg h2];exact hk
theorem sumF_rec {n : Nat} {ys w : List Int} (hw : P5 n w) {m : Nat} (hm : m+1 < n) : ∀ {L : List (List Int)},(∀ u ∈ L,P5 n u) →
 sumF (fun u=>FW n ys u (sw m w)) L=sumF (fun u=>FW n ys u w) L+df ys w m * sumF (fun u=>FW n ys u w) (dwn m L)
 | [],_=>by simp [sumF,dwn]
 | x :: L,h=>by
   have ih:=sumF_rec (ys:=ys) hw hm (L:=L) fun u hu=>h u (List.mem_cons_of_mem _ hu)
   have hr:=FW_rec (ys:=ys) (h x List.mem_cons_self) hw hm
   rw [sumF_cons,sumF_cons,ih,hr]
   cases ha : ascB m x with
   | true =>
     have : dwn m (x :: L)=dwn m L:=by simp [dwn,ha]
     rw [this];simp;omega
   | false =>
     have : dwn m (x :: L)=sw m x :: dwn m L:=by simp [dwn,ha]
     rw [this,sumF_cons,Int.mul_add];simp;omega
theorem FW_id {n : Nat} {ys v : List Int} (hy : ys.length=n) (h1 : 1≤n) (hv : P5 n v) : FW n ys v (idL n)=if idL n=v then 1 else 0 :=
 sum_val hy h1 hv.le 0 [] v rfl hv (by simp)
theorem chev {n : Nat} {ys : List Int} (hy : ys.length=n) (h1 : 1≤n) : ∀ (t : Nat) (w : List Int),lnN w=t→P5 n w → ∀ (v : List Int) (k : Nat),P5 n v→k < n →
 yAt ys w k * FW n ys v w=yAt ys v k * FW n ys v w+sumF (fun u=>FW n ys u w) (cvUp v k) - sumF (fun u=>FW n ys u w) (cvDn v k):=by
 intro t
 induction t with
 | zero =>
   intro w ht hw v k hv hk
   obtain rfl:=id_of_len hw ht
   have hc:=chv_at hv hk
   have z : ∀ L : List (List Int),(∀ u ∈ L,P5 n u∧lnN u=lnN v+1)→sumF (fun u=>FW n ys u (idL n)) L=0:=fun L hL=>sumF_zero fun u hu=>by
    obtain ⟨a,b⟩:=hL u hu
    rw [FW_id hy h1 a,if_neg]
    intro e
    rw [← e,ht] at b
    omega
   rw [z _ hc.2.1,z _ hc.2.2,FW_id hy h1 hv]
   by_cases e : idL n=v
   ·rw [← e];omega
   ·rw [if_neg e];omega
 | succ t ih =>
   intro w ht hw v k hv hk
   obtain ⟨m,hm,hd⟩ : ∃ k,k+1 < n∧ascB k w=false:=((blid_at hw).2).resolve_left (by omega)
   have hl:=len_desc hw hm hd
   have hu:=hw.sw hm
   have ss : sw m (sw m w)=w:=sw_sw (by have:=hw.len;omega)
   obtain ⟨x,hx⟩ : ∃ x,x=sw m w:=⟨_,rfl⟩
   rw [← hx] at hl hu ss
   rw [← ss]
   have hc:=chv_at hv hk
   have hp:=sumF_perm (fun u=>FW n ys u x) (hc.1 m hm)
   have i1:=ih x (by omega) hu v k hv hk
   rw [yAt_sw (by have:=hu.len;omega),sumF_rec hu hm fun u h=>(hc.2.1 u h).1,sumF_rec hu hm fun u h=>(hc.2.2 u h).1,FW_rec hv hu hm]
   have hy1 : yAt ys x (swN m k)=yAt ys x k+(if k=m then df ys x m else if k=m+1 then - df ys x m else 0):=by
    unfold swN
    rw [df_y]
    by_cases e1 : k=m
    ·rw [if_pos e1,if_pos e1,e1];omega
    ·rw [if_neg e1,if_neg e1]
     by_cases e2 : k=m+1
     ·rw [if_pos e2,if_pos e2,e2];omega
     ·rw [if_neg e2,if_neg e2];omega
   unfold chA chB at hp
   rw [sumF_append,sumF_append,sumF_append,sumF_append] at hp
   obtain ⟨a,hda⟩ : ∃ a,a=df ys x m:=⟨_,rfl⟩
   obtain ⟨U,hU⟩ : ∃ U,U=sumF (fun u=>FW n ys u x) (cvUp v k):=⟨_,rfl⟩
   obtain ⟨D,hD⟩ : ∃ U,U=sumF (fun u=>FW n ys u x) (cvDn v k):=⟨_,rfl⟩
   obtain ⟨U',hU'⟩ : ∃ U,U=sumF (fun u=>FW n ys u x) (dwn m (cvUp v k)):=⟨_,rfl⟩
   obtain ⟨D',hD'⟩ : ∃ U,U=sumF (fun u=>FW n ys u x) (dwn m (cvDn v k)):=⟨_,rfl⟩
   obtain ⟨fv,hfv⟩ : ∃ U,U=FW n ys v x:=⟨_,rfl⟩
   obtain ⟨yk,hyk⟩ : ∃ U,U=yAt ys x k:=⟨_,rfl⟩
   obtain ⟨vk,hvk⟩ : ∃ U,U=yAt ys v k:=⟨_,rfl⟩
   rw [← hU,← hD,← hfv,← hyk,← hvk] at i1
   rw [← hU',← hD'] at hp
   rw [← hda,← hU,← hD,← hU',← hD',← hfv,← hvk]
   rw [← hyk,← hda] at hy1
   obtain ⟨e,he⟩ : ∃ e : Int,e=if k=m then 1 else if k=m+1 then -1 else 0:=⟨_,rfl⟩
   have hy2 : yAt ys x (swN m k)=yk+e * a:=by
    rw [hy1,he]
    by_cases e1 : k=m
    ·rw [if_pos e1,if_pos e1,Int.one_mul]
    ·rw [if_neg e1,if_neg e1]
     by_cases e2 : k=m+1
     ·rw [if_pos e2,if_pos e2];omega
     ·rw [if_neg e2,if_neg e2];omega
   have hE : sumF (fun u=>FW n ys u x) (if k=m then [v] else []) - sumF (fun u=>FW n ys u x) (if k=m+1 then [v] else [])=e * fv:=by
    rw [he,hfv]
    by_cases e1 : k=m
    ·rw [if_pos e1,if_pos e1,if_neg (by omega)];simp [sumF]
    ·rw [if_neg e1,if_neg e1]
     by_cases e2 : k=m+1
     ·rw [if_pos e2,if_pos e2];simp [sumF]
     ·rw [if_neg e2,if_neg e2];simp [sumF]
   obtain ⟨E1,hE1⟩ : ∃ U,U=sumF (fun u=>FW n ys u x) (if k=m then [v] else []):=⟨_,rfl⟩
   obtain ⟨E2,hE2⟩ : ∃ U,U=sumF (fun u=>FW n ys u x) (if k=m+1 then [v] else []):=⟨_,rfl⟩
   rw [← hE1,← hE2] at hp hE
   cases ha : ascB m v with
   | true =>
     rw [ha] at hp
     simp only [if_true,sumF_nil,Int.zero_add] at hp ⊢
     rw [hy2]
     have h3 : a * (E1+D')=a * (E2+U'):=by rw [hp]
     have h4 : E1=E2+e * fv:=by omega
     rw [h4] at h3
     clear hp hE
     grind
   | false =>
     rw [ha] at hp
     have hvs:=hv.sw hm
     have i2:=ih x (by omega) hu (sw m v) (swN m k) hvs (swN_lt hk hm)
     rw [yAt_sw (by have:=hv.len;omega),swN_swN,← hvk,hy2] at i2
     simp only [Bool.false_eq_true,if_false] at hp ⊢
     obtain ⟨U2,hU2⟩ : ∃ U,U=sumF (fun u=>FW n ys u x) (cvUp (sw m v) (swN m k)):=⟨_,rfl⟩
     obtain ⟨D2,hD2⟩ : ∃ U,U=sumF (fun u=>FW n ys u x) (cvDn (sw m v) (swN m k)):=⟨_,rfl⟩
     obtain ⟨fs,hfs⟩ : ∃ U,U=FW n ys (sw m v) x:=⟨_,rfl⟩
     rw [← hU2,← hD2,← hfs] at i2
     rw [← hU2,← hD2] at hp
     rw [← hfs,hy2]
     have h3 : a * (E1+(U2+D'))=a * (E2+(D2+U')):=by rw [hp]
     have h4 : E1=E2+e * fv:=by omega
     have h5 : a * ((yk+e * a) * fs)=a * (vk * fs+U2 - D2):=by rw [i2]
     rw [h4] at h3
     clear hp hE i2
     grind
end
end Go.Proofs.YtincaodpjdeoeaaGreatDoor
