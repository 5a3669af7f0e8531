/-
  A part of the proof of FnSessions (texts of one proof, joined).
-/
import Derived.WalkSpells
import Derived.WalkLawsBesides
import Derived.Deep.OwnRows
import Derived.BigQuiet
import Derived.Lib.Hide
import Derived.Lib.SmallJoins
import Derived.Test.YtincaodpjdeoeaaGreatDoorProg
import Derived.StillTailTactics
import Derived.Deep.RegionHeld3
import Derived.Deep.DeepCutAuto
namespace Go.Proofs.YtincaodpjdeoeaaGreatDoor
set_option linter.all false
set_option maxRecDepth 100000
set_option maxHeartbeats 16000000
section
open Go.RowKit
structure Frm (lo hi : Nat) (w w' : World) : Prop where
 os : w'.os=w.os
 tape : w'.tape=w.tape
 output : w'.output=w.output
 size : w.heap.size≤w'.heap.size
 block : ∀ k,k < w.heap.size→(k < lo ∨ hi≤k)→w'.heap[k]?=w.heap[k]?
theorem Frm.refl (lo hi : Nat) (w : World) : Frm lo hi w w:=⟨rfl,rfl,rfl,Nat.le_refl _,fun _ _ _=>rfl⟩
theorem Frm.trans {lo hi : Nat} {a b c : World} (h : Frm lo hi a b) (k : Frm lo hi b c) : Frm lo hi a c :=
 ⟨k.os.trans h.os,k.tape.trans h.tape,k.output.trans h.output,Nat.le_trans h.size k.size,
   fun i hi' ho=>(k.block i (Nat.lt_of_lt_of_le hi' h.size) ho).trans (h.block i hi' ho)⟩
theorem Frm.mono {lo hi lo' hi' : Nat} {a b : World} (h : Frm lo hi a b) (h1 : lo'≤lo) (h2 : hi≤hi') : Frm lo' hi' a b :=
 ⟨h.os,h.tape,h.output,h.size,fun i hi' ho=>h.block i hi' (by omega)⟩
theorem Frm.of_below {w w' : World} (h : Below w.heap.size w w') (lo hi : Nat) : Frm lo hi w w' :=
 ⟨h.os,h.tape,h.output,h.size,fun i hi' _=>h.block i hi'⟩
theorem Frm.drewN {lo hi : Nat} {a w : World} (h : Frm lo hi a w) (n : Nat) : Frm lo hi a (w.drewN n):=⟨h.os,h.tape,h.output,h.size,h.block⟩
theorem Frm.below {lo hi : Nat} {a b : World} (h : Frm lo hi a b) {B : Nat} (hB : B≤lo) (hs : B≤a.heap.size) : Below B a b :=
 ⟨h.os,h.tape,h.output,h.size,fun k hk=>h.block k (by omega) (.inl (by omega))⟩
theorem Below.drewN {B : Nat} {a w : World} (h : Below B a w) (n : Nat) : Below B a (w.drewN n):=⟨h.os,h.tape,h.output,h.size,h.block⟩
theorem Below.of_drewN {B : Nat} (w : World) (n : Nat) : Below B w (w.drewN n):=⟨rfl,rfl,rfl,Nat.le_refl _,fun _ _=>rfl⟩
theorem below_trans {a b c : World} (h : Below a.heap.size a b) (k : Below b.heap.size b c) : Below a.heap.size a c:=h.trans (k.mono h.size)
def Qt (w w' : World) : Prop:=∃ n,w'=w.drewN n
theorem Qt.refl (w : World) : Qt w w:=⟨0,rfl⟩
theorem Qt.trans {a b c : World} (h : Qt a b) (k : Qt b c) : Qt a c:=by
 obtain ⟨n,rfl⟩:=h
 obtain ⟨m,rfl⟩:=k
 exact ⟨n+m,World.drewN_drewN _ _ _⟩
theorem Qt.drewN {a b : World} (h : Qt a b) (n : Nat) : Qt a (b.drewN n):=h.trans ⟨n,rfl⟩
theorem Qt.cell {w w' : World} (h : Qt w w') {a : Addr} {x : Value} (hx : w.cell? a=some x) : w'.cell? a=some x:=by
 obtain ⟨n,rfl⟩:=h
 exact hx
theorem Qt.below {w w' : World} (h : Qt w w') (B : Nat) : Below B w w':=by
 obtain ⟨n,rfl⟩:=h
 exact Below.of_drewN w n
theorem Qt.frm {w w' : World} (h : Qt w w') (lo hi : Nat) : Frm lo hi w w':=Frm.of_below (h.below _) lo hi
theorem Qt.size {w w' : World} (h : Qt w w') : w'.heap.size=w.heap.size:=by
 obtain ⟨n,rfl⟩:=h
 rfl
theorem Qt.heap {w w' : World} (h : Qt w w') : w'.heap=w.heap:=by
 obtain ⟨n,rfl⟩:=h
 rfl
theorem quiet_q {P : Program} {f : FuncId} {args : Array Value} {w : World} {n : Nat} {v : Value}
 (h : Calls P f args (w.drewN n) fun e w'=>e=.returned v∧Qt (w.drewN n) w') : Calls P f args (w.drewN n) fun e w''=>e=.returned v ∧ ∃ m,w''=w.drewN m :=
 h.mono fun _ _ ⟨he,m,hm⟩=>⟨he,n+m,by rw [hm,World.drewN_drewN]⟩
def Rd (w : World) (v : Value) (n : Nat) (f : Nat→Value) : Prop :=
 ∃ p cap,v=.slice p n cap∧(n≤cap∧cap≤maxLen)∧(0 < n → ∃ b off,p=some ⟨b,off,none⟩ ∧ ∀ j,j < n→w.cell? ⟨b,off+j,none⟩=some (f j))
def iv (xs : List Int) (j : Nat) : Value:=.int .i64 (xs.getD j 0)
def ivs (xs : List Int) : List Value:=xs.map (Value.int .i64)
def Ints (w : World) (v : Value) (xs : List Int) : Prop:=Rd w v xs.length (iv xs)
theorem Rd.of_cells {w w' : World} {v : Value} {n : Nat} {f : Nat→Value} (h : Rd w v n f) (hc : ∀ a x,w.cell? a=some x→w'.cell? a=some x) : Rd w' v n f:=by
 obtain ⟨p,cap,rfl,hm,h⟩:=h
 refine ⟨p,cap,rfl,hm,fun h0=> ?_⟩
 obtain ⟨b,off,hp,hx⟩:=h h0
 exact ⟨b,off,hp,fun j hj=>hc _ _ (hx j hj)⟩
theorem Rd.below {w w' : World} {v : Value} {n : Nat} {f : Nat→Value} (h : Rd w v n f) (hb : Below w.heap.size w w') : Rd w' v n f :=
 h.of_cells fun a x hx=>by rw [hb.cell (World.block_lt_of_cell? w a hx)];exact hx
theorem Rd.drewN {w : World} {v : Value} {n : Nat} {f : Nat→Value} (h : Rd w v n f) (q : Nat) : Rd (w.drewN q) v n f:=h.of_cells fun _ _ hx=>hx
theorem Rd.qt {w w' : World} {v : Value} {n : Nat} {f : Nat→Value} (h : Rd w v n f) (q : Qt w w') : Rd w' v n f:=h.of_cells fun _ _ hx=>q.cell hx
theorem Rd.congr {w : World} {v : Value} {n : Nat} {f g : Nat→Value} (h : Rd w v n f) (e : ∀ j,j < n→f j=g j) : Rd w v n g:=by
 obtain ⟨p,cap,rfl,hm,h⟩:=h
 refine ⟨p,cap,rfl,hm,fun h0=> ?_⟩
 obtain ⟨b,off,hp,hx⟩:=h h0
 exact ⟨b,off,hp,fun j hj=>by rw [← e j hj];exact hx j hj⟩
theorem Ints.below {w w' : World} {v : Value} {xs : List Int} (h : Ints w v xs) (hb : Below w.heap.size w w') : Ints w' v xs:=Rd.below h hb
theorem Ints.qt {w w' : World} {v : Value} {xs : List Int} (h : Ints w v xs) (q : Qt w w') : Ints w' v xs:=Rd.qt h q
theorem Ints.drewN {w : World} {v : Value} {xs : List Int} (h : Ints w v xs) (q : Nat) : Ints (w.drewN q) v xs:=Rd.drewN h q
def Own (w : World) (lo hi : Nat) (T : TypeId) (size : Nat) (v : Value) (n : Nat) (xs : List Value) : Prop :=
 w.ownsRow lo T size v n xs ∧ ∀ k,v.ownBlock=some k→k < hi
theorem ownsRow_of_block {w w' : World} {lo : Nat} {T : TypeId} {size : Nat} {v : Value} {n : Nat} {xs : List Value} (h : w.ownsRow lo T size v n xs)
 (hb : ∀ k,v.ownBlock=some k→w'.heap[k]?=w.heap[k]?) : w'.ownsRow lo T size v n xs:=by
 refine ⟨h.1,?_⟩
 rcases h.2 with hn | ⟨g,cap,cur,rfl,hb',hg,rest⟩
 ·exact .inl hn
 ·exact .inr ⟨g,cap,cur,rfl,hb',by rw [hb g rfl];exact hg,rest⟩
theorem ownsRow_lo {w : World} {lo lo' : Nat} {T : TypeId} {size : Nat} {v : Value} {n : Nat} {xs : List Value} (h : w.ownsRow lo T size v n xs) (hl : lo'≤lo) : w.ownsRow lo' T size v n xs:=by
 refine ⟨h.1,?_⟩
 rcases h.2 with hn | ⟨g,cap,cur,rfl,hb',hg,rest⟩
 ·exact .inl hn
 ·exact .inr ⟨g,cap,cur,rfl,by omega,hg,rest⟩
namespace Own
variable {w w' : World} {lo hi : Nat} {T : TypeId} {size : Nat} {v : Value} {n : Nat} {xs : List Value}
theorem of_row (h : w.ownsRow lo T size v n xs) : Own w lo w.heap.size T size v n xs:=⟨h,fun k hk=>(h.lt k hk).2⟩
theorem block (h : Own w lo hi T size v n xs) {k : Nat} (hk : v.ownBlock=some k) : lo≤k∧k < hi∧k < w.heap.size:=⟨(h.1.lt k hk).1,h.2 k hk,(h.1.lt k hk).2⟩
theorem mono {lo' hi' : Nat} (h : Own w lo hi T size v n xs) (h1 : lo'≤lo) (h2 : hi≤hi') : Own w lo' hi' T size v n xs :=
 ⟨ownsRow_lo h.1 h1,fun k hk=>Nat.lt_of_lt_of_le (h.2 k hk) h2⟩
theorem keep (h : Own w lo hi T size v n xs) (hb : ∀ k,lo≤k→k < hi→k < w.heap.size→w'.heap[k]?=w.heap[k]?) : Own w' lo hi T size v n xs :=
 ⟨ownsRow_of_block h.1 fun k hk=>hb k (h.block hk).1 (h.block hk).2.1 (h.block hk).2.2,h.2⟩
theorem below (h : Own w lo hi T size v n xs) (hb : Below w.heap.size w w') : Own w' lo hi T size v n xs:=h.keep fun k _ _ h3=>hb.block k h3
theorem frm {lo' hi' : Nat} (h : Own w lo hi T size v n xs) (hb : Frm lo' hi' w w') (ho : hi≤lo' ∨ hi'≤lo) : Own w' lo hi T size v n xs :=
 h.keep fun k h1 h2 h3=>hb.block k h3 (by omega)
theorem drewN (h : Own w lo hi T size v n xs) (q : Nat) : Own (w.drewN q) lo hi T size v n xs:=h.keep fun _ _ _ _=>rfl
theorem len (h : Own w lo hi T size v n xs) : xs.length=n * size:=h.1.1
end Own
theorem length_ivs (xs : List Int) : (ivs xs).length=xs.length:=by simp [ivs]
theorem getElem?_ivs (xs : List Int) (j : Nat) (h : j < xs.length) : (ivs xs)[j]?=some (iv xs j):=by simp [ivs,iv,h]
def OwnI (T : TypeId) (w : World) (lo hi : Nat) (v : Value) (xs : List Int) : Prop:=Own w lo hi T 1 v xs.length (ivs xs)
theorem ownsRow_rd {w : World} {lo : Nat} {T : TypeId} {v : Value} {n : Nat} {xs : List Value} (h : w.ownsRow lo T 1 v n xs) {f : Nat→Value} (hf : ∀ j,j < n→xs[j]?=some (f j)) : Rd w v n f:=by
 rcases h.2 with ⟨rfl,rfl⟩ | ⟨g,cap,cur,rfl,_,_,hm,hm2,_⟩
 ·exact ⟨none,0,rfl,⟨Nat.le_refl _,Nat.zero_le _⟩,fun h0=>absurd h0 (by omega)⟩
 ·refine ⟨_,cap,rfl,⟨hm,hm2⟩,fun _=>⟨g,0,rfl,fun j hj=> ?_⟩⟩
  have:=h.cells (g:=g) rfl j _ (hf j hj)
  have hadd : (⟨g,0,none⟩ : Addr).add j=⟨g,0+j,none⟩:=by unfold Addr.add;split <;> simp_all
  rw [hadd] at this
  exact this
theorem OwnI.ints {T : TypeId} {w : World} {lo hi : Nat} {v : Value} {xs : List Int} (h : OwnI T w lo hi v xs) : Ints w v xs :=
 ownsRow_rd h.1 fun j hj=>getElem?_ivs xs j hj
theorem OwnI.below {T : TypeId} {w w' : World} {lo hi : Nat} {v : Value} {xs : List Int} (h : OwnI T w lo hi v xs) (hb : Below w.heap.size w w') : OwnI T w' lo hi v xs:=Own.below h hb
theorem OwnI.frm {T : TypeId} {w w' : World} {lo hi lo' hi' : Nat} {v : Value} {xs : List Int} (h : OwnI T w lo hi v xs) (hb : Frm lo' hi' w w') (ho : hi≤lo' ∨ hi'≤lo) : OwnI T w' lo hi v xs:=Own.frm h hb ho
theorem rowIs_owns {w : World} {b : Nat} {T : TypeId} {n : Nat} {f : Nat→Value} (h : w.rowIs b T n f) (hm : n≤maxLen) {xs : List Value} (hl : xs.length=n) (hf : ∀ j,j < n→xs[j]?=some (f j)) :
 w.ownsRow b T 1 (.slice (some ⟨b,0,none⟩) n n) n xs:=by
 obtain ⟨c,hb,hn,hc⟩:=h
 refine ⟨by omega,.inr ⟨b,n,c,rfl,Nat.le_refl _,hb,Nat.le_refl _,hm,by omega,?_⟩⟩
 rw [Nat.mul_one,List.take_of_length_le (by simp [hn])]
 apply List.ext_getElem?
 intro i
 by_cases hi : i < n
 ·rw [hf i hi,Array.getElem?_toList,hc i hi]
 ·rw [List.getElem?_eq_none (by simp;omega),List.getElem?_eq_none (by omega)]
theorem rowIs_ints {w : World} {b : Nat} {T : TypeId} {xs : List Int} (h : w.rowIs b T xs.length (iv xs)) (hm : xs.length≤maxLen) :
 OwnI T w b w.heap.size (.slice (some ⟨b,0,none⟩) xs.length xs.length) xs :=
 Own.of_row (rowIs_owns h hm (length_ivs xs) fun j hj=>getElem?_ivs xs j hj)
theorem Own.row {w : World} {lo hi : Nat} {T : TypeId} {v : Value} {n : Nat} {xs : List Value} (h : Own w lo hi T 1 v n xs) :
 (v=.slice none 0 0∧n=0∧xs=[]) ∨ ∃ g cap F,v=.slice (some ⟨g,0,none⟩) n cap∧lo≤g∧g < hi∧n≤cap∧cap≤maxLen∧w.rowIs g T cap F ∧ ∀ j,j < n→xs[j]?=some (F j):=by
 obtain ⟨⟨hl,hr⟩,hh⟩:=h
 rcases hr with ⟨rfl,rfl⟩ | ⟨g,cap,cur,rfl,hb,hg,hn,hm,hs,ht⟩
 ·exact .inl ⟨rfl,rfl,List.eq_nil_of_length_eq_zero (by omega)⟩
 ·refine .inr ⟨g,cap,fun j=>cur.getD j undef,rfl,hb,hh g rfl,hn,hm,⟨cur,hg,by omega,fun i hi=> ?_⟩,fun j hj=> ?_⟩
  ·simp [show i < cur.size by omega]
  ·rw [← ht,List.getElem?_take,if_pos (by omega),Array.getElem?_toList]
   simp [show j < cur.size by omega]
theorem Own.of_rowIs {w : World} {lo hi g n cap : Nat} {T : TypeId} {F : Nat→Value} (h : w.rowIs g T cap F) (h1 : lo≤g) (h2 : g < hi) (h3 : n≤cap) (h4 : cap≤maxLen) {xs : List Value} (hl : xs.length=n) (hf : ∀ j,j < n→xs[j]?=some (F j)) :
 Own w lo hi T 1 (.slice (some ⟨g,0,none⟩) n cap) n xs:=by
 obtain ⟨c,hb,hn,hc⟩:=h
 refine ⟨⟨by omega,.inr ⟨g,cap,c,rfl,h1,hb,h3,h4,by omega,?_⟩⟩,fun k hk=>by simp [Value.ownBlock] at hk;omega⟩
 apply List.ext_getElem?
 intro i
 rw [Nat.mul_one,List.getElem?_take]
 by_cases hi : i < n
 ·rw [if_pos hi,hf i hi,Array.getElem?_toList,hc i (by omega)]
 ·rw [if_neg hi,List.getElem?_eq_none (by omega)]
def OwnF (w : World) (lo hi : Nat) (T : TypeId) (v : Value) (n : Nat) (f : Nat→Value) : Prop :=
 ∃ xs,Own w lo hi T 1 v n xs ∧ ∀ j,j < n→xs[j]?=some (f j)
namespace OwnF
variable {w w' : World} {lo hi : Nat} {T : TypeId} {v : Value} {n : Nat} {f : Nat→Value}
theorem shape (h : OwnF w lo hi T v n f) : ∃ p cap,v=.slice p n cap∧n≤cap∧cap≤maxLen∧(0 < n → ∃ g,p=some ⟨g,0,none⟩∧lo≤g∧g < hi∧g < w.heap.size):=by
 obtain ⟨xs,h,_⟩:=h
 rcases Own.row h with ⟨rfl,rfl,_⟩ | ⟨g,cap,F,rfl,h1,h2,h3,h4,hr,_⟩
 ·exact ⟨none,0,rfl,Nat.le_refl _,Nat.zero_le _,fun h=>absurd h (Nat.lt_irrefl _)⟩
 ·exact ⟨_,cap,rfl,h3,h4,fun _=>⟨g,rfl,h1,h2,hr.lt⟩⟩
theorem at_ {p : Option Addr} {cap : Nat} (h : OwnF w lo hi T (.slice p n cap) n f) (h0 : 0 < n) : ∃ g,p=some ⟨g,0,none⟩∧lo≤g∧g < hi∧g < w.heap.size:=by
 obtain ⟨p',cap',e,_,_,h⟩:=h.shape
 injection e with e1 e2 e3
 subst e1
 exact h h0
theorem le {p : Option Addr} {m cap : Nat} (h : OwnF w lo hi T (.slice p m cap) n f) : m=n∧n≤cap∧cap≤maxLen:=by
 obtain ⟨p',cap',e,h1,h2,_⟩:=h.shape
 injection e with e1 e2 e3
 omega
theorem opened {g n' cap : Nat} (h : OwnF w lo hi T (.slice (some ⟨g,0,none⟩) n' cap) n f) : ∃ F,w.rowIs g T cap F∧(∀ j,j < n→F j=f j)∧lo≤g∧g < hi∧n≤cap∧cap≤maxLen∧n'=n:=by
 obtain ⟨xs,h,hf⟩:=h
 rcases Own.row h with ⟨e,_,_⟩ | ⟨g',cap',F,e,h1,h2,h3,h4,hr,hF⟩
 ·injection e with e1;cases e1
 ·injection e with e1 e2 e3
  injection e1 with e1
  injection e1 with e1
  subst e1 e2 e3
  exact ⟨F,hr,fun j hj=>Option.some.inj ((hF j hj).symm.trans (hf j hj)),h1,h2,h3,h4,rfl⟩
theorem mk' {g cap : Nat} {F : Nat→Value} (h : w.rowIs g T cap F) (h1 : lo≤g) (h2 : g < hi) (h3 : n≤cap) (h4 : cap≤maxLen) (hf : ∀ j,j < n→F j=f j) : OwnF w lo hi T (.slice (some ⟨g,0,none⟩) n cap) n f :=
 ⟨(List.range n).map f,Own.of_rowIs h h1 h2 h3 h4 (by simp) (fun j hj=>by simp [hj,hf j hj]),fun j hj=>by simp [hj]⟩
theorem cell {g n' cap : Nat} (h : OwnF w lo hi T (.slice (some ⟨g,0,none⟩) n' cap) n f) {j : Nat} (hj : j < n) : w.cell? ⟨g,j,none⟩=some (f j):=by
 obtain ⟨F,hr,hF,_,_,h3,_⟩:=h.opened
 rw [hr.cell (by omega),hF j hj]
theorem frozen {g n' cap : Nat} (h : OwnF w lo hi T (.slice (some ⟨g,0,none⟩) n' cap) n f) (j : Nat) : w.frozen? ⟨g,j,none⟩=false:=by
 obtain ⟨F,hr,_⟩:=h.opened
 exact hr.frozen j
theorem set {g n' cap : Nat} (h : OwnF w lo hi T (.slice (some ⟨g,0,none⟩) n' cap) n f) (k : Nat) (u : Value) : OwnF (w.setCell ⟨g,k,none⟩ u) lo hi T (.slice (some ⟨g,0,none⟩) n' cap) n (fun j=>if j=k then u else f j):=by
 obtain ⟨F,hr,hF,h1,h2,h3,h4,rfl⟩:=h.opened
 exact mk' (hr.set k u) h1 h2 h3 h4 fun j hj=>by by_cases e : j=k <;> simp [e,hF j hj]
theorem congr {f' : Nat→Value} (h : OwnF w lo hi T v n f) (e : ∀ j,j < n→f j=f' j) : OwnF w lo hi T v n f':=by
 obtain ⟨xs,h,hf⟩:=h
 exact ⟨xs,h,fun j hj=>by rw [hf j hj,e j hj]⟩
theorem keep (h : OwnF w lo hi T v n f) (hb : ∀ k,lo≤k→k < hi→k < w.heap.size→w'.heap[k]?=w.heap[k]?) : OwnF w' lo hi T v n f:=by
 obtain ⟨xs,h,hf⟩:=h
 exact ⟨xs,h.keep hb,hf⟩
theorem below (h : OwnF w lo hi T v n f) (hb : Below w.heap.size w w') : OwnF w' lo hi T v n f:=h.keep fun k _ _ h3=>hb.block k h3
theorem frm {lo' hi' : Nat} (h : OwnF w lo hi T v n f) (hb : Frm lo' hi' w w') (ho : hi≤lo' ∨ hi'≤lo) : OwnF w' lo hi T v n f:=h.keep fun k h1 h2 h3=>hb.block k h3 (by omega)
theorem mono {lo' hi' : Nat} (h : OwnF w lo hi T v n f) (h1 : lo'≤lo) (h2 : hi≤hi') : OwnF w lo' hi' T v n f:=by
 obtain ⟨xs,h,hf⟩:=h
 exact ⟨xs,h.mono h1 h2,hf⟩
theorem rd (h : OwnF w lo hi T v n f) : Rd w v n f:=by
 obtain ⟨xs,h,hf⟩:=h
 exact ownsRow_rd h.1 hf
theorem ints {xs : List Int} (h : OwnF w lo hi T v xs.length (iv xs)) : OwnI T w lo hi v xs:=by
 obtain ⟨ys,h,hf⟩:=h
 obtain rfl : ys=ivs xs:=by
  apply List.ext_getElem?
  intro j
  by_cases hj : j < xs.length
  ·rw [hf j hj,getElem?_ivs xs j hj]
  ·rw [List.getElem?_eq_none (by have:=h.len;omega),List.getElem?_eq_none (by rw [length_ivs];omega)]
 exact h
end OwnF
theorem OwnI.fn {T : TypeId} {w : World} {lo hi : Nat} {v : Value} {xs : List Int} (h : OwnI T w lo hi v xs) : OwnF w lo hi T v xs.length (iv xs):=⟨_,h,fun j hj=>getElem?_ivs xs j hj⟩
theorem Frm.setCell {lo hi : Nat} {a w : World} (h : Frm lo hi a w) {p : Addr} (h1 : lo≤p.block) (h2 : p.block < hi) (u : Value) : Frm lo hi a (w.setCell p u) :=
 h.trans ⟨rfl,rfl,rfl,by simp [World.setCell],fun k hk ho=>Below.heap_setCell _ _ _ _ (by omega)⟩
theorem heap_alloc_top (w : World) (o : Obj) : (w.alloc o).heap[w.heap.size]?=some o:=heap_alloc_new w o
theorem heap_alloc_at (w : World) (o : Obj) {k : Nat} (h : k=w.heap.size) : (w.alloc o).heap[k]?=some o:=by rw [h];exact heap_alloc_top w o
theorem below_alloc (w : World) (o : Obj) : Below w.heap.size w (w.alloc o):=(Below.refl _ _).alloc (Nat.le_refl _) _
theorem below_alloc2 (w : World) (o p : Obj) : Below w.heap.size w ((w.alloc o).alloc p):=(below_alloc w o).alloc (by simp) _
theorem heap_alloc_low (w : World) (o : Obj) {k : Nat} (h : k < w.heap.size) : (w.alloc o).heap[k]?=w.heap[k]?:=heap_alloc_old w o h
theorem size_alloc (w : World) (o : Obj) : (w.alloc o).heap.size=w.heap.size+1:=by simp
theorem cell_of_blk {w : World} {b : Nat} {c : Array Value} {T : TypeId} {q : Nat × Nat} (h : w.heap[b]?=some (.cells c T q)) {j : Nat} {x : Value} (hj : c[j]?=some x) : w.cell? ⟨b,j,none⟩=some x:=by
 simp [World.cell?,h,hj]
theorem free_of_blk {w : World} {b : Nat} {c : Array Value} {T : TypeId} (h : w.heap[b]?=some (.cells c T (0,0))) (j : Nat) : w.frozen? ⟨b,j,none⟩=false:=by
 simp [World.frozen?,h]
theorem heap_setCell_at {w : World} {b : Nat} {c : Array Value} {T : TypeId} {q : Nat × Nat} (h : w.heap[b]?=some (.cells c T q)) (j : Nat) (u : Value) : (w.setCell ⟨b,j,none⟩ u).heap[b]?=some (.cells (c.setIfInBounds j u) T q):=by
 simp [World.setCell,Array.getElem?_modify,h]
theorem OwnI.shape {T : TypeId} {w : World} {lo hi : Nat} {v : Value} {xs : List Int} (h : OwnI T w lo hi v xs) : ∃ p cap,v=.slice p xs.length cap∧xs.length≤cap∧cap≤maxLen:=by
 obtain ⟨p,cap,e,h1,h2,_⟩:=h.fn.shape
 exact ⟨p,cap,e,h1,h2⟩
theorem Own.setCell {w : World} {lo hi : Nat} {T : TypeId} {size : Nat} {v : Value} {n : Nat} {xs : List Value} (h : Own w lo hi T size v n xs) {a : Addr} (ho : a.block < lo ∨ hi≤a.block) (u : Value) : Own (w.setCell a u) lo hi T size v n xs :=
 h.keep fun k h1 h2 _=>Below.heap_setCell _ _ _ _ (by omega)
theorem OwnI.setCell {T : TypeId} {w : World} {lo hi : Nat} {v : Value} {xs : List Int} (h : OwnI T w lo hi v xs) {a : Addr} (ho : a.block < lo ∨ hi≤a.block) (u : Value) : OwnI T (w.setCell a u) lo hi v xs:=Own.setCell h ho u
theorem OwnI.mono {T : TypeId} {w : World} {lo hi lo' hi' : Nat} {v : Value} {xs : List Int} (h : OwnI T w lo hi v xs) (h1 : lo'≤lo) (h2 : hi≤hi') : OwnI T w lo' hi' v xs:=Own.mono h h1 h2
theorem size_setCell (w : World) (a : Addr) (u : Value) : (w.setCell a u).heap.size=w.heap.size:=by simp [World.setCell]
theorem OwnF.setCell {w : World} {lo hi : Nat} {T : TypeId} {v : Value} {n : Nat} {f : Nat→Value} (h : OwnF w lo hi T v n f) {a : Addr} (ho : a.block < lo ∨ hi≤a.block) (u : Value) : OwnF (w.setCell a u) lo hi T v n f :=
 h.keep fun k h1 h2 _=>Below.heap_setCell _ _ _ _ (by omega)
theorem blk_later {w w' : World} {b : Nat} {o : Obj} (h : w.heap[b]?=some o) (hb : Below w.heap.size w w') : w'.heap[b]?=some o:=by
 rw [hb.block b (Array.getElem?_eq_some_iff.1 h).1];exact h
theorem blk_lt {w : World} {b : Nat} {o : Obj} (h : w.heap[b]?=some o) : b < w.heap.size:=(Array.getElem?_eq_some_iff.1 h).1
theorem getD_lt {xs : List Int} {k : Nat} (h : k < xs.length) : xs.getD k 0=xs[k]:=by simp [List.getD_eq_getElem?_getD,h]
theorem getD_eq_list {xs ys : List Int} (hl : xs.length=ys.length) (h : ∀ j,j < xs.length→xs.getD j 0=ys.getD j 0) : xs=ys:=by
 apply List.ext_getElem hl
 intro i h1 h2
 have:=h i h1
 simpa [List.getD_eq_getElem?_getD,h1,h2] using this
theorem quiet_same {P : Program} {f : FuncId} {args : Array Value} {w : World} {n : Nat} {v : Value}
 (h : Calls P f args (w.drewN n) fun e w'=>e=.returned v∧w.drewN n=w') : Calls P f args (w.drewN n) fun e w''=>e=.returned v ∧ ∃ m,w''=w.drewN m :=
 h.mono fun _ _ ⟨he,hm⟩=>⟨he,n,hm.symm⟩
theorem w64 {n : Int} (h0 : -1000000000000000000≤n) (h1 : n≤1000000000000000000) : wrap64 n=n:=IntWalk.wrap64_in n (by omega)
theorem k64 {n : Int} (h0 : -1000000000000000000≤n) (h1 : n≤1000000000000000000) : IntKind.i64.wrap n=n:=IntWalk.i64_in n (by omega)
theorem ret_bool {a b : Bool} (h : a=b) : Ending.returned (.bool a)=.returned (.bool b):=by rw [h]
theorem ret_int {k : IntKind} {a b : Int} (h : a=b) : Ending.returned (.int k a)=.returned (.int k b):=by rw [h]
def runs (m : Int) (n : Nat) : List Int:=(List.range n).map fun (i : Nat)=>m+(i : Int)
theorem info_int : (Tryz.prog.info? 3).map (fun i=>(i.zero,i.size,i.bytes))=some (some (.int .i64 0),1,8):=by kernel_rfl
structure Mx where
 P : Int
 R : Int
 C : Int
 D : List Int
def mxZero : Mx:=⟨0,0,0,[]⟩
theorem Frm.blk {lo hi : Nat} {w w' : World} {b : Nat} {o : Obj} (hf : Frm lo hi w w') (h : w.heap[b]?=some o) (ho : b < lo ∨ hi≤b) : w'.heap[b]?=some o:=by
 rw [hf.block b (blk_lt h) ho];exact h
section
variable {P : Program} (w : World)
theorem run_append_none (t ty e : TypeId) (i : TypeInfo) (ht : P.underlying t=some (.slice e)) (hi : P.info? e=some i) (p q : Option Addr) (n cap c : Nat) (hn : n≤cap) :
 (Builtin.append_ #[t,t] ty #[.slice p n cap,.slice q 0 c]).run P w=.ok (.slice p n cap) w:=by
 cases p <;> cases q <;>
  simp [Builtin.append_,run_underlying ht,sizeOf,typeInfo,hi,Builtin.lenOf,Builtin.firstCells,hn,loadCells,loadCellsFrom,storeCells]
theorem run_append_F (t ty e : TypeId) (i : TypeInfo) (z : Value) (bytes : Nat) (ht : P.underlying t=some (.slice e)) (hi : P.info? e=some i) (hz : i.zero=some z)
 (hsize : i.size=1) (hby : i.bytes=bytes) (hzs : z.cells.size=1)
 (lo hi' : Nat) (v : Value) (n : Nat) (f : Nat→Value) (hown : OwnF w lo hi' e v n f) (hlo : lo≤w.heap.size) (hhi : hi'≤w.heap.size)
 (u : Value) (m : Nat) (g : Nat→Value) (hx : Rd w u m g) (h1 : ∀ j,j < m→(g j).oneCell'=true) (h63 : n+m≤maxLen) (hbytes : (n+m) * bytes≤140737488355328) :
 ∃ v' w',(Builtin.append_ #[t,t] ty #[v,u]).run P w=.ok v' w'∧OwnF w' lo w'.heap.size e v' (n+m) (fun j=>if j < n then f j else g (j - n))∧w.grownBy w' v.ownBlock:=by
 obtain ⟨q,c,rfl,⟨hmc,hcm⟩,hxc⟩:=hx
 by_cases hm : m=0
 ·subst hm
  obtain ⟨p,cap,rfl,hnc,_,_⟩:=hown.shape
  exact ⟨_,_,run_append_none w t ty e i ht hi p q n cap c hnc,(hown.mono (Nat.le_refl _) hhi).congr fun j hj=>by rw [if_pos (by omega)],World.grownBy.refl _ _⟩
 ·obtain ⟨b,off,rfl,hc⟩:=hxc (by omega)
  obtain ⟨xs,ho,hf⟩:=hown
  obtain ⟨v',w',hr,h2,h3,_⟩:=run_append_own (P:=P) w lo t ty e i z 1 bytes ht hi hz hsize hby hzs (by omega) v n xs ho.1 ⟨b,off,none⟩ m c ((List.range m).map g) (by simp)
   (fun j x hx=>by
     have hj : j < m:=by
      rcases Nat.lt_or_ge j m with h | h
      ·exact h
      ·rw [List.getElem?_eq_none (by simpa using h)] at hx;cases hx
     simp [hj] at hx
     subst hx
     have hadd : (⟨b,off,none⟩ : Addr).add j=⟨b,off+j,none⟩:=by unfold Addr.add;split <;> simp_all
     rw [hadd]
     exact hc j hj)
   (fun x hx=>by
     simp only [List.mem_map,List.mem_range] at hx
     obtain ⟨j,hj,rfl⟩:=hx
     exact h1 j hj) h63 hbytes hlo
  refine ⟨v',w',hr,⟨_,Own.of_row h2,fun j hj=> ?_⟩,h3⟩
  have hl : xs.length=n:=by have:=ho.len;omega
  by_cases h : j < n
  ·simp only [h,if_true]
   rw [List.getElem?_append_left (by omega),hf j h]
  ·simp only [h,if_false]
   rw [List.getElem?_append_right (by omega),hl]
   have : j - n < m:=by omega
   simp [this]
end
theorem wpList_append_F {P : Program} {w : World} {ops : Array Oper} {rest : List Oper} {o : Oper} {a : Act} {Q : Exit→Act→World→Prop} (hgd : o.guard=none) (s x : Operand) (t : TypeId)
 (ho : o.op=.call { callee:=.builtin .append,args:=#[s,x],argTypes:=#[t,t] })
 (e : TypeId) (z : Value) (bytes : Nat) (ht : P.underlying t=some (.slice e)) (hinfo : (P.info? e).map (fun i=>(i.zero,i.size,i.bytes))=some (some z,1,bytes)) (hzs : z.cells.size=1)
 (lo hi' : Nat) (v : Value) (n : Nat) (f : Nat→Value) (hs : a.eval s=v) (hown : OwnF w lo hi' e v n f) (hlo : lo≤w.heap.size) (hhi : hi'≤w.heap.size)
 (u : Value) (m : Nat) (g : Nat→Value) (hxu : a.eval x=u) (hx : Rd w u m g) (h1 : ∀ j,j < m→(g j).oneCell'=true) (h63 : n+m≤maxLen) (hbytes : (n+m) * bytes≤140737488355328)
 (h : ∀ v' w',OwnF w' lo w'.heap.size e v' (n+m) (fun j=>if j < n then f j else g (j - n))→w.grownBy w' v.ownBlock→wpList P ops Q rest (a.put o.dst v') w') :
 wpList P ops Q (o :: rest) a w:=by
 refine wpList_plain hgd fun K hK'=> ?_
 obtain ⟨i,hi,hz,hsz,hby⟩:=info_parts hinfo
 obtain ⟨v',w',hr,h2,h3⟩:=run_append_F (P:=P) w t o.type e i z bytes ht hi hz hsz hby hzs lo hi' v n f hown hlo hhi u m g hx h1 h63 hbytes
 unfold Oper.wp
 simp [execOp,ho,resolve,invoke,builtin,hs,hxu,hr,Result.andThen]
 exact hK' _ _ (h v' w' h2 h3)
theorem grownBy_below {w w' : World} {v : Value} {lo hi : Nat} (h : w.grownBy w' v.ownBlock) (hlo : ∀ k,v.ownBlock=some k→lo≤k∧k < hi) {B : Nat} (h1 : B≤lo) (h2 : B≤w.heap.size) : Below B w w' :=
 (Below.refl B w).grown h h2 (fun k hk=>Nat.le_trans h1 (hlo k hk).1)
theorem OwnF.blocks {w : World} {lo hi : Nat} {T : TypeId} {v : Value} {n : Nat} {f : Nat→Value} (h : OwnF w lo hi T v n f) : ∀ k,v.ownBlock=some k→lo≤k∧k < hi:=by
 obtain ⟨xs,h,_⟩:=h
 exact fun k hk=>⟨(h.block hk).1,(h.block hk).2.1⟩
theorem OwnF.grown {w w' : World} {lo hi : Nat} {T : TypeId} {v u : Value} {n : Nat} {f : Nat→Value} (h : OwnF w lo hi T v n f) (hg : w.grownBy w' u.ownBlock) (hne : ∀ k,v.ownBlock=some k→u.ownBlock ≠ some k) : OwnF w' lo hi T v n f:=by
 obtain ⟨xs,h,hf⟩:=h
 exact ⟨xs,⟨ownsRow_of_block h.1 fun k hk=>hg.block k (h.block hk).2.2 fun e=>hne k hk e.symm,h.2⟩,hf⟩
theorem OwnF.nil (w : World) (lo hi : Nat) (T : TypeId) (f : Nat→Value) : OwnF w lo hi T (.slice none 0 0) 0 f:=⟨[],⟨World.ownsRow_nil _ _ _ _,fun k hk=>by simp [Value.ownBlock] at hk⟩,fun j hj=>absurd hj (Nat.not_lt_zero _)⟩
theorem OwnF.made0 (w : World) (T : TypeId) (f : Nat→Value) : OwnF (w.alloc (.cells #[] T)) w.heap.size (w.heap.size+1) T (.slice (some ⟨w.heap.size,0,none⟩) 0 0) 0 f :=
 ⟨[],⟨World.ownsRow_made w #[] 0 (Nat.le_refl _) (Nat.zero_le _) rfl,fun k hk=>by simp [Value.ownBlock] at hk;omega⟩,fun j hj=>absurd hj (Nat.not_lt_zero _)⟩
theorem rd_one (W : World) (x : Value) (T : TypeId) {b : Nat} (h : b=W.heap.size) : Rd (W.alloc (.cells #[x] T)) (.slice (some ⟨b,0,none⟩) 1 1) 1 (fun _=>x):=by
 subst h
 refine ⟨_,1,rfl,⟨Nat.le_refl _,by unfold maxLen;omega⟩,fun _=>⟨_,0,rfl,fun j hj=> ?_⟩⟩
 obtain rfl : j=0:=by omega
 exact cell_of_blk (heap_alloc_top W _) rfl
def RdII (w : World) (v : Value) (rows : List (List Int)) : Prop :=
 ∃ f : Nat→Value,Rd w v rows.length f ∧ ∀ i,i < rows.length→Ints w (f i) (rows.getD i [])
theorem RdII.below {w w' : World} {v : Value} {rows : List (List Int)} (h : RdII w v rows) (hb : Below w.heap.size w w') : RdII w' v rows:=by
 obtain ⟨f,h1,h2⟩:=h
 exact ⟨f,h1.below hb,fun i hi=>(h2 i hi).below hb⟩
theorem RdII.qt {w w' : World} {v : Value} {rows : List (List Int)} (h : RdII w v rows) (hb : Qt w w') : RdII w' v rows:=h.below (hb.below _)
def OwnII (Ts Ti : TypeId) (w : World) (lo hi : Nat) (v : Value) (rows : List (List Int)) : Prop :=
 ∃ f : Nat→Value,OwnF w lo hi Ts v rows.length f∧(∀ i,i < rows.length→OwnI Ti w lo hi (f i) (rows.getD i [])) ∧
   ∀ i j,i < j→j < rows.length → ∀ k,(f i).ownBlock=some k→(f j).ownBlock ≠ some k
namespace OwnII
variable {Ts Ti : TypeId} {w w' : World} {lo hi : Nat} {v : Value} {rows : List (List Int)}
theorem rd (h : OwnII Ts Ti w lo hi v rows) : RdII w v rows:=by
 obtain ⟨f,h1,h2,_⟩:=h
 exact ⟨f,h1.rd,fun i hi=>(h2 i hi).ints⟩
theorem keep (h : OwnII Ts Ti w lo hi v rows) (hb : ∀ k,lo≤k→k < hi→k < w.heap.size→w'.heap[k]?=w.heap[k]?) : OwnII Ts Ti w' lo hi v rows:=by
 obtain ⟨f,h1,h2,h3⟩:=h
 exact ⟨f,h1.keep hb,fun i hi=>Own.keep (h2 i hi) hb,h3⟩
theorem below (h : OwnII Ts Ti w lo hi v rows) (hb : Below w.heap.size w w') : OwnII Ts Ti w' lo hi v rows:=h.keep fun k _ _ h3=>hb.block k h3
theorem frm {lo' hi' : Nat} (h : OwnII Ts Ti w lo hi v rows) (hb : Frm lo' hi' w w') (ho : hi≤lo' ∨ hi'≤lo) : OwnII Ts Ti w' lo hi v rows:=h.keep fun k h1 h2 h3=>hb.block k h3 (by omega)
theorem mono {lo' hi' : Nat} (h : OwnII Ts Ti w lo hi v rows) (h1 : lo'≤lo) (h2 : hi≤hi') : OwnII Ts Ti w lo' hi' v rows:=by
 obtain ⟨f,g1,g2,g3⟩:=h
 exact ⟨f,g1.mono h1 h2,fun i hi=>(g2 i hi).mono h1 h2,g3⟩
theorem shape (h : OwnII Ts Ti w lo hi v rows) : ∃ p cap,v=.slice p rows.length cap∧rows.length≤cap∧cap≤maxLen:=by
 obtain ⟨f,h1,_⟩:=h
 obtain ⟨p,cap,e,h2,h3,_⟩:=h1.shape
 exact ⟨p,cap,e,h2,h3⟩
theorem snoc {v' x : Value} {xs : List Int} {mid : Nat} {f : Nat→Value} (g1 : OwnF w lo mid Ts v rows.length f) (g2 : ∀ i,i < rows.length→OwnI Ti w lo mid (f i) (rows.getD i []))
 (g3 : ∀ i j,i < j→j < rows.length → ∀ k,(f i).ownBlock=some k→(f j).ownBlock ≠ some k) (hx : OwnI Ti w mid hi x xs) (hm : lo≤mid) (hmh : mid≤hi) (hT : Ts ≠ Ti)
 (hg : w.grownBy w' v.ownBlock) (hsz : hi≤w'.heap.size)
 (hv : OwnF w' lo w'.heap.size Ts v' (rows.length+1) (fun j=>if j < rows.length then f j else x)) : OwnII Ts Ti w' lo w'.heap.size v' (rows ++ [xs]):=by
 have hrow : ∀ (y : Value) (ys : List Int) (lo1 hi1 : Nat),OwnI Ti w lo1 hi1 y ys→OwnI Ti w' lo1 hi1 y ys:=by
  intro y ys lo1 hi1 hy
  refine ⟨ownsRow_of_block hy.1 fun k hk=>hg.block k (Own.block hy hk).2.2 fun e=> ?_,hy.2⟩
  obtain ⟨p,cap,hp,_⟩:=g1.shape
  have hvk:=e.symm
  obtain ⟨zs,hz,_⟩:=g1
  rcases Own.row hz with ⟨e1,_⟩ | ⟨g,cap',F,e1,_,_,_,_,hr,_⟩
  ·rw [e1] at hvk;simp [Value.ownBlock] at hvk
  ·rw [e1] at hvk
   simp only [Value.ownBlock,Option.some.injEq] at hvk
   subst hvk
   rcases Own.row hy with ⟨e2,_⟩ | ⟨g',cap2,F2,e2,_,_,_,_,hr2,_⟩
   ·rw [e2] at hk;simp [Value.ownBlock] at hk
   ·rw [e2] at hk
    simp only [Value.ownBlock,Option.some.injEq] at hk
    subst hk
    obtain ⟨c,hc,_⟩:=hr
    obtain ⟨c2,hc2,_⟩:=hr2
    rw [hc] at hc2
    injection hc2 with hc2
    injection hc2 with _ hc2
    exact hT hc2
 refine ⟨_,by rw [List.length_append];exact hv,fun i hi=> ?_,fun i j hij hj k hk=> ?_⟩
 ·rw [List.length_append] at hi
  simp only [List.length_singleton] at hi
  by_cases hlt : i < rows.length
  ·have e : (rows ++ [xs]).getD i []=rows.getD i []:=by simp [List.getD_eq_getElem?_getD,List.getElem?_append_left hlt]
   simp only [hlt,if_true]
   rw [e]
   exact (hrow _ _ _ _ (g2 i hlt)).mono (Nat.le_refl _) (by omega)
  ·have e : (rows ++ [xs]).getD i []=xs:=by
    have : i=rows.length:=by omega
    subst this
    simp [List.getD_eq_getElem?_getD]
   simp only [hlt,if_false]
   rw [e]
   exact (hrow _ _ _ _ hx).mono hm hsz
 ·rw [List.length_append] at hj
  simp only [List.length_singleton] at hj
  by_cases hlt : j < rows.length
  ·simp only [hlt,if_true]
   simp only [show i < rows.length by omega,if_true] at hk
   exact g3 i j hij hlt k hk
  ·simp only [hlt,if_false]
   simp only [show i < rows.length by omega,if_true] at hk
   intro e
   have h5:=(Own.block (g2 i (by omega)) hk).2.1
   have h6:=(Own.block hx e).1
   omega
end OwnII
theorem blk3 {w : World} {b : Nat} {x0 x1 x2 : Value} {T : TypeId} (h : w.heap[b]?=some (.cells #[x0,x1,x2] T (0,0))) :
 w.cell? ⟨b,0,none⟩=some x0∧w.cell? ⟨b,1,none⟩=some x1∧w.cell? ⟨b,2,none⟩=some x2∧(∀ j,w.frozen? ⟨b,j,none⟩=false)∧b < w.heap.size :=
 ⟨cell_of_blk h rfl,cell_of_blk h rfl,cell_of_blk h rfl,free_of_blk h,(Array.getElem?_eq_some_iff.1 h).1⟩
theorem and255 (x : Int) : 0≤bits .and .i64 x 255∧bits .and .i64 x 255≤255:=by
 have h1 : (BitVec.ofInt 64 x).toNat &&& 255 < 2 ^ 8:=Nat.and_lt_two_pow _ (by decide)
 have e : bits .and .i64 x 255=IntKind.i64.wrap (((BitVec.ofInt 64 x).toNat &&& 255 : Nat) : Int):=by
  simp only [bits,BitVec.toNat_and]
  rfl
 have e2 : IntKind.i64.wrap (((BitVec.ofInt 64 x).toNat &&& 255 : Nat) : Int)=(((BitVec.ofInt 64 x).toNat &&& 255 : Nat) : Int):=k64 (by omega) (by omega)
 rw [e,e2]
 omega
def Byts (w : World) (v : Value) (n : Nat) : Prop:=∃ f : Nat→Int,Rd w v n fun j=>.int .u8 (f j)
theorem Byts.below {w w' : World} {v : Value} {n : Nat} (h : Byts w v n) (hb : Below w.heap.size w w') : Byts w' v n:=by
 obtain ⟨f,h⟩:=h
 exact ⟨f,h.below hb⟩
theorem Byts.frm {w w' : World} {p : Option Addr} {n cap k : Nat} (h : Byts w (.slice p n cap) n) (hf : Frm k (k+1) w w') (hne : 0 < n → ∀ a,p=some a→a.block < k) : Byts w' (.slice p n cap) n:=by
 obtain ⟨f,p',cap',e,hm,hx⟩:=h
 injection e with e1 _ e3
 subst e1 e3
 refine ⟨f,p,cap,rfl,hm,fun h0=> ?_⟩
 obtain ⟨b,off,hp,hc⟩:=hx h0
 refine ⟨b,off,hp,fun j hj=> ?_⟩
 have hb:=World.block_lt_of_cell? w _ (hc j hj)
 have h1:=hne h0 _ hp
 rw [World.cell?_of_block (w:=w) (hf.block b hb (by dsimp only at h1;omega))]
 exact hc j hj
def Cur (w : World) (k : Nat) : Prop :=
 ∃ (p : Option Addr) (n cap i : Nat) (h : Int),w.heap[k]?=some (.cells #[.slice p n cap,.int .i64 (i : Int),.int .i64 h] 82 (0,0))∧i≤n∧Byts w (.slice p n cap) n∧(0 < n → ∀ a,p=some a→a.block < k)
theorem Cur.lt {w : World} {k : Nat} (h : Cur w k) : k < w.heap.size:=by
 obtain ⟨_,_,_,_,_,h,_⟩:=h
 exact blk_lt h
theorem Cur.keepB {w w' : World} {k B : Nat} (h : Cur w k) (hb : Below B w w') (hB : k < B) : Cur w' k:=by
 have hk:=h.lt
 obtain ⟨p,n,cap,i,x,h1,h2,⟨f,p',cap',e,hm,h3⟩,h4⟩:=h
 injection e with e1 _ e3
 subst e1 e3
 refine ⟨p,n,cap,i,x,by rw [hb.block k hB];exact h1,h2,⟨f,p,cap,rfl,hm,fun h0=> ?_⟩,h4⟩
 obtain ⟨b,off,hp,hc⟩:=h3 h0
 have hlt:=h4 h0 _ hp
 dsimp only at hlt
 exact ⟨b,off,hp,fun j hj=>by rw [World.cell?_of_block (w:=w) (hb.block b (by omega))];exact hc j hj⟩
theorem Frm.thenB {lo hi B : Nat} {a b c : World} (h : Frm lo hi a b) (hb : Below B b c) (hB : a.heap.size≤B) : Frm lo hi a c :=
 ⟨hb.os.trans h.os,hb.tape.trans h.tape,hb.output.trans h.output,Nat.le_trans h.size hb.size,fun k hk ho=>(hb.block k (by omega)).trans (h.block k hk ho)⟩
theorem OwnI.setOther {T : TypeId} {w : World} {lo hi : Nat} {v : Value} {xs : List Int} (h : OwnI T w lo hi v xs) {a : Addr} (hne : v.ownBlock ≠ some a.block) (u : Value) : OwnI T (w.setCell a u) lo hi v xs :=
 ⟨ownsRow_of_block h.1 fun b hb=>Below.heap_setCell _ _ _ _ fun e=>hne (by rw [hb,e]),h.2⟩
theorem Cur.below {w w' : World} {k : Nat} (h : Cur w k) (hb : Below w.heap.size w w') : Cur w' k:=by
 obtain ⟨p,n,cap,i,x,h1,h2,h3,h4⟩:=h
 exact ⟨p,n,cap,i,x,blk_later h1 hb,h2,h3.below hb,h4⟩
theorem l1Byte_any (k : Nat) (w : World) (h : Cur w k) :
 Calls Tryz.prog 46 #[.pointer (some ⟨k,0,none⟩)] w fun e w'=> ∃ x : Int,e=.returned (.int .i64 x)∧0≤x∧x≤255∧Cur w' k∧Frm k (k+1) w w':=by
 obtain ⟨p,n,cap,i,x,h1,h2,⟨f,h3⟩,h4⟩:=h
 obtain ⟨c0,c1,c2,cf,cz⟩:=blk3 h1
 obtain ⟨_,_,e,⟨hx1,hx2⟩,hxc⟩:=h3
 injection e with e1 e2 e3
 subst e1 e3
 unfold maxLen at hx2
 have Hxc:=Lib.hid hxc
 clear hxc e2
 go_enter Tryz.func46,Tryz.ntmps46
 go_wp2_with fail
 go_quiet (fail)
 obtain ⟨X,hX⟩ : ∃ X,X=wrap64 (wrap64 (x * 6364136223846793005)+1442695040888963407):=⟨_,rfl⟩
 rw [← hX]
 obtain ⟨Y,hY⟩ : ∃ Y,Y=bits BinOp.and IntKind.i64 (bits BinOp.xor IntKind.i64 (X / 8589934592) (X / 35184372088832)) 255:=⟨_,rfl⟩
 rw [← hY]
 have hY2:=and255 (bits BinOp.xor IntKind.i64 (X / 8589934592) (X / 35184372088832))
 rw [← hY] at hY2
 clear hX hY
 have hf2 : Frm k (k+1) w ((w.setCell ⟨k,2,none⟩ (.int .i64 X)).drewN nq):=((Frm.refl k (k+1) w).setCell (Nat.le_refl _) (Nat.lt_succ_self _) _).drewN nq
 have hh2 : ((w.setCell ⟨k,2,none⟩ (.int .i64 X)).drewN nq).heap[k]?=some (.cells #[.slice p n cap,.int .i64 (i : Int),.int .i64 X] 82 (0,0)):=heap_setCell_at h1 2 _
 have hB2 : Byts ((w.setCell ⟨k,2,none⟩ (.int .i64 X)).drewN nq) (.slice p n cap) n:=Byts.frm ⟨f,_,_,rfl,⟨hx1,by unfold maxLen;omega⟩,Hxc.out⟩ hf2 h4
 generalize (w.setCell ⟨k,2,none⟩ (.int .i64 X)).drewN nq=w2 at *
 clear c0 c1 c2 cf cz Hxc f
 obtain ⟨c0,c1,c2,cf,cz⟩:=blk3 hh2
 have HB2:=Lib.hid hB2
 have Hf2:=Lib.hid hf2
 obtain ⟨f,p',cap',e,_,hxc⟩:=hB2
 injection e with e1 _ e3
 subst e1 e3
 clear hf2
 by_cases hlt : i < n
 ·obtain ⟨b,off,rfl,hc⟩:=hxc (by omega)
  have cb:=hc i hlt
  have hlt2 : (i : Int) < (n : Int):=by omega
  clear hxc hc
  go_wp2_with fail
  go_quiet (fail)
  go_wp2_with fail
  go_quiet (fail)
  obtain ⟨Z,hZ⟩ : ∃ Z,Z=bits BinOp.and IntKind.i64 (wrap64 (Y+wrap64 (f i))) 255:=⟨_,rfl⟩
  rw [← hZ]
  have hZ2:=and255 (wrap64 (Y+wrap64 (f i)))
  rw [← hZ] at hZ2
  clear hZ
  have hcast : (i : Int)+1=((i+1 : Nat) : Int):=by omega
  have Hcast:=Lib.hid hcast
  clear hcast
  go_wp2_with fail
  go_ret
  rw [Hcast.out]
  refine ⟨Z,rfl,hZ2.1,hZ2.2,⟨_,n,cap,i+1,X,by exact heap_setCell_at hh2 1 _,by omega,?_,h4⟩,?_⟩
  ·exact HB2.out.frm (k:=k) (Frm.setCell ((Frm.refl k (k+1) w2).drewN _) (Nat.le_refl k) (Nat.lt_succ_self k) _) h4
  ·exact Frm.setCell (Hf2.out.drewN _) (Nat.le_refl k) (Nat.lt_succ_self k) _
 ·have hlt2 : ¬ (i : Int) < (n : Int):=by omega
  clear hxc
  go_wp2_with fail
  go_quiet (fail)
  go_wp2_with fail
  go_ret
  exact ⟨Y,rfl,hY2.1,hY2.2,⟨p,n,cap,i,X,hh2,h2,HB2.out.frm (k:=k) ((Frm.refl k (k+1) w2).drewN _) h4,h4⟩,Hf2.out.drewN _⟩
theorem l1Below_any (k m : Nat) (w : World) (h : Cur w k) (h0 : 1≤m) (hm : m≤256) :
 Calls Tryz.prog 21 #[.pointer (some ⟨k,0,none⟩),.int .i64 (m : Int)] w fun e w'=> ∃ x : Nat,e=.returned (.int .i64 (x : Int))∧x < m∧Cur w' k∧Frm k (k+1) w w':=by
 have Hc:=Lib.hid h
 clear h
 go_enter Tryz.func21,Tryz.ntmps21
 go_wp2_with fail
 refine (l1Byte_any k _ Hc.out).mono ?_
 rintro e w1 ⟨x,rfl,hx0,hx1,hc1,hf1⟩
 obtain ⟨X,rfl⟩:=Int.eq_ofNat_of_zero_le hx0
 have Hc1:=Lib.hid hc1
 have Hf1:=Lib.hid hf1
 clear hc1 hf1
 go_wp2_with fail
 go_ret
 exact ⟨X % m,ret_int (Int.natCast_emod X m).symm,Nat.mod_lt _ (by omega),Hc1.out,Hf1.out⟩
theorem l1Once_any (k m : Nat) (w : World) (h : Cur w k) (h0 : 1≤m) (hm : m≤256) :
 Calls Tryz.prog 23 #[.pointer (some ⟨k,0,none⟩),.int .i64 (m : Int)] w fun e w'=> ∃ b : Bool,e=.returned (.bool b)∧Cur w' k∧Frm k (k+1) w w':=by
 have Hc:=Lib.hid h
 clear h
 go_enter Tryz.func23,Tryz.ntmps23
 go_wp2_with fail
 refine (l1Below_any k m _ Hc.out h0 hm).mono ?_
 rintro e w1 ⟨x,rfl,hx,hc1,hf1⟩
 go_wp2_with fail
 go_ret
 exact ⟨_,rfl,hc1,hf1⟩
theorem l1PickInt_any (k : Nat) (v : Value) (xs : List Int) (w : World) (h : Cur w k) (hv : Ints w v xs) (hne : ∀ p n c,v=.slice p n c → ∀ a,p=some a→a.block ≠ k) (h0 : 1≤xs.length) (hm : xs.length≤256) :
 Calls Tryz.prog 53 #[.pointer (some ⟨k,0,none⟩),v] w fun e w'=> ∃ x ∈ xs,e=.returned (.int .i64 x)∧Cur w' k∧Frm k (k+1) w w':=by
 have Hc:=Lib.hid h
 clear h
 obtain ⟨p,cap,rfl,⟨hx1,hx2⟩,hxc⟩:=hv
 obtain ⟨b,off,rfl,hc⟩:=hxc h0
 have hk : b ≠ k:=hne _ _ _ rfl _ rfl
 unfold maxLen at hx2
 clear hne hxc
 go_enter Tryz.func53,Tryz.ntmps53
 go_wp2_with fail
 refine (l1Below_any k xs.length _ Hc.out h0 hm).mono ?_
 rintro e w1 ⟨x,rfl,hx,hc1,hf1⟩
 have c1 : w1.cell? ⟨b,off+x,none⟩=some (.int .i64 xs[x]):=by
  rw [World.cell?_of_block (w:=w) (hf1.block b (World.block_lt_of_cell? w _ (hc x hx)) (by omega)),hc x hx]
  simp [iv,List.getD_eq_getElem?_getD,hx]
 have Hc1:=Lib.hid hc1
 have Hf1:=Lib.hid hf1
 have Hm:=Lib.hid (show xs[x] ∈ xs from List.getElem_mem hx)
 obtain ⟨X,hX⟩ : ∃ X,X=xs[x]:=⟨_,rfl⟩
 rw [← hX] at c1 Hm
 clear hX hc hc1 hf1
 go_wp2_with fail
 go_ret
 exact ⟨X,Hm.out,rfl,Hc1.out,Hf1.out⟩
theorem big_any (p : Option Addr) (n cap : Nat) (w : World) (hn : n≤maxLen) :
 Calls Tryz.prog 4 #[.slice p n cap] w fun e w'=>e=.returned (.bool (decide (1048576 < n)))∧w=w':=by
 unfold maxLen at hn
 go_enter Tryz.func4,Tryz.ntmps4
 by_cases h : 1048576 < n
 ·have h2 : (1048576 : Int) < (n : Int):=by omega
  go_wp2
  go_ret
  exact ⟨ret_bool (by simp [h]),rfl⟩
 ·have h2 : ¬ (1048576 : Int) < (n : Int):=by omega
  go_wp2
  go_ret
  exact ⟨ret_bool (by simp [h]),rfl⟩
section
open Go.ChangeShapes Go.WideShapes Go.RowKit Go.Deep Go.WideElems Go.Maps
theorem trod_byts {H : Type} {enc : TypeId × Value→H} {P : Program} {W : World} {m : Nat} {t e : TypeId} {a : Option Addr} {l c : Nat} {y : DataW H × List MemPlace}
 (ht : P.underlying t=some (.slice e)) (he : P.underlying e=some (.int .u8)) (hc : P.cellsOf e=1)
 (h : DataW.trod enc P W 0 (fun _=>true) true m t [.slice a l c]=some y) : l≤maxLen∧Byts W (.slice a l c) l:=by
 rcases open_ints ht he hc h with ⟨hcs,_⟩ | ⟨x,l',c',zs,hcs,_,hl,hm,hz,_,hcell,_⟩
 ·injection hcs with hcs
  injection hcs with h1 h2 h3
  subst h1 h2 h3
  exact ⟨Nat.zero_le _,fun _=>0,none,0,rfl,⟨Nat.le_refl _,Nat.zero_le _⟩,fun h=>absurd h (Nat.lt_irrefl _)⟩
 ·injection hcs with hcs
  injection hcs with h1 h2 h3
  subst h1 h2 h3
  refine ⟨by omega,fun j=>zs.getD j 0,some x,c,rfl,⟨hl,hm⟩,fun h0=> ?_⟩
  have hz' : zs.length=c:=by simpa using hz
  have h0':=hcell 0 (by omega)
  obtain ⟨b,off,spot⟩:=x
  have hs : spot=none:=by
   cases spot with
   | none=>rfl
   | some s=>simp [Addr.add,World.cell?] at h0';split at h0' <;> simp_all
  subst hs
  refine ⟨b,off,rfl,fun j hj=> ?_⟩
  have hadd : (⟨b,off,none⟩ : Addr).add j=⟨b,off+j,none⟩:=by unfold Addr.add;split <;> simp_all
  rw [← hadd]
  exact hcell j (by omega)
end
def permOk (w : List Int) : Bool:=decide (1≤w.length∧w.length≤7∧(∀ x ∈ w,0≤x∧x < (w.length : Int))∧w.Nodup)
def permUpto (w : List Int) (k : Nat) : Prop:=(∀ x ∈ w.take k,0≤x∧x < (w.length : Int))∧(w.take k).Nodup
theorem take_snoc (xs : List Int) (k : Nat) (h : k < xs.length) : xs.take (k+1)=xs.take k ++ [xs.getD k 0]:=by
 rw [List.take_succ_eq_append_getElem h];simp [List.getD_eq_getElem?_getD,h]
theorem permUpto_zero (w : List Int) : permUpto w 0:=by simp [permUpto]
theorem permUpto_succ {w : List Int} {k : Nat} (hk : k < w.length) (h : permUpto w k) (h0 : 0≤w.getD k 0) (h1 : w.getD k 0 < (w.length : Int)) (h2 : w.getD k 0 ∉ w.take k) : permUpto w (k+1):=by
 unfold permUpto
 rw [take_snoc w k hk]
 refine ⟨fun x hx=> ?_,?_⟩
 ·rcases List.mem_append.1 hx with hx | hx
  ·exact h.1 x hx
  ·obtain rfl:=List.mem_singleton.1 hx
   exact ⟨h0,h1⟩
 ·rw [List.nodup_append]
  refine ⟨h.2,by simp,fun a ha b hb=> ?_⟩
  obtain rfl:=List.mem_singleton.1 hb
  exact fun e=>h2 (e ▸ ha)
theorem permOk_of_upto {w : List Int} (h1 : 1≤w.length) (h7 : w.length≤7) (h : permUpto w w.length) : permOk w=true:=by
 unfold permUpto at h
 rw [List.take_length] at h
 simp only [permOk,decide_eq_true_eq]
 exact ⟨h1,h7,h.1,h.2⟩
theorem getD_mem {w : List Int} {k : Nat} (hk : k < w.length) : w.getD k 0 ∈ w:=by
 simp [List.getD_eq_getElem?_getD,hk]
theorem not_permOk_len {w : List Int} (h : ¬ (1≤w.length∧w.length≤7)) : permOk w=false:=by
 simp only [permOk,decide_eq_false_iff_not]
 exact fun e=>h ⟨e.1,e.2.1⟩
theorem not_permOk_range {w : List Int} {k : Nat} (hk : k < w.length) (h : ¬ (0≤w.getD k 0∧w.getD k 0 < (w.length : Int))) : permOk w=false:=by
 simp only [permOk,decide_eq_false_iff_not]
 exact fun e=>h (e.2.2.1 _ (getD_mem hk))
theorem not_permOk_twice {w : List Int} {k : Nat} (hk : k < w.length) (h : w.getD k 0 ∈ w.take k) : permOk w=false:=by
 simp only [permOk,decide_eq_false_iff_not]
 intro e
 have hn:=e.2.2.2
 rw [← List.take_append_drop k w,List.nodup_append] at hn
 refine hn.2.2 _ h _ ?_ rfl
 rw [List.mem_iff_getElem?]
 exact ⟨0,by simp [List.getD_eq_getElem?_getD,hk]⟩
theorem l1In_any (a b c : Int) (w : World) :
 Calls Tryz.prog 88 #[.int .i64 a,.int .i64 b,.int .i64 c] w fun e w'=>e=.returned (.bool (decide (b≤a∧a≤c)))∧w=w':=by
 go_enter Tryz.func88,Tryz.ntmps88
 go_wp2
 all_goals go_ret
 ·refine ⟨ret_bool ?_,rfl⟩;simp;omega
 ·refine ⟨ret_bool ?_,rfl⟩;simp;omega
theorem l1In_yes (a b c : Int) (w : World) (h : b≤a∧a≤c) :
 Calls Tryz.prog 88 #[.int .i64 a,.int .i64 b,.int .i64 c] w fun e w'=>e=.returned (.bool true)∧w=w':=by
 have:=l1In_any a b c w
 rwa [decide_eq_true h] at this
theorem l1In_no (a b c : Int) (w : World) (h : ¬ (b≤a∧a≤c)) :
 Calls Tryz.prog 88 #[.int .i64 a,.int .i64 b,.int .i64 c] w fun e w'=>e=.returned (.bool false)∧w=w':=by
 have:=l1In_any a b c w
 rwa [decide_eq_false h] at this
theorem Rd.take {w : World} {p : Option Addr} {n cap : Nat} {f : Nat→Value} (h : Rd w (.slice p n cap) n f) (k : Nat) (hk : k≤n) : Rd w (.slice p k cap) k f:=by
 obtain ⟨p',cap',e,hm,h⟩:=h
 injection e with e1 e2 e3
 subst e1 e3
 exact ⟨p,cap,rfl,by omega,fun h0=>by obtain ⟨b,off,hp,hc⟩:=h (by omega);exact ⟨b,off,hp,fun j hj=>hc j (by omega)⟩⟩
theorem Ints.take {w : World} {p : Option Addr} {cap : Nat} {xs : List Int} (h : Ints w (.slice p xs.length cap) xs) (k : Nat) (hk : k≤xs.length) : Ints w (.slice p k cap) (xs.take k):=by
 have hl : (xs.take k).length=k:=by rw [List.length_take];omega
 unfold Ints
 rw [hl]
 exact (Rd.take h k hk).congr fun j hj=>by simp [iv,List.getD_eq_getElem?_getD,List.getElem?_take,hj]
theorem l1Has_any (v : Value) (xs : List Int) (x : Int) (w : World) (h : Ints w v xs) :
 Calls Tryz.prog 84 #[v,.int .i64 x] w fun e w'=>e=.returned (.bool (decide (x ∈ xs)))∧Qt w w':=by
 obtain ⟨p,cap,rfl,⟨hx1,hx⟩,hxc⟩:=h
 unfold maxLen at hx
 go_enter Tryz.func84,Tryz.ntmps84
 go_wp2
 go_loopg [5] xs.length (fun g i wr=> ∃ k : Nat,k≤xs.length∧g=xs.length - k∧i=.int .i64 k∧wr=w∧Hid (x ∉ xs.take k))
 case atStart=>exact ⟨0,Nat.zero_le _,rfl,rfl,rfl,by simp [Hid]⟩
 case round =>
  obtain ⟨k,hk,rfl,rfl,rfl,hp⟩:=hrel
  by_cases hlt : k < xs.length
  ·obtain ⟨b,off,rfl,hc⟩:=hxc (by omega)
   have c1:=hc k hlt
   unfold iv at c1
   clear hxc hc
   go_wp2
   ·have ht : (xs[k] == x)=true:=by assumption
    go_ret
    refine ⟨ret_bool ?_,Qt.refl _⟩
    symm
    simp only [decide_eq_true_eq]
    rw [beq_iff_eq] at ht
    subst ht
    exact List.getElem_mem hlt
   ·have ht : (xs[k] == x)=false:=by assumption
    go_roundg (xs.length - (k+1))
    case measure=>omega
    case rel =>
     refine ⟨k+1,by omega,rfl,by go_num,rfl,?_⟩
     unfold Hid
     rw [take_snoc xs k hlt,List.mem_append]
     rintro (e | e)
     ·exact hp.out e
     ·rw [beq_eq_false_iff_ne] at ht
      simp [List.getD_eq_getElem?_getD,hlt] at e
      exact ht e.symm
  ·go_wp2
   go_ret
   obtain rfl : k=xs.length:=by omega
   refine ⟨ret_bool ?_,Qt.refl _⟩
   symm
   simp only [decide_eq_false_iff_not]
   have:=hp.out
   rwa [List.take_length] at this
theorem specIsPerm_any (v : Value) (xs : List Int) (w : World) (h : Ints w v xs) :
 Calls Tryz.prog 87 #[v] w fun e w'=>e=.returned (.bool (permOk xs))∧Qt w w':=by
 have hI:=h
 obtain ⟨p,cap,rfl,⟨hx1,hx⟩,hxc⟩:=h
 unfold maxLen at hx
 by_cases hl : 1≤xs.length∧xs.length≤7
 ·obtain ⟨hl1,hl7⟩:=hl
  go_enter Tryz.func87,Tryz.ntmps87
  go_wp2_with (go_at_call 88;refine (l1In_yes _ _ _ _ (by omega)).mono ?_;rintro e w' ⟨rfl,rfl⟩)
  go_loopg [3] xs.length (fun g i wr=> ∃ k : Nat,k≤xs.length∧g=xs.length - k∧i=.int .i64 k∧Qt w wr∧Hid (permUpto xs k))
  case atStart=>exact ⟨0,Nat.zero_le _,rfl,rfl,Qt.refl _,permUpto_zero xs⟩
  case round =>
   obtain ⟨k,hk,rfl,rfl,hq,hp⟩:=hrel
   by_cases hlt : k < xs.length
   ·obtain ⟨b,off,rfl,hc⟩:=hxc (by omega)
    have c1:=hq.cell (hc k hlt)
    unfold iv at c1
    clear hxc hc
    have hT:=(hI.take k hk).qt hq
    have hwr : IntKind.i64.wrap ((xs.length : Int) - 1)=(xs.length : Int) - 1:=IntWalk.i64_in _ (by omega)
    by_cases hin : 0≤xs.getD k 0∧xs.getD k 0 < (xs.length : Int)
    ·have hd : Hid (0≤xs[k]∧xs[k]≤(xs.length : Int) - 1):=by
      simp [List.getD_eq_getElem?_getD,hlt] at hin;unfold Hid;omega
     have Hin:=Lib.hid hin
     clear hin
     go_wp2_with fail
     go_quiet (first
      | (go_at_call 88;exact quiet_same (l1In_yes _ _ _ _ hd.out))
      | (go_at_call 84;exact quiet_q (l1Has_any _ _ _ _ (hT.drewN _))))
     clear hd hwr
     go_wp2_with fail
     ·have ht : xs[k] ∈ List.take k xs:=by assumption
      go_ret
      exact ⟨ret_bool (not_permOk_twice hlt (by rw [getD_lt hlt];exact ht)).symm,hq.drewN _⟩
     ·have ht : ¬ xs[k] ∈ List.take k xs:=by assumption
      go_roundg (xs.length - (k+1))
      case measure=>omega
      case rel=>exact ⟨k+1,by omega,rfl,by go_num,hq.drewN _,permUpto_succ hlt hp.out Hin.out.1 Hin.out.2 (by rw [getD_lt hlt];exact ht)⟩
    ·have hd : Hid (¬ (0≤xs[k]∧xs[k]≤(xs.length : Int) - 1)):=by
      rw [getD_lt hlt] at hin;unfold Hid;omega
     have Hin:=Lib.hid hin
     clear hin
     go_wp2_with fail
     go_quiet (first
      | (go_at_call 88;exact quiet_same (l1In_no _ _ _ _ hd.out)))
     clear hd hwr
     go_wp2_with fail
     go_ret
     exact ⟨ret_bool (not_permOk_range hlt Hin.out).symm,hq.drewN _⟩
   ·go_wp2_with fail
    go_ret
    obtain rfl : k=xs.length:=by omega
    refine ⟨ret_bool ?_,hq⟩
    exact (permOk_of_upto hl1 hl7 hp.out).symm
 ·go_enter Tryz.func87,Tryz.ntmps87
  go_wp2_with (go_at_call 88;refine (l1In_no _ _ _ _ (by omega)).mono ?_;rintro e w' ⟨rfl,rfl⟩)
  go_ret
  exact ⟨ret_bool (not_permOk_len hl).symm,Qt.refl _⟩
theorem mem_take_succ {xs : List Int} {k : Nat} (h : k < xs.length) (x : Int) : x ∈ xs.take (k+1) ↔ x ∈ xs.take k ∨ x=xs.getD k 0:=by
 rw [take_snoc xs k h,List.mem_append,List.mem_singleton]
theorem implIsPerm_any (v : Value) (xs : List Int) (w : World) (h : Ints w v xs) :
 Calls Tryz.prog 28 #[v] w fun e w'=>e=.returned (.bool (permOk xs))∧Below w.heap.size w w':=by
 obtain ⟨p,cap,rfl,⟨hx1,hx⟩,hxc⟩:=h
 unfold maxLen at hx
 by_cases hl : 1≤xs.length∧xs.length≤7
 ·obtain ⟨hl1,hl7⟩:=hl
  have e1 : decide ((xs.length : Int) < 1)=false:=by simp;omega
  have e2 : decide (7 < (xs.length : Int))=false:=by simp;omega
  go_enter Tryz.func28,Tryz.ntmps28
  go_wp2
  clear e1 e2
  go_loopg [17] xs.length (fun g i wr=> ∃ k : Nat,k≤xs.length∧g=xs.length - k∧i=.int .i64 k∧Below w.heap.size w wr∧wr.rowIs w.heap.size 87 7 (fun j=>.bool (decide ((j : Int) ∈ xs.take k)))∧Hid (permUpto xs k))
  case atStart =>
   refine ⟨0,Nat.zero_le _,rfl,rfl,(Below.refl _ _).alloc (Nat.le_refl _) _,World.rowIs_alloc w _ _ _ fun i hi=> ?_,permUpto_zero xs⟩
   simp at hi
   match i,hi with
   | 0,_ | 1,_ | 2,_ | 3,_ | 4,_ | 5,_ | 6,_=>simp
  case round =>
   obtain ⟨k,hk,rfl,rfl,hb,hr,hp⟩:=hrel
   by_cases hlt : k < xs.length
   ·obtain ⟨b,off,rfl,hc⟩:=hxc (by omega)
    have c1 : wr.cell? ⟨b,off+k,none⟩=some (.int .i64 (xs.getD k 0)):=by
     rw [hb.cell (p:=⟨b,off+k,none⟩) (World.block_lt_of_cell? _ _ (hc k hlt))];exact hc k hlt
    clear hxc hc
    by_cases hin : 0≤xs.getD k 0∧xs.getD k 0 < (xs.length : Int)
    ·obtain ⟨m,hm⟩:=Int.eq_ofNat_of_zero_le hin.1
     have Hin:=Lib.hid hin
     have hml : m < xs.length:=by omega
     have Hm:=Lib.hid hm
     rw [hm] at c1
     have c2:=hr.cell (i:=m) (by omega)
     have c3:=hr.frozen m
     have hs:=hr.lt
     clear hin hm
     by_cases hmet : (m : Int) ∈ xs.take k
     ·have ht : decide ((m : Int) ∈ xs.take k)=true:=decide_eq_true hmet
      rw [ht] at c2
      have Hmet:=Lib.hid hmet
      clear ht hmet
      go_wp2
      go_ret
      exact ⟨ret_bool (not_permOk_twice hlt (by rw [Hm.out];exact Hmet.out)).symm,hb⟩
     ·have ht : decide ((m : Int) ∈ xs.take k)=false:=decide_eq_false hmet
      rw [ht] at c2
      have Hmet:=Lib.hid hmet
      clear ht hmet
      go_wp2
      go_roundg (xs.length - (k+1))
      case measure=>omega
      case rel =>
       refine ⟨k+1,by omega,rfl,by go_num,hb.setCell (Nat.le_refl _) _,(hr.set m _).congr fun j hj=> ?_,permUpto_succ hlt hp.out Hin.out.1 Hin.out.2 (by rw [Hm.out];exact Hmet.out)⟩
       by_cases e : j=m
       ·subst e
        simp only [if_true]
        congr 1
        symm
        rw [decide_eq_true_eq,mem_take_succ hlt]
        exact .inr Hm.out.symm
       ·have e' : (j : Int) ≠ xs.getD k 0:=by rw [Hm.out];omega
        simp only [e,if_false]
        congr 1
        rw [decide_eq_decide,mem_take_succ hlt]
        exact ⟨.inl,fun h=>h.resolve_right e'⟩
    ·have Hin:=Lib.hid hin
     rw [getD_lt hlt] at hin
     by_cases hneg : xs[k] < 0
     ·clear hin
      go_wp2
      all_goals
       go_ret
       exact ⟨ret_bool (not_permOk_range hlt Hin.out).symm,hb⟩
     ·have hge : (xs.length : Int)≤xs[k]:=by omega
      clear hin
      go_wp2
      all_goals
       go_ret
       exact ⟨ret_bool (not_permOk_range hlt Hin.out).symm,hb⟩
   ·go_wp2
    go_ret
    obtain rfl : k=xs.length:=by omega
    exact ⟨ret_bool (permOk_of_upto hl1 hl7 hp.out).symm,hb⟩
 ·go_enter Tryz.func28,Tryz.ntmps28
  by_cases h1 : (xs.length : Int) < 1
  ·go_wp2
   all_goals
    go_ret
    exact ⟨ret_bool (not_permOk_len hl).symm,Below.refl _ _⟩
  ·have h7 : (7 : Int) < xs.length:=by omega
   go_wp2
   all_goals
    go_ret
    exact ⟨ret_bool (not_permOk_len hl).symm,Below.refl _ _⟩
theorem iv_one (xs : List Int) (j : Nat) : (iv xs j).oneCell'=true:=rfl
theorem specIsPerm_b (v : Value) (xs : List Int) (b : Bool) (hb : permOk xs=b) (w : World) (h : Ints w v xs) :
 Calls Tryz.prog 87 #[v] w fun e w'=>e=.returned (.bool b)∧Qt w w':=hb ▸ specIsPerm_any v xs w h
theorem implIsPerm_b (v : Value) (xs : List Int) (b : Bool) (hb : permOk xs=b) (w : World) (h : Ints w v xs) :
 Calls Tryz.prog 28 #[v] w fun e w'=>e=.returned (.bool b)∧Below w.heap.size w w':=hb ▸ implIsPerm_any v xs w h
def RetI (w : World) (xs : List Int) (e : Ending) (w' : World) : Prop :=
 ∃ u,e=.returned u∧OwnI 3 w' w.heap.size w'.heap.size u xs∧Below w.heap.size w w'
theorem clone_any (v : Value) (xs : List Int) (w : World) (h : Ints w v xs) (hl : xs.length≤1000000) :
 Calls Tryz.prog 38 #[v] w (RetI w xs):=by
 have hI:=Lib.hid h
 obtain ⟨p,cap,rfl,⟨hx1,hx2⟩,hxc⟩:=h
 have keq:=fun (n c : Nat)=>Lib.run_eql_slice_nil (P:=Tryz.prog) w 24 3 p n c 0 0 Tryz.underlying24
 cases p with
 | none =>
   have hx0 : xs.length=0:=by
    rcases Nat.eq_zero_or_pos xs.length with h0 | h0
    ·exact h0
    ·obtain ⟨b,off,e,_⟩:=hxc h0;cases e
   obtain rfl:=List.eq_nil_of_length_eq_zero hx0
   clear hxc hI
   go_enter Tryz.func38,Tryz.ntmps38
   go_wp2_with fail
   go_ret
   exact ⟨_,rfl,⟨World.ownsRow_nil _ _ _ _,fun k hk=>by simp [Value.ownBlock] at hk⟩,Below.refl _ _⟩
 | some a =>
   have Hb1:=Lib.hid (show 0+xs.length≤maxLen by unfold maxLen;omega)
   have Hb2:=Lib.hid (show (0+xs.length) * 8≤140737488355328 by omega)
   clear hxc
   go_enter Tryz.func38,Tryz.ntmps38
   go_wp2_with (at_builtin;go_must (refine wpList_append_F rfl (.tmp 5) (.tmp 6) 24 rfl 3 (.int .i64 0) 8 Tryz.underlying24 info_int rfl w.heap.size (w.heap.size+1) _ 0 (fun _=>undef) rfl (OwnF.made0 w _ _) (by simp) (by simp) _ _ _ rfl (hI.out.below (below_alloc w _)) (fun j _=>iv_one _ j) Hb1.out Hb2.out ?_;intro v' w' ho' hg'))
   go_ret
   refine ⟨_,rfl,OwnF.ints ?_,(below_alloc w _).trans (grownBy_below hg' (OwnF.made0 w 3 (fun _=>undef)).blocks (Nat.le_refl _) (by simp))⟩
   rw [Nat.zero_add] at ho'
   exact ho'.congr fun j _=>by simp
def Small (xs : List Int) : Prop:=∀ x ∈ xs,0≤x∧x≤1000
theorem Small.at_ {xs : List Int} (h : Small xs) (j : Nat) : 0≤xs.getD j 0∧xs.getD j 0≤1000:=by
 by_cases hj : j < xs.length
 ·exact h _ (getD_mem hj)
 ·simp [List.getD_eq_getElem?_getD,show xs[j]?=none by simp;omega]
theorem cell_below {w w' : World} {a : Addr} {v : Value} (hb : Below w.heap.size w w') (h : w.cell? a=some v) : w'.cell? a=some v:=by
 rw [hb.cell (World.block_lt_of_cell? _ _ h)];exact h
theorem held_ints {c : Prop} {wr W : World} {v : Value} {xs : List Int} (h : Ints wr v xs) (hS : c∧Below wr.heap.size wr W) : Ints W v xs:=h.below hS.2
theorem held_below {c : Prop} {wr W : World} (hS : c∧Below wr.heap.size wr W) : Below wr.heap.size wr W:=hS.2
end
end Go.Proofs.YtincaodpjdeoeaaGreatDoor
