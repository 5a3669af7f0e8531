/-
  A part of the proof of FnSessions (texts of one proof, joined).
-/
import Derived.Test.YtincaodpjdeoeaaGreatDoorJ8
namespace Go.Proofs.YtincaodpjdeoeaaGreatDoor
set_option linter.all false
set_option maxRecDepth 100000
set_option maxHeartbeats 16000000
section
open Go.RowKit
def Mg (N a b : Int) : Prop:=∃ m,a=b+N * m
theorem Mg.refl (N a : Int) : Mg N a a:=⟨0,by simp⟩
theorem Mg.symm {N a b : Int} (h : Mg N a b) : Mg N b a:=by
 obtain ⟨m,rfl⟩:=h
 exact ⟨-m,by rw [Int.mul_neg];omega⟩
theorem Mg.trans {N a b c : Int} (h : Mg N a b) (h' : Mg N b c) : Mg N a c:=by
 obtain ⟨m,rfl⟩:=h
 obtain ⟨m',rfl⟩:=h'
 exact ⟨m'+m,by rw [Int.mul_add];omega⟩
theorem Mg.add {N a b c e : Int} (h : Mg N a b) (h' : Mg N c e) : Mg N (a+c) (b+e):=by
 obtain ⟨m,rfl⟩:=h
 obtain ⟨m',rfl⟩:=h'
 exact ⟨m+m',by rw [Int.mul_add];omega⟩
theorem Mg.mul {N a b c e : Int} (h : Mg N a b) (h' : Mg N c e) : Mg N (a * c) (b * e):=by
 obtain ⟨m,rfl⟩:=h
 obtain ⟨m',rfl⟩:=h'
 refine ⟨m * e+b * m'+N * m * m',?_⟩
 grind
theorem Mg.neg {N a b : Int} (h : Mg N a b) : Mg N (-a) (-b):=by
 obtain ⟨m,rfl⟩:=h
 exact ⟨-m,by rw [Int.mul_neg];omega⟩
theorem Mg.sub {N a b c e : Int} (h : Mg N a b) (h' : Mg N c e) : Mg N (a - c) (b - e):=by
 have:=h.add h'.neg
 rw [Int.sub_eq_add_neg,Int.sub_eq_add_neg]
 exact this
theorem Mg.pow {N a b : Int} (h : Mg N a b) : ∀ n : Nat,Mg N (a ^ n) (b ^ n)
 | 0=>by rw [Int.pow_zero,Int.pow_zero];exact Mg.refl _ _
 | n+1=>by rw [Int.pow_succ,Int.pow_succ];exact (Mg.pow h n).mul h
theorem Mg.zero {D : Int} (c : Int) (h : ∀ N,c < N→0 < N→Mg N D 0) : D=0:=by
 obtain ⟨K,h1,h2,h3,h4⟩ : ∃ K : Int,c < K∧0 < K∧D < K ∧ -D < K:=⟨1+(c.natAbs : Int)+(D.natAbs : Int),by omega,by omega,by omega,by omega⟩
 obtain ⟨m,hm⟩:=h K h1 h2
 rcases Int.lt_trichotomy m 0 with h0 | h0 | h0
 ·have:=Int.mul_le_mul_of_nonneg_left (show m ≤ -1 by omega) (show 0≤K by omega)
  rw [Int.mul_neg,Int.mul_one] at this
  omega
 ·rw [h0] at hm;simpa using hm
 ·have:=Int.mul_le_mul_of_nonneg_left (show 1≤m by omega) (show 0≤K by omega)
  rw [Int.mul_one] at this
  omega
theorem Ev_mg {N : Int} {g g' : List Int→Int} (h : ∀ e,Mg N (g e) (g' e)) : ∀ P : Pl,Mg N (Ev P g) (Ev P g')
 | []=>Mg.refl _ _
 | p :: l=>((Mg.refl N p.2).mul (h p.1)).add (Ev_mg h l)
theorem mono_mg {N : Int} {xs xs' : List Int} (h : ∀ i,Mg N (xs.getD i 0) (xs'.getD i 0)) (e : List Int) : Mg N (mono xs e) (mono xs' e):=by
 unfold mono
 have : ∀ n,Mg N (monoK xs e n) (monoK xs' e n):=fun n=>by
  induction n with
  | zero=>exact Mg.refl _ _
  | succ n ih=>exact ih.mul ((h n).pow _)
 exact this 7
def PMg (N : Int) (P Q : Pl) : Prop:=∀ g,Mg N (Ev P g) (Ev Q g)
theorem PMg.dv {N : Int} {P Q : Pl} (h : PMg N P Q) (k : Nat) : PMg N (dvP k P) (dvP k Q):=fun g=>by
 rw [Ev_dv,Ev_dv];exact h _
theorem PMg.low {N : Int} {P Q : Pl} (h : PMg N P Q) : ∀ f xs,PMg N (lowP f xs P) (lowP f xs Q)
 | 0,_=>h
 | f+1,xs=>by
   rw [lowP,lowP]
   cases fasc xs with
   | none=>exact h
   | some k=>exact (PMg.low h f _).dv k
theorem PMg.top {N : Int} {ys ys' : List Int} (h : ∀ i,Mg N (ys.getD i 0) (ys'.getD i 0)) (n : Nat) : ∀ i,PMg N (topI n ys i) (topI n ys' i)
 | 0=>fun g=>Mg.refl _ _
 | i+1=>by
   rw [topI,topI]
   have : ∀ m,PMg N (topJ i ys m (topI n ys i)) (topJ i ys' m (topI n ys' i)):=fun m=>by
    induction m with
    | zero=>exact PMg.top h n i
    | succ m ih =>
      intro g
      rw [topJ,topJ,Ev_append,Ev_append,Ev_rs,Ev_rs,Ev_scl,Ev_scl,Ev_mul,Ev_mul]
      exact (ih _).add ((h m).neg.mul (ih g))
   exact this _
def Pos7 (P : Pl) : Prop:=∀ p ∈ P,p.1.length=7 ∧ ∀ x ∈ p.1,(0 : Int)≤x
theorem list7 {e : List Int} (h : e.length=7) : ∃ a0 a1 a2 a3 a4 a5 a6,e=[a0,a1,a2,a3,a4,a5,a6]:=by
 match e,h with
 | [a0,a1,a2,a3,a4,a5,a6],_=>exact ⟨a0,a1,a2,a3,a4,a5,a6,rfl⟩
theorem tele (X Y : Int) (b : Nat) : ∀ (m a : Nat),m≤a →
 (X - Y) * ((List.range m).foldl (fun s j=>s+X ^ (a - 1 - j) * Y ^ (b+j)) 0)=X ^ a * Y ^ b - X ^ (a - m) * Y ^ (b+m)
 | 0,a,_=>by simp
 | m+1,a,h=>by
   rw [List.range_succ,List.foldl_append,List.foldl_cons,List.foldl_nil,Int.mul_add,tele X Y b m a (by omega)]
   have e1 : a - m=(a - 1 - m)+1:=by omega
   have e2 : a - (m+1)=a - 1 - m:=by omega
   have e3 : b+(m+1)=(b+m)+1:=by omega
   rw [e1,e2,e3,Int.pow_succ X,Int.pow_succ Y]
   grind
theorem Ev_range (f : Nat→List Int) (c : Int) (g : List Int→Int) (n : Nat) : Ev ((List.range n).map fun j=>(f j,c)) g=c * (List.range n).foldl (fun s j=>s+g (f j)) 0:=by
 induction n with
 | zero=>simp [Ev]
 | succ n ih=>rw [List.range_succ,List.map_append,Ev_append,ih,List.foldl_append];simp [Ev,Int.mul_add]
theorem fold_mul (R : Int) (f g : Nat→Int) (n : Nat) (h : ∀ j,j < n→f j=R * g j) : (List.range n).foldl (fun s j=>s+f j) 0=R * (List.range n).foldl (fun s j=>s+g j) 0:=by
 induction n with
 | zero=>simp
 | succ n ih =>
   rw [List.range_succ,List.foldl_append,List.foldl_append,List.foldl_cons,List.foldl_cons,List.foldl_nil,List.foldl_nil,ih (fun j hj=>h j (by omega)),h n (by omega),Int.mul_add]
theorem mono_two {xs e : List Int} {k : Nat} (hk : k < 4) (he : e.length=7) (hx : xs.length=7) : ∃ R : Int,∀ (s t X Y : Int),
 mono ((xs.set (k+1) Y).set k X) ((e.set (k+1) t).set k s)=R * (X ^ s.toNat * Y ^ t.toNat):=by
 obtain ⟨a0,a1,a2,a3,a4,a5,a6,rfl⟩:=list7 he
 obtain ⟨x0,x1,x2,x3,x4,x5,x6,rfl⟩:=list7 hx
 have : k=0 ∨ k=1 ∨ k=2 ∨ k=3:=by omega
 rcases this with rfl | rfl | rfl | rfl
 ·refine ⟨x2 ^ a2.toNat * x3 ^ a3.toNat * x4 ^ a4.toNat * x5 ^ a5.toNat * x6 ^ a6.toNat,fun s t X Y=> ?_⟩
  simp [mono,monoK];ac_rfl
 ·refine ⟨x0 ^ a0.toNat * x3 ^ a3.toNat * x4 ^ a4.toNat * x5 ^ a5.toNat * x6 ^ a6.toNat,fun s t X Y=> ?_⟩
  simp [mono,monoK];ac_rfl
 ·refine ⟨x0 ^ a0.toNat * x1 ^ a1.toNat * x4 ^ a4.toNat * x5 ^ a5.toNat * x6 ^ a6.toNat,fun s t X Y=> ?_⟩
  simp [mono,monoK];ac_rfl
 ·refine ⟨x0 ^ a0.toNat * x1 ^ a1.toNat * x2 ^ a2.toNat * x5 ^ a5.toNat * x6 ^ a6.toNat,fun s t X Y=> ?_⟩
  simp [mono,monoK];ac_rfl
theorem set_two {xs : List Int} {k : Nat} (hk : k+1 < xs.length) : (xs.set (k+1) (xs.getD (k+1) 0)).set k (xs.getD k 0)=xs:=by
 have a : ∀ j,j < xs.length→xs.set j (xs.getD j 0)=xs:=fun j hj=>by rw [getD_lt hj,List.set_getElem_self]
 rw [a (k+1) hk,a k (by omega)]
theorem swap_set {xs : List Int} {k : Nat} (hk : k+1 < xs.length) : swapL xs k (k+1)=(xs.set (k+1) (xs.getD k 0)).set k (xs.getD (k+1) 0):=by
 unfold swapL
 rw [List.set_comm _ _ (by omega)]
theorem dvE_val {xs e : List Int} {k : Nat} (hk : k < 4) (he : e.length=7) (hp : ∀ x ∈ e,(0 : Int)≤x) (hx : xs.length=7) :
 (xs.getD k 0 - xs.getD (k+1) 0) * Ev (dvE k e) (mono xs)=mono xs e - mono (swapL xs k (k+1)) e:=by
 obtain ⟨R,hR⟩:=mono_two (xs:=xs) hk he hx
 obtain ⟨a,ha⟩ : ∃ a : Nat,e.getD k 0=(a : Int):=⟨(e.getD k 0).toNat,by have:=hp _ (getD_mem (show k < e.length by omega));omega⟩
 obtain ⟨b,hb⟩ : ∃ b : Nat,e.getD (k+1) 0=(b : Int):=⟨(e.getD (k+1) 0).toNat,by have:=hp _ (getD_mem (show k+1 < e.length by omega));omega⟩
 have e1 : mono xs e=R * (xs.getD k 0 ^ a * xs.getD (k+1) 0 ^ b):=by
  have:=hR a b (xs.getD k 0) (xs.getD (k+1) 0)
  rw [set_two (by omega),← ha,← hb,set_two (by omega),ha,hb] at this
  simpa using this
 have e2 : mono (swapL xs k (k+1)) e=R * (xs.getD (k+1) 0 ^ a * xs.getD k 0 ^ b):=by
  have:=hR a b (xs.getD (k+1) 0) (xs.getD k 0)
  rw [← swap_set (by omega),← ha,← hb,set_two (by omega),ha,hb] at this
  simpa using this
 have e3 : ∀ s t : Int,mono xs (dvS k e s t)=R * (xs.getD k 0 ^ (s - 1 - t).toNat * xs.getD (k+1) 0 ^ t.toNat):=fun s t=>by
  have:=hR (s - 1 - t) t (xs.getD k 0) (xs.getD (k+1) 0)
  rw [set_two (by omega)] at this
  exact this
 rw [e1,e2]
 obtain ⟨X,hX⟩ : ∃ X,X=xs.getD k 0:=⟨_,rfl⟩
 obtain ⟨Y,hY⟩ : ∃ Y,Y=xs.getD (k+1) 0:=⟨_,rfl⟩
 rw [← hX,← hY] at e3 ⊢
 by_cases hab : e.getD k 0 < e.getD (k+1) 0
 ·rw [dvE_le hab,dvK,Ev_range,ha,hb]
  have hn : ((b : Int) - (a : Int)).toNat=b - a:=by omega
  rw [hn,fold_mul R _ (fun j=>Y ^ (a+j) * X ^ (b - 1 - j)) _ (fun j hj=>by
   rw [e3]
   have h1 : ((a : Int)+(b : Int) - 1 - ((a : Int)+(j : Int))).toNat=b - 1 - j:=by omega
   have h2 : ((a : Int)+(j : Int)).toNat=a+j:=by omega
   rw [h1,h2,Int.mul_comm (X ^ _)])]
  have t:=tele X Y a (b - a) b (by omega)
  have h3 : b - (b - a)=a:=by omega
  have h4 : a+(b - a)=b:=by omega
  rw [h3,h4] at t
  have h5 : ((List.range (b - a)).foldl (fun s j=>s+Y ^ (a+j) * X ^ (b - 1 - j)) 0)=(List.range (b - a)).foldl (fun s j=>s+X ^ (b - 1 - j) * Y ^ (a+j)) 0:=by
   congr 1;funext s j;rw [Int.mul_comm (Y ^ _)]
  rw [h5]
  obtain ⟨S,hS⟩ : ∃ S,S=(List.range (b - a)).foldl (fun s j=>s+X ^ (b - 1 - j) * Y ^ (a+j)) 0:=⟨_,rfl⟩
  rw [← hS] at t ⊢
  have : (X - Y) * (-1 * (R * S)) = -(R * ((X - Y) * S)):=by grind
  rw [this,t]
  grind
 ·rw [dvE_ge hab,dvK,Ev_range,ha,hb]
  have hn : ((a : Int) - (b : Int)).toNat=a - b:=by omega
  rw [hn,fold_mul R _ (fun j=>X ^ (a - 1 - j) * Y ^ (b+j)) _ (fun j hj=>by
   rw [e3]
   have h1 : ((b : Int)+(a : Int) - 1 - ((b : Int)+(j : Int))).toNat=a - 1 - j:=by omega
   have h2 : ((b : Int)+(j : Int)).toNat=b+j:=by omega
   rw [h1,h2])]
  have t:=tele X Y b (a - b) a (by omega)
  have h3 : a - (a - b)=b:=by omega
  have h4 : b+(a - b)=a:=by omega
  rw [h3,h4] at t
  obtain ⟨S,hS⟩ : ∃ S,S=(List.range (a - b)).foldl (fun s j=>s+X ^ (a - 1 - j) * Y ^ (b+j)) 0:=⟨_,rfl⟩
  rw [← hS] at t ⊢
  have : (X - Y) * (1 * (R * S))=R * ((X - Y) * S):=by grind
  rw [this,t]
  grind
theorem dv_val {xs : List Int} {k : Nat} (hk : k < 4) (hx : xs.length=7) : ∀ {P : Pl},Pos7 P →
 (xs.getD k 0 - xs.getD (k+1) 0) * Ev (dvP k P) (mono xs)=Ev P (mono xs) - Ev P (mono (swapL xs k (k+1)))
 | [],_=>by simp [dvP,Ev]
 | p :: l,h=>by
   have ih:=dv_val hk hx (P:=l) fun q hq=>h q (List.mem_cons_of_mem _ hq)
   have hp:=h p List.mem_cons_self
   have:=dvE_val hk hp.1 hp.2 hx
   rw [Ev_dv] at ih ⊢
   simp only [Ev] at ih ⊢
   rw [Int.mul_add,ih,Int.mul_left_comm,this]
   grind
theorem Pos7.append {P Q : Pl} (h : Pos7 P) (h' : Pos7 Q) : Pos7 (P ++ Q):=fun p hp=>(List.mem_append.1 hp).elim (h p) (h' p)
theorem Pos7.scl {P : Pl} (h : Pos7 P) (k : Int) : Pos7 (sclP k P):=fun p hp=>by
 obtain ⟨q,hq,rfl⟩:=List.mem_map.1 hp
 exact h q hq
theorem Pos7.rs {P : Pl} (h : Pos7 P) (i : Nat) : Pos7 (rsP i P):=fun p hp=>by
 obtain ⟨q,hq,rfl⟩:=List.mem_map.1 hp
 refine ⟨by simpa [rsE] using (h q hq).1,fun x hx=> ?_⟩
 rcases List.mem_or_eq_of_mem_set hx with hx | rfl
 ·exact (h q hq).2 x hx
 ·by_cases hi : i < q.1.length
  ·have:=(h q hq).2 _ (getD_mem hi);omega
  ·rw [List.getD_eq_getElem?_getD,List.getElem?_eq_none (by omega)];simp
theorem Pos7.dv {P : Pl} (h : Pos7 P) {k : Nat} (hk : k < 4) : Pos7 (dvP k P):=fun p hp=>by
 obtain ⟨q,hq,hp⟩:=List.mem_flatMap.1 hp
 obtain ⟨r,hr,rfl⟩:=List.mem_map.1 hp
 have hq':=h q hq
 have h1:=hq'.2 _ (getD_mem (show k < q.1.length by omega))
 have h2:=hq'.2 _ (getD_mem (show k+1 < q.1.length by omega))
 have key : ∀ s t : Int,0≤t→t≤s - 1→(dvS k q.1 s t).length=7 ∧ ∀ x ∈ dvS k q.1 s t,(0 : Int)≤x:=fun s t ht hs=>by
  refine ⟨by simpa [dvS] using hq'.1,fun x hx=> ?_⟩
  rcases List.mem_or_eq_of_mem_set hx with hx | rfl
  ·rcases List.mem_or_eq_of_mem_set hx with hx | rfl
   ·exact hq'.2 x hx
   ·exact ht
  ·omega
 by_cases hab : q.1.getD k 0 < q.1.getD (k+1) 0
 ·rw [dvE_le hab] at hr
  obtain ⟨j,hj,rfl⟩:=List.mem_map.1 hr
  have:=List.mem_range.1 hj
  exact key _ _ (by omega) (by omega)
 ·rw [dvE_ge hab] at hr
  obtain ⟨j,hj,rfl⟩:=List.mem_map.1 hr
  have:=List.mem_range.1 hj
  exact key _ _ (by omega) (by omega)
theorem fasc_lt {xs : List Int} {k : Nat} (h : fasc xs=some k) : k < xs.length - 1∧xs.getD k 0 < xs.getD (k+1) 0 ∧ ∀ j,j < k → ¬ xs.getD j 0 < xs.getD (j+1) 0:=by
 unfold fasc at h
 rw [List.find?_range_eq_some] at h
 obtain ⟨h1,h2,h3⟩:=h
 exact ⟨by simpa using h2,by simpa using h1,fun j hj=>by simpa using h3 j hj⟩
theorem Pos7.low {P : Pl} (h : Pos7 P) : ∀ f xs,xs.length≤5→Pos7 (lowP f xs P)
 | 0,_,_=>h
 | f+1,xs,hx=>by
   rw [lowP]
   cases hf : fasc xs with
   | none=>exact h
   | some k=>exact (Pos7.low h f _ (by rw [swapL_length];exact hx)).dv (by have:=(fasc_lt hf).1;omega)
theorem Pos7.top (n : Nat) (ys : List Int) : ∀ i,Pos7 (topI n ys i)
 | 0=>fun p hp=>by
   obtain rfl:=List.mem_singleton.1 hp
   exact ⟨rfl,by simp⟩
 | i+1=>by
   rw [topI]
   have : ∀ m,Pos7 (topJ i ys m (topI n ys i)):=fun m=>by
    induction m with
    | zero=>exact Pos7.top n ys i
    | succ m ih=>exact (ih.rs i).append (ih.scl _)
   exact this _
theorem low_more {P : Pl} : ∀ f g xs,lowOk f xs=true→f≤g→lowP g xs P=lowP f xs P
 | 0,0,_,_,_=>rfl
 | 0,g+1,xs,h,_=>by
   unfold lowOk at h
   have : fasc xs=none:=by simpa using h
   show (match fasc xs with | none=>P | some k=>dvP k (lowP g (swapL xs k (k+1)) P))=P
   rw [this]
 | f+1,0,_,_,hg=>by omega
 | f+1,g+1,xs,h,hg=>by
   rw [lowP,lowP]
   unfold lowOk at h
   cases hf : fasc xs with
   | none=>rfl
   | some k=>rw [hf] at h;dsimp only at h ⊢;rw [low_more f g _ h (by omega)]
def lowB (v : List Int) : Bool:=lowOk 10 v
def farB (v : List Int) : Bool:=(List.range (v.length - 1)).all fun j=>(List.range (v.length - 1)).all fun k =>
 !(ascB j v && ascB k v && decide (j+2≤k)) || (ascB k (sw j v) && ascB j (sw k v) && decide (sw k (sw j v)=sw j (sw k v)))
def nearB (v : List Int) : Bool:=(List.range (v.length - 2)).all fun j =>
 !(ascB j v && ascB (j+1) v) || (ascB (j+1) (sw j v) && ascB j (sw (j+1) (sw j v)) && ascB j (sw (j+1) v) && ascB (j+1) (sw j (sw (j+1) v)) && decide (sw j (sw (j+1) (sw j v))=sw (j+1) (sw j (sw (j+1) v))))
theorem low_all : all5 lowB=true:=by decide +kernel
theorem far_all : all5 farB=true:=by decide +kernel
theorem near_all : all5 nearB=true:=by decide +kernel
theorem P5.low {n : Nat} {v : List Int} (h : P5 n v) : lowOk 10 v=true:=all5_at low_all h.ok (by have:=h.len;have:=h.le;omega)
theorem P5.far {n : Nat} {v : List Int} (h : P5 n v) {j k : Nat} (hk : k+1 < n) (hjk : j+2≤k) (ha : ascB j v=true) (hb : ascB k v=true) :
 ascB k (Go.Proofs.YtincaodpjdeoeaaGreatDoor.sw j v)=true∧ascB j (Go.Proofs.YtincaodpjdeoeaaGreatDoor.sw k v)=true∧Go.Proofs.YtincaodpjdeoeaaGreatDoor.sw k (Go.Proofs.YtincaodpjdeoeaaGreatDoor.sw j v)=Go.Proofs.YtincaodpjdeoeaaGreatDoor.sw j (Go.Proofs.YtincaodpjdeoeaaGreatDoor.sw k v):=by
 have:=all5_at far_all h.ok (by have:=h.len;have:=h.le;omega)
 simp only [farB,List.all_eq_true,List.mem_range] at this
 have:=this j (by have:=h.len;omega) k (by have:=h.len;omega)
 rw [ha,hb] at this
 simpa [hjk,and_assoc] using this
theorem P5.near {n : Nat} {v : List Int} (h : P5 n v) {j : Nat} (hk : j+2 < n) (ha : ascB j v=true) (hb : ascB (j+1) v=true) :
 ascB (j+1) (Go.Proofs.YtincaodpjdeoeaaGreatDoor.sw j v)=true∧ascB j (Go.Proofs.YtincaodpjdeoeaaGreatDoor.sw (j+1) (Go.Proofs.YtincaodpjdeoeaaGreatDoor.sw j v))=true∧ascB j (Go.Proofs.YtincaodpjdeoeaaGreatDoor.sw (j+1) v)=true∧ascB (j+1) (Go.Proofs.YtincaodpjdeoeaaGreatDoor.sw j (Go.Proofs.YtincaodpjdeoeaaGreatDoor.sw (j+1) v))=true ∧
  Go.Proofs.YtincaodpjdeoeaaGreatDoor.sw j (Go.Proofs.YtincaodpjdeoeaaGreatDoor.sw (j+1) (Go.Proofs.YtincaodpjdeoeaaGreatDoor.sw j v))=Go.Proofs.YtincaodpjdeoeaaGreatDoor.sw (j+1) (Go.Proofs.YtincaodpjdeoeaaGreatDoor.sw j (Go.Proofs.YtincaodpjdeoeaaGreatDoor.sw (j+1) v)):=by
 have:=all5_at near_all h.ok (by have:=h.len;have:=h.le;omega)
 simp only [nearB,List.all_eq_true,List.mem_range] at this
 have:=this j (by have:=h.len;omega)
 rw [ha,hb] at this
 simpa [and_assoc] using this
end
section
open Go.RowKit Go.Maps Go.WideMaps
def stV (n k j : Nat) : Int:=if j < k then ((n - 1 - j : Nat) : Int) else 0
theorem stV_end (n j : Nat) : stV n n j=((n - 1 - j : Nat) : Int):=by
 unfold stV
 split
 ·rfl
 ·rw [show n - 1 - j=0 by omega];rfl
theorem K7_st (n : Nat) (h7 : n≤7) : K7 6 (stE n):=⟨rfl,fun x hx=>by
 obtain ⟨j,hj,rfl⟩:=List.mem_map.1 hx
 omega⟩
theorem staircase_any (n : Nat) (w : World) (h1 : 1≤n) (h7 : n≤7) :
 Calls Tryz.prog 105 #[.int .i64 (n : Int)] w fun e w'=> ∃ u,e=.returned u∧PolV w' u 6 1 (stP n)∧Below w.heap.size w w':=by
 have hmm:=@run_makeMap Tryz.prog
 have hbd:=buildE
 have h70 : (n : Int)≤7:=by omega
 go_enter Tryz.func105,Tryz.ntmps105
 go_wp2_with fail
 go_loopg [7] n (fun g i wr=> ∃ k : Nat,k≤n∧g=n - k∧i=.int .i64 (k : Int)∧Hid (Below w.heap.size w wr)∧wr.heap.size=w.heap.size+1∧wr.rowIs w.heap.size 109 7 (fun j=>.int .i64 (stV n k j)))
 case atStart =>
  refine ⟨0,Nat.zero_le _,rfl,rfl,Lib.hid (below_alloc _ _),by simp,World.rowIs_alloc w _ _ _ fun i hi=> ?_⟩
  simp at hi
  match i,hi with
  | 0,_ | 1,_ | 2,_ | 3,_ | 4,_ | 5,_ | 6,_=>rfl
 case round =>
  obtain ⟨k,hk,rfl,rfl,hb,hs,hrow⟩:=hrel
  by_cases hlt : k < n
  ·have hki : (k : Int) < (n : Int):=by omega
   have hk7 : (k : Int) < 7:=by omega
   obtain ⟨z,c2⟩ : ∃ z,wr.cell? ⟨w.heap.size,k,none⟩=some (.int .i64 z):=⟨_,hrow.cell (by omega)⟩
   have c3:=hrow.frozen k
   have hv : ((n : Int) - 1 - (k : Int))=((n - 1 - k : Nat) : Int):=by omega
   have Hrow:=Lib.hid hrow
   have Hv:=Lib.hid hv
   clear hrow hv
   go_wp2_with fail
   go_roundg (n - (k+1))
   case measure=>omega
   case rel =>
    refine ⟨k+1,by omega,rfl,by go_num,Lib.hid (hb.out.setCell (Nat.le_refl _) _),by simp [hs],(Hrow.out.set k _).congr fun j hj=> ?_⟩
    unfold stV
    by_cases e : j=k
    ·subst e
     rw [if_pos rfl,if_pos (by omega)]
     rw [← Hv.out]
    ·rw [if_neg e]
     by_cases e2 : j < k
     ·rw [if_pos e2,if_pos (by omega)]
     ·rw [if_neg e2,if_neg (by omega)]
  ·obtain rfl : k=n:=by omega
   have Hrow:=Lib.hid hrow
   have q0:=hrow.cell (i:=0) (by omega)
   have q1:=hrow.cell (i:=1) (by omega)
   have q2:=hrow.cell (i:=2) (by omega)
   have q3:=hrow.cell (i:=3) (by omega)
   have q4:=hrow.cell (i:=4) (by omega)
   have q5:=hrow.cell (i:=5) (by omega)
   have q6:=hrow.cell (i:=6) (by omega)
   rw [stV_end] at q0 q1 q2 q3 q4 q5 q6
   have hkey:=keyOf_kv (K7_st k h7) (by omega)
   have hkd : kv (stE k)=.agg #[.int .i64 ((k - 1 - 0 : Nat) : Int),.int .i64 ((k - 1 - 1 : Nat) : Int),.int .i64 ((k - 1 - 2 : Nat) : Int),.int .i64 ((k - 1 - 3 : Nat) : Int),.int .i64 ((k - 1 - 4 : Nat) : Int),.int .i64 ((k - 1 - 5 : Nat) : Int),.int .i64 ((k - 1 - 6 : Nat) : Int)]:=rfl
   rw [hkd] at hkey
   have hput:=(PolM.empty 6).putNew (e:=stE k) (c:=1) (by omega) (K7_st k h7) rfl (by decide)
   obtain ⟨k0,hk0⟩ : ∃ x,x=kl (stE k):=⟨_,rfl⟩
   rw [← hk0] at hkey hput
   obtain ⟨x0,e0⟩ : ∃ x,x=((k - 1 - 0 : Nat) : Int):=⟨_,rfl⟩
   obtain ⟨x1,e1⟩ : ∃ x,x=((k - 1 - 1 : Nat) : Int):=⟨_,rfl⟩
   obtain ⟨x2,e2⟩ : ∃ x,x=((k - 1 - 2 : Nat) : Int):=⟨_,rfl⟩
   obtain ⟨x3,e3⟩ : ∃ x,x=((k - 1 - 3 : Nat) : Int):=⟨_,rfl⟩
   obtain ⟨x4,e4⟩ : ∃ x,x=((k - 1 - 4 : Nat) : Int):=⟨_,rfl⟩
   obtain ⟨x5,e5⟩ : ∃ x,x=((k - 1 - 5 : Nat) : Int):=⟨_,rfl⟩
   obtain ⟨x6,e6⟩ : ∃ x,x=((k - 1 - 6 : Nat) : Int):=⟨_,rfl⟩
   rw [← e0] at q0
   rw [← e1] at q1
   rw [← e2] at q2
   rw [← e3] at q3
   rw [← e4] at q4
   rw [← e5] at q5
   rw [← e6] at q6
   rw [← e0,← e1,← e2,← e3,← e4,← e5,← e6] at hkey
   have Hput:=Lib.hid hput
   have Hkey:=Lib.hid hkey
   have hown0:=World.ownsMap_made (H:=Unit) wr Tryz.prog 109 (plainElem Tryz.prog 3)
   rw [hs] at hown0
   have Hown0:=Lib.hid hown0
   clear hkd hput hk0 e0 e1 e2 e3 e4 e5 e6 hrow hkey hown0
   go_wp2_with (first
    | (refine wpList_insert_own rfl _ _ _ rfl (w.heap.size+1) 0 _ rfl Hown0.out (by omega) _ _ 1 rfl rfl Hkey.out (by decide) ?_;intro w0 hown1 hg0)
    | fail)
   go_ret
   refine ⟨_,rfl,⟨_,_,rfl,hown1,Hput.out⟩,hb.out.trans (((below_alloc wr (.map #[] 0)).mono (by omega)).trans ?_)⟩
   exact ⟨hg0.os,hg0.tape,hg0.output,hg0.size,fun i hi=>hg0.block i (by simp;omega) (fun e=>by injection e;omega)⟩
theorem trimB_all : all5 (fun w=>permOk (trimL w) && decide (1≤(trimL w).length))=true:=by decide +kernel
theorem P5.trim {n : Nat} {w : List Int} (h : P5 n w) : P5 (trimL w).length (trimL w):=by
 have:=all5_at trimB_all h.ok (by have:=h.len;have:=h.le;omega)
 simp only [Bool.and_eq_true] at this
 refine ⟨this.1,rfl,?_⟩
 have h1:=h.len
 have h2:=h.le
 unfold trimL
 rw [List.length_take]
 omega
def RetTs (w : World) (P : Pl) (v : Value) (w' : World) : Prop:=∃ ts,OwnTd w' w.heap.size w'.heap.size v ts∧TsOk ts∧(∀ g,Ev ts g=Ev P g)∧Below w.heap.size w w'
end
section
open Go.RowKit Go.Maps Go.WideMaps Go.WideElems Go.MapKept Go.ChangeMaps Go.ChangeShapes
theorem lowered7_any (d : Nat) (P : Pl) (hd : d < 1000000) (hd1 : 1≤d) : ∀ (f : Nat) (xs : List Int) (u vw : Value) (nf : Nat) (w : World),lowOk f xs=true→xs.length≤7→PolV w u d nf P→nf * d ^ f < 1000000000000000→Ints w vw xs →
 Calls Tryz.prog 104 #[vw,u,.func (.func 106) #[] #[]] w fun e w'=> ∃ u',e=.returned u'∧PolV w' u' d (nf * d ^ f) (lowP f xs P)∧Below w.heap.size w w':=by
 intro f
 induction f using Nat.strongRecOn with
 | _ f ih =>
   intro xs u vw nf w hok hl hp hn hw
   have Hp:=Lib.hid hp
   have Hw:=Lib.hid hw
   have hge0 : nf≤nf * d ^ f:=Nat.le_mul_of_pos_right _ (Nat.pow_pos hd1)
   have hasc : ∀ k,fasc xs=some k → ∃ f',f=f'+1∧lowOk f' (swapL xs k (k+1))=true∧lowP f xs P=dvP k (lowP f' (swapL xs k (k+1)) P):=fun k hk=>by
    cases f with
    | zero=>unfold lowOk at hok;rw [hk] at hok;cases hok
    | succ f'=>exact ⟨f',rfl,by unfold lowOk at hok;rw [hk] at hok;exact hok,by rw [lowP,hk]⟩
   have hnone : fasc xs=none→lowP f xs P=P:=fun hk=>by
    cases f with
    | zero=>rfl
    | succ f'=>rw [lowP,hk]
   have Hasc:=Lib.hid hasc
   have Hnone:=Lib.hid hnone
   have Ih:=Lib.hid ih
   have Hn:=Lib.hid hn
   have Hge:=Lib.hid hge0
   obtain ⟨T,hT⟩ : ∃ T,T=nf * d ^ f:=⟨_,rfl⟩
   have HT:=Lib.hid hT
   rw [← hT]
   obtain ⟨pw,cw,rfl,⟨hw1,hw2⟩,hwc⟩:=hw
   obtain ⟨bf,Df,rfl,hf1,hf2⟩:=hp
   unfold maxLen at hw2
   have Hwc:=Lib.hid hwc
   obtain ⟨R,hR⟩ : ∃ R,R=lowP f xs P:=⟨_,rfl⟩
   have HR:=Lib.hid hR
   rw [← hR]
   clear hwc hf1 hf2 hok ih hT hasc hnone hn hge0 hR
   go_enter Tryz.func104,Tryz.ntmps104
   go_wp2_with fail
   go_loopg [7,11] xs.length (fun g s7 s11 wr=> ∃ k : Nat,k≤xs.length∧g=xs.length - k∧s11=.int .i64 (k : Int)∧Qt w wr∧Hid (∀ j,j < k → ¬ xs.getD j 0 < xs.getD (j+1) 0))
   case atStart=>exact ⟨0,by omega,rfl,rfl,Qt.refl _,Lib.hid fun j hj=>absurd hj (Nat.not_lt_zero _)⟩
   case round =>
    obtain ⟨k,hk,rfl,rfl,hq,hpre⟩:=hrel
    obtain ⟨wx,rfl⟩ : ∃ x : World,x=wr:=⟨_,rfl⟩
    by_cases hkl : k+1 < xs.length
    ·have hki : (k : Int) < (xs.length : Int) - 1:=by omega
     obtain ⟨bw,ow,rfl,hc⟩:=Hwc.out (by omega)
     have c1:=hq.cell (hc k (by omega))
     have c2:=hq.cell (hc (k+1) hkl)
     unfold iv at c1 c2
     obtain ⟨x,hx⟩ : ∃ x,x=xs.getD k 0:=⟨_,rfl⟩
     obtain ⟨y,hy⟩ : ∃ y,y=xs.getD (k+1) 0:=⟨_,rfl⟩
     rw [← hx] at c1
     rw [← hy] at c2
     have Hx:=Lib.hid hx
     have Hy:=Lib.hid hy
     have HQ:=Lib.hid hq
     have hk1 : (k : Int) < (xs.length : Int):=by omega
     have hk2 : (k : Int)+1 < (xs.length : Int):=by omega
     clear hx hy hc hq
     by_cases hxy : x < y
     ·go_wp2_with fail
      go_quiet (fail)
      have HQ1:=Lib.hid (HQ.out.drewN nq)
      go_wp2_with fail
      obtain ⟨f',hf',hok',hlow⟩:=Hasc.out k (fasc_some (by omega) (by rw [← Hx.out,← Hy.out];exact hxy) fun j hj=>Int.not_lt.2 (by have:=hpre.out j hj;omega))
      have Hlow:=Lib.hid hlow
      have Hok':=Lib.hid hok'
      have Hf':=Lib.hid hf'
      clear hlow hok' hf'
      refine (exchanged_any _ xs k (k+1) _ (Hw.out.qt HQ1.out) (by omega) hkl (by omega) (by omega)).mono ?_
      rintro e w1 ⟨ue,rfl,hoe,hbe⟩
      have Hoe:=Lib.hid hoe.ints
      obtain ⟨pe,ke,rfl,_,_⟩:=hoe.shape
      have Hb1:=Lib.hid ((HQ1.out.below w.heap.size).trans (hbe.mono (Nat.le_of_eq HQ1.out.size.symm)))
      clear hoe hbe
      go_wp2_with fail
      have hT0 : nf * d ^ f' * d=T:=by rw [HT.out,Hf'.out,Nat.pow_succ,Nat.mul_assoc]
      have hT1 : nf * d ^ f'≤T:=by rw [← hT0];exact Nat.le_mul_of_pos_right _ (by omega)
      have HT0:=Lib.hid hT0
      clear hT0
      refine (Ih.out f' (by have:=Hf'.out;omega) (swapL xs k (k+1)) _ _ nf _ Hok'.out (by rw [swapL_length];exact hl) (Hp.out.below Hb1.out) (by have:=Hn.out;have:=HT.out;omega) Hoe.out).mono ?_
      rintro e w2 ⟨u2,rfl,hp2,hb2⟩
      have Hp2:=Lib.hid hp2
      obtain ⟨b2,D2,rfl,_,_⟩:=hp2
      have Hb2:=Lib.hid (Hb1.out.trans (hb2.mono Hb1.out.size))
      clear hb2
      go_wp2_with fail
      refine (divided7_any _ k d (nf * d ^ f') _ _ Hp2.out (by omega) hd (by rw [HT0.out];have:=Hn.out;have:=HT.out;omega)).mono ?_
      rintro e w3 ⟨u3,rfl,hp3,hb3⟩
      have Hp3:=Lib.hid hp3
      have Hb3:=Lib.hid (Hb2.out.trans (hb3.mono Hb2.out.size))
      obtain ⟨b3,D3,rfl,_,_⟩:=hp3
      clear hb3
      go_wp2_with fail
      go_ret
      refine ⟨_,rfl,?_,Hb3.out⟩
      rw [HR.out,Hlow.out,← HT0.out]
      exact Hp3.out
     ·go_wp2_with fail
      go_quiet (fail)
      have HQ1:=Lib.hid (HQ.out.drewN nq)
      go_wp2_with fail
      go_roundg (xs.length - (k+1))
      case measure=>omega
      case rel =>
       refine ⟨k+1,by omega,rfl,by go_num,HQ1.out,Lib.hid fun j hj=> ?_⟩
       by_cases e : j=k
       ·subst e;rw [← Hx.out,← Hy.out];omega
       ·exact hpre.out j (by omega)
    ·have hki : ¬ (k : Int) < (xs.length : Int) - 1:=by omega
     go_wp2_with fail
     go_ret
     refine ⟨_,rfl,?_,hq.below _⟩
     rw [HR.out,Hnone.out (fasc_none fun j hj=>Int.not_lt.2 (by have:=hpre.out j (by omega);omega))]
     exact (Hp.out.below (hq.below _)).mono (Nat.le_refl _) (by rw [HT.out];exact Hge.out)
def schP9 (u : List Int) : Pl:=lowP 17 (trimL u) (stP (trimL u).length)
def symS9 (u : List Int) : Pl:=lowN 17 (trimL u) (stP (trimL u).length)
theorem symS9_eq (u : List Int) (g : List Int→Int) : Ev (symS9 u) g=Ev (schP9 u) g:=low_N _ _ g
theorem schub9_any (v : Value) (xs : List Int) (w : World) (h : Ints w v xs) (hp : permOk xs=true) (hn1 : 1≤(trimL xs).length) (hn7 : (trimL xs).length≤7) (hlow : lowOk 17 (trimL xs)=true) :
 Calls Tryz.prog 64 #[v] w fun e w'=> ∃ u,e=.returned u∧PolV w' u 6 16926659444736 (schP9 xs)∧Below w.heap.size w w':=by
 have Hh:=Lib.hid h
 have Hp:=Lib.hid hp
 have Hlow:=Lib.hid hlow
 obtain ⟨p,cap,rfl,_,_⟩:=h
 obtain ⟨N,hN⟩ : ∃ N,N=(trimL xs).length:=⟨_,rfl⟩
 rw [← hN] at hn1 hn7
 have HN:=Lib.hid hN
 unfold schP9
 rw [← hN]
 clear hp hN hlow
 go_enter Tryz.func64,Tryz.ntmps64
 go_wp2_with fail
 refine (implTrim_yes _ xs _ Hh.out Hp.out).mono ?_
 rintro e w1 ⟨u,rfl,ho,hb⟩
 obtain ⟨p1,k1,rfl,_,_⟩:=ho.shape
 have Ho:=Lib.hid ho.ints
 rw [← HN.out] at Ho ⊢
 have Hb:=Lib.hid hb
 clear ho hb
 go_wp2_with fail
 refine (staircase_any N _ hn1 hn7).mono ?_
 rintro e w2 ⟨u2,rfl,hpv,hb2⟩
 have Hpv:=Lib.hid hpv
 have Hb2:=Lib.hid (Hb.out.trans (hb2.mono Hb.out.size))
 have Ho2:=Lib.hid (Ho.out.below hb2)
 obtain ⟨b2,D2,rfl,_,_⟩:=hpv
 clear hb2
 go_wp2_with fail
 refine (lowered7_any 6 (stP N) (by omega) (by omega) 17 (trimL xs) _ _ 1 _ Hlow.out (by rw [← HN.out];exact hn7) Hpv.out (by decide) Ho2.out).mono ?_
 rintro e w3 ⟨u3,rfl,hpv3,hb3⟩
 have Hpv3:=Lib.hid hpv3
 have Hb3:=Lib.hid (Hb2.out.trans (hb3.mono Hb2.out.size))
 obtain ⟨b3,D3,rfl,_,_⟩:=hpv3
 clear hb3
 go_wp2_with fail
 go_ret
 exact ⟨_,rfl,Hpv3.out,Hb3.out⟩
def addE (x y : List Int) : List Int:=(List.range 7).map fun j=>x.getD j 0+y.getD j 0
def mulP (P Q : Pl) : Pl:=P.flatMap fun p=>Q.map fun q=>(addE p.1 q.1,p.2 * q.2)
theorem Ev_mapQ (p : List Int × Int) (g : List Int→Int) : ∀ Q : Pl,Ev (Q.map fun q=>(addE p.1 q.1,p.2 * q.2)) g=p.2 * Ev Q fun b=>g (addE p.1 b)
 | []=>by simp [Ev]
 | q :: Q=>by
   have ih:=Ev_mapQ p g Q
   show p.2 * q.2 * g (addE p.1 q.1)+Ev (Q.map fun q=>(addE p.1 q.1,p.2 * q.2)) g=p.2 * (q.2 * g (addE p.1 q.1)+Ev Q fun b=>g (addE p.1 b))
   rw [ih,Int.mul_add,Int.mul_assoc]
theorem Ev_mulP (g : List Int→Int) (Q : Pl) : ∀ P : Pl,Ev (mulP P Q) g=Ev P fun a=>Ev Q fun b=>g (addE a b)
 | []=>rfl
 | p :: P=>by
   have ih:=Ev_mulP g Q P
   show Ev ((Q.map fun q=>(addE p.1 q.1,p.2 * q.2)) ++ mulP P Q) g=p.2 * (Ev Q fun b=>g (addE p.1 b))+Ev P fun a=>Ev Q fun b=>g (addE a b)
   rw [Ev_append,ih,Ev_mapQ]
def mixL (x y : List Int) (i : Nat) : List Int:=(List.range 7).map fun j=>if j < i then x.getD j 0+y.getD j 0 else x.getD j 0
theorem mixL_length (x y : List Int) (i : Nat) : (mixL x y i).length=7:=by simp [mixL]
theorem mixL_getD {x y : List Int} {i j : Nat} (hj : j < 7) : (mixL x y i).getD j 0=if j < i then x.getD j 0+y.getD j 0 else x.getD j 0:=by
 simp [mixL,List.getD_eq_getElem?_getD,hj]
theorem mixL_succ {x y : List Int} {i : Nat} (hi : i < 7) : (mixL x y i).set i (x.getD i 0+y.getD i 0)=mixL x y (i+1):=by
 refine getD_eq_list (by rw [List.length_set,mixL_length,mixL_length]) fun j hj=> ?_
 rw [List.length_set,mixL_length] at hj
 rw [mixL_getD hj,List.getD_eq_getElem?_getD,List.getElem?_set,mixL_length]
 by_cases e : i=j
 ·subst e
  simp [hj]
 ·rw [if_neg e,← List.getD_eq_getElem?_getD,mixL_getD hj]
  by_cases h : j < i
  ·rw [if_pos h,if_pos (by omega)]
  ·rw [if_neg h,if_neg (by omega)]
theorem mixL_seven (x y : List Int) : mixL x y 7=addE x y:=by
 unfold mixL addE
 refine List.map_congr_left fun j hj=> ?_
 rw [if_pos (List.mem_range.1 hj)]
def ArT (T : TypeId) (w : World) (g : Nat) (a : List Int) : Prop:=w.heap[g]?=some (.cells (ivs a).toArray T (0,0))
theorem ArT.cell {T : TypeId} {w : World} {g : Nat} {a : List Int} (h : ArT T w g a) {j : Nat} (hj : j < a.length) : w.cell? ⟨g,j,none⟩=some (.int .i64 (a.getD j 0)) :=
 cell_of_blk h (by rw [List.getElem?_toArray,getElem?_ivs a j hj];rfl)
theorem ArT.set {T : TypeId} {w : World} {g : Nat} {a : List Int} (h : ArT T w g a) (j : Nat) (x : Int) : ArT T (w.setCell ⟨g,j,none⟩ (.int .i64 x)) g (a.set j x):=by
 unfold ArT
 rw [heap_setCell_at h]
 congr 2
 unfold ivs
 rw [List.map_set]
 simp
theorem K7.addE {d : Nat} {x y : List Int} (hx : K7 d x) (hy : K7 d y) : K7 (d+d) (addE x y):=by
 refine ⟨by simp [Go.Proofs.YtincaodpjdeoeaaGreatDoor.addE],fun z hz=> ?_⟩
 unfold Go.Proofs.YtincaodpjdeoeaaGreatDoor.addE at hz
 obtain ⟨j,hj,rfl⟩:=List.mem_map.1 hz
 have hj:=List.mem_range.1 hj
 have hmx : x.getD j 0 ∈ x:=by rw [getD_lt (by rw [hx.1];exact hj)];exact List.getElem_mem _
 have hmy : y.getD j 0 ∈ y:=by rw [getD_lt (by rw [hy.1];exact hj)];exact List.getElem_mem _
 have a:=hx.2 _ hmx
 have b:=hy.2 _ hmy
 omega
theorem K7.rng {d : Nat} {x : List Int} (h : K7 d x) (j : Nat) : 0≤x.getD j 0∧x.getD j 0≤(d : Int):=by
 by_cases e : j < x.length
 ·have : x.getD j 0 ∈ x:=by rw [getD_lt e];exact List.getElem_mem _
  exact h.2 _ this
 ·rw [List.getD_eq_getElem?_getD,List.getElem?_eq_none (by omega)]
  show (0 : Int)≤0∧(0 : Int)≤(d : Int)
  omega
theorem frm_gb {q : Nat} {w w' : World} (h : Frm q (q+1) w w') : w.grownBy w' (some q):=⟨h.os,h.tape,h.output,h.size,fun i hi hne=>h.block i hi (by
 have : i ≠ q:=fun e=>hne (by rw [e])
 omega)⟩
theorem addE_lit (x y : List Int) : ∃ s0 s1 s2 s3 s4 s5 s6 : Int,addE x y=[s0,s1,s2,s3,s4,s5,s6]:=⟨_,_,_,_,_,_,_,rfl⟩
theorem times_any (u v : Value) (d nf ng : Nat) (P Q : Pl) (w : World) (hf : PolV w u d nf P) (hg : PolV w v d ng Q) (hd : d≤1000) (hn : nf * ng < 1000000000000000) (hn2 : nf < 1000000000000000) :
 Calls Tryz.prog 65 #[u,v] w fun e w'=> ∃ u',e=.returned u'∧PolV w' u' (d+d) (nf * ng) (mulP P Q)∧Below w.heap.size w w':=by
 obtain ⟨bf,Df,rfl,hf1,hf2⟩:=hf
 obtain ⟨bg,Dg,rfl,hg1,hg2⟩:=hg
 have hmm:=@run_makeMap Tryz.prog
 have hblf:=hf1.lt
 have hblg:=hg1.lt
 have hszf:=hf1.size_le
 have hszg:=hg1.size_le
 have e1 : (w.alloc (.map #[] 0)).heap.size=w.heap.size+1:=by simp
 have HF2:=Lib.hid hf2
 have HG2:=Lib.hid hg2
 have Hg1:=Lib.hid hg1
 obtain ⟨B,hB⟩ : ∃ B,B=w.heap.size:=⟨_,rfl⟩
 have HB:=Lib.hid hB
 have hG0:=Lib.hid (Gath.start (T:=fun g a=>Ev Q fun b=>g (addE a b)) hf1 hf2)
 clear hf2 hg2
 go_enter Tryz.func65,Tryz.ntmps65
 go_wp2_with (first
  | (at_range;refine wpList_range_own _ rfl _ 105 rfl 109 3 klaw und41 _ bf nf _ rfl (hf1.alloc _) ?_;intro w0 hrg0 hg0 hs0)
  | fail)
 go_frame
 rw [e1] at hrg0 hs0 ⊢
 have hown0 : OwnMp w0 w.heap.size 0 (.map []):=(World.ownsMap_made _ _ _ _).kept hg0 (by simp)
 have hbel0 : Below w.heap.size w w0:=((Below.refl _ _).alloc (Nat.le_refl _) _).grown hg0 (by simp) (fun j hj=>by cases hj)
 rw [← hB] at hrg0 hs0 hown0 hbel0 hblf hblg ⊢
 have Hbel0:=Lib.hid hbel0
 clear hbel0 hg0 e1 hB
 go_loopg [6,7,8,9,10,11] (Maps.size Df) (fun g s6 s7 s8 s9 s10 s11 wr=> ∃ (left : Lit→Bool) (Dout : DU) (A : Pl),RanP wr bf (B+1) nf Df left g∧g≤Maps.size Df∧B+1 < wr.heap.size∧(∀ l,left l=true→has Df l=true) ∧
  OwnMp wr B ((Maps.size Df - g) * ng) Dout∧Hid (PolM (d+d) Dout A)∧Hid (Gath Df P (fun g a=>Ev Q fun b=>g (addE a b)) left A)∧Hid (Below B w wr))
 case atStart=>exact ⟨_,.map [],[],hrg0,Nat.le_refl _,by omega,fun _ h=>h,hown0.mono (Nat.zero_le _),Lib.hid (PolM.empty _),hG0,Hbel0⟩
 case round =>
  obtain ⟨left,Dout,A,hrg,hgs,hszr,hleft,hout,hpm,hga,hbel⟩:=hrel
  obtain ⟨wx,rfl⟩ : ∃ x : World,x=wr:=⟨_,rfl⟩
  go_wp2_with (first
   | (at_next;refine wpList_next_poly _ rfl _ rfl bf (B+1) nf d Df P left gk rfl hrg HF2.out (by omega) hleft ?_ ?_)
   | fail)
  ·intro hc0 hl0
   have hend:=(hga.out.end hl0)
   have Hend:=Lib.hid hend
   clear hend
   go_wp2_with fail
   go_ret
   refine ⟨_,rfl,⟨B,Dout,rfl,hout.mono (Nat.mul_le_mul_right _ (by omega)),hpm.out.alt fun g=> ?_⟩,HB.out ▸ hbel.out⟩
   rw [Ev_mulP]
   exact Hend.out g
  ·intro a0 a1 a2 a3 a4 a5 a6 c w1 cnt1 hK hlx hwf hat hrg1 hlt hgr1 hs1 hen
   have Hat:=Lib.hid hat
   have Hgr1:=Lib.hid hgr1
   have hout1:=hout.kept hgr1 (by intro h;injection h with h;omega)
   have hBx:=hout.lt
   obtain ⟨av,hav⟩ : ∃ av : List Int,av=[a0,a1,a2,a3,a4,a5,a6]:=⟨_,rfl⟩
   have HK:=Lib.hid (show K7 d av by rw [hav];exact hK)
   have Hav:=Lib.hid hav
   have Hwf:=Lib.hid hwf
   clear hat hgr1 hav hK hwf
   have Hpm:=Lib.hid hpm.out
   have hg1x : OwnMp wx bg ng Dg:=by
    obtain ⟨es,clock,hb',F,hs,hD⟩:=Hg1.out
    exact ⟨es,clock,(hbel.out.block bg hblg).trans hb',F,hs,hD⟩
   have hg1w:=hg1x.kept Hgr1.out (by intro h;injection h with h;omega)
   obtain ⟨oa,hoa⟩ : ∃ o : Obj,o=.cells #[.int .i64 a0,.int .i64 a1,.int .i64 a2,.int .i64 a3,.int .i64 a4,.int .i64 a5,.int .i64 a6] 109:=⟨_,rfl⟩
   have Hoa:=Lib.hid hoa
   have Hout1:=Lib.hid (hout1.alloc oa)
   have Hrg1:=Lib.hid (hrg1.alloc oa)
   have Hbel1:=Lib.hid ((hbel.out.grown Hgr1.out (by omega) (fun j hj=>by cases hj;omega)).alloc (by omega) oa)
   have Hz6:=Lib.hid (show ArT 109 (w1.alloc oa) w1.heap.size av by rw [Hav.out];unfold ArT;rw [hoa];exact heap_alloc_top _ _)
   have hg1a:=hg1w.alloc oa
   have hB1 : B < (w1.alloc oa).heap.size:=by rw [size_alloc];omega
   have hbg1 : bg < (w1.alloc oa).heap.size:=by rw [size_alloc];omega
   have hq6 : w1.heap.size < (w1.alloc oa).heap.size:=by rw [size_alloc];omega
   have hr1 : B+1 < (w1.alloc oa).heap.size:=by rw [size_alloc];omega
   rw [hoa] at hg1a
   clear hout hout1 hrg hrg1 hg1x hg1w hbel hoa hpm
   go_wp2_with (first
    | (at_range;refine wpList_range_own _ rfl _ 105 rfl 109 3 klaw und41 _ bg ng _ rfl hg1a ?_;intro w2 hrg2 hg2 hs2)
    | fail)
   go_frame
   rw [← Hoa.out] at hrg2 hg2 hs2 ⊢
   have hs1a : (w1.alloc oa).heap.size=wx.heap.size+1:=by rw [size_alloc,hs1]
   rw [hs1a] at hrg2 hs2 hB1 hbg1 hq6 hr1 ⊢
   have Hrg:=Lib.hid (Hrg1.out.kept hg2 (by simp) (by simp))
   have Hout:=Lib.hid (Hout1.out.kept hg2 (by simp))
   have Hbel:=Lib.hid (Hbel1.out.grown hg2 (by omega) (fun j hj=>by cases hj))
   have Hz:=Lib.hid (show ArT 109 w2 wx.heap.size av from (hg2.block wx.heap.size (by rw [hs1a];omega) (by simp)).trans (by rw [← hs1];exact Hz6.out))
   have HG1:=Lib.hid (Gath.start (T:=fun g b=>c * g (addE av b)) hg1a HG2.out)
   obtain ⟨q6,hq6e⟩ : ∃ q,q=wx.heap.size:=⟨_,rfl⟩
   rw [← hq6e] at hrg2 hs2 hB1 hbg1 hq6 hr1 Hz ⊢
   have hB2 : B < q6+1:=by omega
   have hbg2 : bg < q6+1:=by omega
   have hr12 : B+1 < q6:=by omega
   have hsz2 : q6+1 < w2.heap.size:=by rw [hs2];omega
   clear hg2 hg1a Hrg1 Hout1 Hbel1 Hz6 hB1 hbg1 hq6 hr1 hq6e hen hs1 Hgr1 hs1a
   obtain ⟨K0,hK0⟩ : ∃ K0,K0=(Maps.size Df - gk) * ng:=⟨_,rfl⟩
   have HK0:=Lib.hid hK0
   rw [← hK0] at Hout
   have hKn : K0+ng≤nf * ng:=by
    rw [hK0,← Nat.succ_mul]
    exact Nat.mul_le_mul_right _ (by omega)
   clear hK0
   go_loopg [8,9,10,11] (Maps.size Dg) (fun g s8 s9 s10 s11 wr=> ∃ (left2 : Lit→Bool) (Dout2 : DU) (A2 : Pl),RanP wr bg (q6+1) ng Dg left2 g∧RanP wr bf (B+1) nf Df (fun z=>left z && !z.sameKey (kl [a0,a1,a2,a3,a4,a5,a6])) cnt1∧g≤Maps.size Dg∧(q6+1) < wr.heap.size∧(∀ l,left2 l=true→has Dg l=true) ∧
    OwnMp wr B (K0+(Maps.size Dg - g)) Dout2∧Hid (PolM (d+d) Dout2 (A ++ A2))∧Hid (Gath Dg Q (fun g b=>c * g (addE av b)) left2 A2)∧Hid (Below B w wr)∧Hid (ArT 109 wr q6 av))
   case atStart=>exact ⟨_,_,[],hrg2,Hrg.out,Nat.le_refl _,hsz2,fun _ h=>h,Hout.out.mono (by omega),by rw [List.append_nil];exact Hpm.out,HG1.out,Hbel.out,Hz.out⟩
   case round =>
    obtain ⟨left2,Dout2,A2,hrg,hrgo,hgs2,hszr2,hleft2,hout,hpm,hga2,hbel,hz⟩:=hrel
    obtain ⟨wy,rfl⟩ : ∃ x : World,x=wr:=⟨_,rfl⟩
    go_wp2_with (first
     | (at_next;refine wpList_next_poly _ rfl _ rfl bg (q6+1) ng d Dg Q left2 gk rfl hrg HG2.out (by omega) hleft2 ?_ ?_)
     | fail)
    ·intro hc0 hl0
     have hend:=(hga2.out.end hl0)
     have Hend:=Lib.hid hend
     have Hpm2:=Lib.hid hpm.out
     have Hbel2:=Lib.hid hbel.out
     clear hend hpm hbel hga2 hz
     go_wp2_with fail
     go_roundg cnt1
     case measure=>exact hlt
     case rel =>
      have hle : K0+(size Dg - gk)≤(size Df - cnt1) * ng:=by
       refine Nat.le_trans (m:=K0+ng) (by omega) ?_
       rw [HK0.out,← Nat.succ_mul]
       exact Nat.mul_le_mul_right _ (by omega)
      refine ⟨_,Dout2,A ++ A2,hrgo,by omega,by omega,has_sub hleft,hout.mono hle,Hpm2.out,Lib.hid (hga.out.step HF2.out.tidy (d:=d) (by rw [← Hav.out];exact HK.out) (by omega) hlx Hat.out fun g=> ?_),Hbel2.out⟩
      rw [Ev_append,← Ev_mul,← Hav.out]
      exact (Cg.refl _).add (Hend.out g)
    ·intro b0 b1 b2 b3 b4 b5 b6 c2 w3 cnt2 hK2 hlx2 hwf2 hat2 hrg3 hlt2 hgr3 hs3 hen3
     obtain ⟨g2,rfl⟩ : ∃ x : Nat,x=gk:=⟨_,rfl⟩
     have Hat2:=Lib.hid hat2
     have Hgr3:=Lib.hid hgr3
     have Hlx2:=Lib.hid hlx2
     obtain ⟨bv,hbv⟩ : ∃ bv : List Int,bv=[b0,b1,b2,b3,b4,b5,b6]:=⟨_,rfl⟩
     have HK2:=Lib.hid (show K7 d bv by rw [hbv];exact hK2)
     have Hbv:=Lib.hid hbv
     have Hpm2:=Lib.hid hpm.out
     have Hga2:=Lib.hid hga2.out
     have hBy:=hout.lt
     have hzz:=hz.out
     rw [Hav.out] at hzz
     obtain ⟨x0,x1,x2,x3,x4,x5,x6,_,_⟩:=blk7 (show (w3.alloc (.cells #[.int .i64 b0,.int .i64 b1,.int .i64 b2,.int .i64 b3,.int .i64 b4,.int .i64 b5,.int .i64 b6] 109)).heap[q6]?=some (.cells #[.int .i64 a0,.int .i64 a1,.int .i64 a2,.int .i64 a3,.int .i64 a4,.int .i64 a5,.int .i64 a6] 109 (0,0)) from
      (heap_alloc_low _ _ (by rw [hs3];omega)).trans ((hgr3.block q6 (by omega) (by simp)).trans hzz))
     have Hout3:=Lib.hid ((hout.kept hgr3 (by intro h;injection h with h;omega)))
     have Hrgo3:=Lib.hid (hrgo.kept hgr3 (by intro h;injection h with h;omega) (by intro h;injection h with h;omega))
     have Hrg3:=Lib.hid hrg3
     have Hbel3:=Lib.hid (hbel.out.grown hgr3 (by omega) (fun j hj=>by cases hj;omega))
     have Hz3:=Lib.hid (show ArT 109 w3 q6 av from (hgr3.block q6 (by omega) (by simp)).trans hz.out)
     clear hat2 hgr3 hlx2 hbv hK2 hwf2 hpm hga2 hzz hz hout hrgo hrg hrg3 hbel
     obtain ⟨W,hW⟩ : ∃ W,W=(w3.alloc (.cells #[.int .i64 b0,.int .i64 b1,.int .i64 b2,.int .i64 b3,.int .i64 b4,.int .i64 b5,.int .i64 b6] 109)).alloc (.cells #[.int .i64 a0,.int .i64 a1,.int .i64 a2,.int .i64 a3,.int .i64 a4,.int .i64 a5,.int .i64 a6] 109):=⟨_,rfl⟩
     have HzB:=Lib.hid (show ArT 109 W wy.heap.size bv by
      rw [hW,Hbv.out]
      exact (heap_alloc_low _ _ (by rw [size_alloc];omega)).trans (heap_alloc_at _ _ hs3.symm))
     have HzA:=Lib.hid (show ArT 109 W (wy.heap.size+1) (mixL av bv 0) by
      rw [hW,show mixL av bv 0=av by rw [Hav.out];rfl,Hav.out]
      exact heap_alloc_at _ _ (by rw [size_alloc,hs3]))
     have HoutW:=Lib.hid (show OwnMp W B (K0+(size Dg - g2)) Dout2 by rw [hW];exact (Hout3.out.alloc _).alloc _)
     have HrgoW:=Lib.hid (show RanP W bf (B+1) nf Df (fun z=>left z && !z.sameKey (kl [a0,a1,a2,a3,a4,a5,a6])) cnt1 by rw [hW];exact (Hrgo3.out.alloc _).alloc _)
     have HrgW:=Lib.hid (show RanP W bg (q6+1) ng Dg (fun z=>left2 z && !z.sameKey (kl [b0,b1,b2,b3,b4,b5,b6])) cnt2 by rw [hW];exact (Hrg3.out.alloc _).alloc _)
     have HbelW:=Lib.hid (show Below B w W by rw [hW];exact (Hbel3.out.alloc (by omega) _).alloc (by rw [size_alloc];omega) _)
     have HzW:=Lib.hid (show ArT 109 W q6 av by rw [hW];exact (heap_alloc_low _ _ (by rw [size_alloc];omega)).trans ((heap_alloc_low _ _ (by omega)).trans Hz3.out))
     have hszW : W.heap.size=wy.heap.size+1+1:=by rw [hW,size_alloc,size_alloc,hs3]
     have HW:=Lib.hid hW
     clear hW Hout3 Hrgo3 Hrg3 Hbel3 Hz3
     go_wp2_with fail
     rw [← HW.out]
     try rw [hs3]
     obtain ⟨q8,hq8⟩ : ∃ q8,q8=wy.heap.size:=⟨_,rfl⟩
     rw [← hq8] at HzB HzA hszW ⊢
     have hq8' : q6+1 < q8:=by omega
     clear x0 x1 x2 x3 x4 x5 x6 hs3 hq8 hen3
     go_loopg [11,28] 7 (fun g s11 s28 wr=> ∃ i : Nat,i≤7∧g=7 - i∧s28=.int .i64 i∧Hid (ArT 109 wr (q8+1) (mixL av bv i))∧Hid (Frm (q8+1) (q8+1+1) W wr))
     case atStart=>exact ⟨0,Nat.zero_le _,rfl,rfl,HzA.out,Frm.refl _ _ _⟩
     case round =>
      obtain ⟨i,hi,rfl,rfl,hm,hfm⟩:=hrel
      obtain ⟨wz,rfl⟩ : ∃ x : World,x=wr:=⟨_,rfl⟩
      have Hm:=Lib.hid hm.out
      have Hfm:=Lib.hid hfm.out
      clear hm hfm
      by_cases hi7 : i < 7
      ·have hi7z : (i : Int) < 7:=by omega
       have c1:=Hm.out.cell (j:=i) (by rw [mixL_length];exact hi7)
       rw [mixL_getD hi7,if_neg (Nat.lt_irrefl i)] at c1
       have c2' : wz.cell? ⟨q8,i,none⟩=some (.int .i64 (bv.getD i 0)):=(show ArT 109 wz q8 bv from (Hfm.out.block q8 (by omega) (Or.inl (by omega))).trans HzB.out).cell (by rw [HK2.out.1];exact hi7)
       have f1 : wz.frozen? ⟨q8+1,i,none⟩=false:=free_of_blk Hm.out i
       have r1:=HK.out.rng i
       have r2:=HK2.out.rng i
       have Hs:=Lib.hid (mixL_succ (x:=av) (y:=bv) hi7)
       obtain ⟨xa,hxa⟩ : ∃ x,x=av.getD i 0:=⟨_,rfl⟩
       obtain ⟨xb,hxb⟩ : ∃ x,x=bv.getD i 0:=⟨_,rfl⟩
       rw [← hxa] at c1 r1 Hs
       rw [← hxb] at c2' r2 Hs
       have hwr : IntKind.i64.wrap (xa+xb)=xa+xb:=k64 (by omega) (by omega)
       have hwr2 : wrap64 (xa+xb)=xa+xb:=w64 (by omega) (by omega)
       clear hxa hxb
       go_wp2_with fail
       go_region
       go_wp2_with fail
       go_roundg (7 - (i+1))
       case measure=>omega
       case rel =>
        refine ⟨i+1,by omega,rfl,by go_num,?_,?_⟩
        ·show ArT _ _ _ (mixL av bv (i+1))
         rw [← Hs.out]
         exact Hm.out.set i _
        ·exact (Hfm.out.setCell (p:=⟨q8+1,i,none⟩) (Nat.le_refl _) (by show q8+1 < q8+1+1;omega) _).drewN 1
      ·obtain rfl : i=7:=by omega
       have hmm7:=Hm.out
       rw [mixL_seven] at hmm7
       obtain ⟨t0,t1,t2,t3,t4,t5,t6,hts⟩:=addE_lit av bv
       rw [hts] at hmm7
       have Hts:=Lib.hid hts
       obtain ⟨x0,x1,x2,x3,x4,x5,x6,_,_⟩:=blk7 hmm7
       have hgW:=frm_gb Hfm.out
       have hKe:=HK.out.addE HK2.out
       rw [hts] at hKe
       have HoutZ:=HoutW.out.kept hgW (by intro h;injection h with h;omega)
       have HA:=Lib.hid (add_any B (K0+(size Dg - g2)) (d+d) Dout2 (A ++ A2) [t0,t1,t2,t3,t4,t5,t6] (wrap64 (c * c2)) wz HoutZ Hpm2.out hKe (by omega) (by omega))
       have HrgZ:=Lib.hid (HrgW.out.kept hgW (by intro h;injection h with h;omega) (by intro h;injection h with h;omega))
       have HrgoZ:=Lib.hid (HrgoW.out.kept hgW (by intro h;injection h with h;omega) (by intro h;injection h with h;omega))
       have HbelZ:=Lib.hid (HbelW.out.grown hgW (by omega) (fun j hj=>by cases hj;omega))
       have HzZ:=Lib.hid (show ArT 109 wz q6 av from (Hfm.out.block q6 (by omega) (Or.inl (by omega))).trans HzW.out)
       have hszZ:=Hfm.out.size
       clear hmm7 hts hgW hKe HoutZ
       go_wp2_with fail
       refine HA.out.mono ?_
       rintro e w9 ⟨rfl,D9,ho9,hp9,hg9⟩
       have Hrg9:=Lib.hid (HrgZ.out.kept hg9 (by intro h;injection h with h;omega) (by intro h;injection h with h;omega))
       have Hrgo9:=Lib.hid (HrgoZ.out.kept hg9 (by intro h;injection h with h;omega) (by intro h;injection h with h;omega))
       have Hbel9:=Lib.hid (HbelZ.out.grown hg9 (by omega) (fun j hj=>by cases hj;omega))
       have Hz9:=Lib.hid (show ArT 109 w9 q6 av from (hg9.block q6 (by omega) (by intro h;injection h with h;omega)).trans HzZ.out)
       have Hp9:=Lib.hid hp9
       have hsz9:=hg9.size
       clear hp9 hg9 x0 x1 x2 x3 x4 x5 x6
       go_wp2_with fail
       go_roundg cnt2
       case measure=>exact hlt2
       case rel =>
        refine ⟨_,D9,A2 ++ [([t0,t1,t2,t3,t4,t5,t6],wrap64 (c * c2))],Hrg9.out,Hrgo9.out,by omega,by omega,has_sub hleft2,ho9.mono (by omega),by rw [← List.append_assoc];exact Hp9.out,Lib.hid (Hga2.out.step (d:=d) HG2.out.tidy (by rw [← Hbv.out];exact HK2.out) (by omega) Hlx2.out Hat2.out fun g=> ?_),Hbel9.out,Hz9.out⟩
        rw [Ev_append]
        refine (Cg.refl _).add ?_
        rw [← Hbv.out,Hts.out]
        simp only [Ev,Int.add_zero]
        rw [show c2 * (c * g [t0,t1,t2,t3,t4,t5,t6])=c * c2 * g [t0,t1,t2,t3,t4,t5,t6] by rw [Int.mul_left_comm,Int.mul_assoc]]
        exact (cg_wrap _).mul (Cg.refl _)
end
section
open Go.RowKit
def subN (P : Pl) (c : Int) (S : Pl) : Pl:=srtT (nrm (P ++ sclP (-c) S))
def mulN (P Q : Pl) : Pl:=srtT (nrm (mulP P Q))
theorem Ev_subN (P : Pl) (c : Int) (S : Pl) (g : List Int→Int) : Ev (subN P c S) g=Ev (P ++ sclP (-c) S) g:=by
 unfold subN
 rw [Ev_perm (srtT_perm _),Ev_nrm]
theorem Ev_mulN (P Q : Pl) (g : List Int→Int) : Ev (mulN P Q) g=Ev (mulP P Q) g:=by
 unfold mulN
 rw [Ev_perm (srtT_perm _),Ev_nrm]
def l1S (P : Pl) : Int:=(P.map fun t=>if t.2 < 0 then -t.2 else t.2).sum
theorem cf_l1 (e : List Int) : ∀ P : Pl,-(l1S P)≤cfP P e∧cfP P e≤l1S P
 | []=>by
   show -(0 : Int)≤0∧(0 : Int)≤0
   omega
 | t :: P=>by
   have ih:=cf_l1 e P
   have h1 : cfP (t :: P) e=t.2 * ind e t.1+cfP P e:=Ev_cons t P _
   have h2 : l1S (t :: P)=(if t.2 < 0 then -t.2 else t.2)+l1S P:=by simp [l1S]
   rw [h1,h2]
   unfold ind
   split <;> split <;> omega
def stpC (P : Pl) (w : List Int) (c : Int) : Bool:=match P with
 | []=>false
 | t :: P'=>decide (t.1.length=7) && t.1.all (fun x=>decide (0≤x) && decide (x≤24)) && P'.all (fun s=>ltT t.1 s.1) && decide (t.2=c) && decide (c ≠ 0) && decide (l1S P≤1000000) &&
   poB t.1 && permOk (poO t.1 7) && decide (trimL (poO t.1 7)=w) && permOk w && decide (trimL w=w) && decide (1≤w.length) && decide (w.length≤7) && lowOk 17 w
def exdC : Pl→List Cls→Bool
 | P,[]=>P.isEmpty
 | P,x :: L=>stpC P x.1 x.2 && exdC (subN P x.2 (symS9 x.1)) L
def xpF : Nat→Pl→Option (List Cls)
 | 0,P=>if P.isEmpty then some [] else none
 | _+1,[]=>some []
 | f+1,t :: P=>if stpC (t :: P) (trimL (poO t.1 7)) t.2 then (xpF f (subN (t :: P) t.2 (symS9 (trimL (poO t.1 7))))).map ((trimL (poO t.1 7),t.2) :: ·) else none
theorem xpF_ok : ∀ (f : Nat) (P : Pl) (L : List Cls),xpF f P=some L→exdC P L=true
 | 0,P,L,h=>by
   unfold xpF at h
   split at h
   ·rename_i hp
    cases h
    exact hp
   ·cases h
 | f+1,[],L,h=>by
   unfold xpF at h
   cases h
   rfl
 | f+1,t :: P,L,h=>by
   unfold xpF at h
   split at h
   ·rename_i hs
    cases hx : xpF f (subN (t :: P) t.2 (symS9 (trimL (poO t.1 7)))) with
    | none=>rw [hx] at h;cases h
    | some L' =>
      rw [hx] at h
      cases h
      unfold exdC
      rw [hs,Bool.true_and]
      exact xpF_ok f _ L' hx
   ·cases h
def nopB (P : Pl) : Bool:=match P with
 | []=>false
 | t :: P'=>decide (t.1.length=7) && t.1.all (fun x=>decide (0≤x) && decide (x≤24)) && P'.all (fun s=>ltT t.1 s.1) && decide (t.2 ≠ 0) && decide (l1S P≤1000000) && !poB t.1
def sqP (w : List Int) : Pl:=mulN (symS9 w) (symS9 w)
def sqB (w : List Int) : Bool :=
 lowOk 17 (trimL w) && decide ((symS9 w).length≤24) && (symS9 w).all (fun t=>decide (t.1.length=7) && t.1.all fun x=>decide (0≤x) && decide (x≤6)) && decide (l1S (symS9 w)≤1000000) && decide (l1S (sqP w)≤1000000) &&
  (symS9 w).all (fun t=>decide (0≤t.2)) && permOk (trimL w) && decide (trimL (trimL w)=trimL w) &&
  match xpF 40 (sqP w) with
  | some L=>clsOk (srtC L) && decide (L.length≤40) && decide (L.map (·.1)).Nodup && (srtC L).all fun x=>decide (0≤x.2)
  | none=>nopB (sqP w)
def sqC (n lo : Nat) : Bool:=(((permsL n).drop lo).take 10).all sqB
theorem sq_small : ((List.range 5).all fun n=>(permsL n).all fun v=> !decide (1≤n) || sqB v)=true:=by decide +kernel
theorem sq_0 : sqC 5 0=true:=by decide +kernel
theorem sq_1 : sqC 5 10=true:=by decide +kernel
theorem sq_2 : sqC 5 20=true:=by decide +kernel
theorem sq_3 : sqC 5 30=true:=by decide +kernel
theorem sq_4 : sqC 5 40=true:=by decide +kernel
theorem sq_5 : sqC 5 50=true:=by decide +kernel
theorem sq_6 : sqC 5 60=true:=by decide +kernel
theorem sq_7 : sqC 5 70=true:=by decide +kernel
theorem sq_8 : sqC 5 80=true:=by decide +kernel
theorem sq_9 : sqC 5 90=true:=by decide +kernel
theorem sq_10 : sqC 5 100=true:=by decide +kernel
theorem sq_11 : sqC 5 110=true:=by decide +kernel
theorem all_drop {B : List Int→Bool} (l : List (List Int)) (h : ∀ k,k < 12→((l.drop (10 * k)).take 10).all B=true) (hl : l.length≤120) : l.all B=true:=by
 rw [List.all_eq_true]
 intro x hx
 obtain ⟨i,hi,rfl⟩:=List.getElem_of_mem hx
 have hk:=h (i / 10) (by omega)
 rw [List.all_eq_true] at hk
 refine hk _ ?_
 have hm : ((l.drop (10 * (i / 10))).take 10)[i % 10]?=some l[i]:=by
  rw [List.getElem?_take_of_lt (by omega),List.getElem?_drop,show 10 * (i / 10)+i % 10=i by omega]
  exact List.getElem?_eq_getElem hi
 exact List.mem_of_getElem? hm
theorem sq_all : all5 sqB=true:=by
 unfold all5
 rw [List.all_eq_true]
 intro n hn
 by_cases h5 : n=5
 ·subst h5
  have e : (permsL 5).all sqB=true:=all_drop _ (fun k hk=>by
   match k,hk with
   | 0,_=>exact sq_0
   | 1,_=>exact sq_1
   | 2,_=>exact sq_2
   | 3,_=>exact sq_3
   | 4,_=>exact sq_4
   | 5,_=>exact sq_5
   | 6,_=>exact sq_6
   | 7,_=>exact sq_7
   | 8,_=>exact sq_8
   | 9,_=>exact sq_9
   | 10,_=>exact sq_10
   | 11,_=>exact sq_11) (by decide +kernel)
  rw [List.all_eq_true] at e ⊢
  intro v hv
  rw [e v hv,Bool.or_true]
 ·have:=sq_small
  rw [List.all_eq_true] at this
  exact this n (List.mem_range.2 (by have:=List.mem_range.1 hn;omega))
end
section
open Go.RowKit Go.Maps Go.WideMaps Go.WideElems Go.MapKept Go.ChangeMaps Go.ChangeShapes
theorem TmOk.k7 {t : Cls} (h : TmOk t) : K7 24 t.1:=by
 refine ⟨h.1,fun x hx=> ?_⟩
 obtain ⟨j,hj,rfl⟩:=List.mem_iff_getElem.1 hx
 have:=h.2.1 j
 rw [getD_lt hj] at this
 exact this
theorem run_arrayAt7 (b o k : Nat) (w : World) : (Instr.arrayAt 109 (.slice (some ⟨b,o,none⟩) 7 k)).run Tryz.prog w=.ok (.pointer (some ⟨b,o,none⟩)) w:=by
 unfold Instr.arrayAt
 simp [run_underlying und56]
theorem take_snocT {l : List Cls} {k : Nat} (h : k < l.length) : l.take (k+1)=l.take k ++ [((l.getD k clD).1,(l.getD k clD).2)]:=by
 rw [List.take_succ,List.getElem?_eq_getElem h]
 have e : l.getD k clD=l[k]:=by simp [List.getD_eq_getElem?_getD,h]
 rw [e]
 rfl
theorem openD_any (d : Nat) (v : Value) (ts : List Cls) (w : World) (h : RdCl w v ts) (hok : TsOk ts) (hd : d≤24) (hkd : ∀ t ∈ ts,K7 d t.1) :
 Calls Tryz.prog 66 #[v] w fun e w'=> ∃ u,e=.returned u∧PolV w' u d ts.length ts∧Below w.heap.size w w':=by
 obtain ⟨f,hs,hf⟩:=h
 obtain ⟨p,cap,rfl,⟨hx1,hx⟩,hxc⟩:=hs.two
 unfold maxLen at hx
 have hmm:=@run_makeMap Tryz.prog
 obtain ⟨N,hN⟩ : ∃ N,N=ts.length:=⟨_,rfl⟩
 have HN:=Lib.hid hN
 have hN6 : N≤600:=by rw [hN];exact hok.1
 rw [← hN] at hx1 hxc hf ⊢
 have Hf:=Lib.hid hf
 have Hxc:=Lib.hid hxc
 have Hok:=Lib.hid hok
 have Hkd:=Lib.hid hkd
 obtain ⟨B,hB⟩ : ∃ B,B=w.heap.size:=⟨_,rfl⟩
 have HB:=Lib.hid hB
 have hown0 : OwnMp (w.alloc (.map #[] 0)) w.heap.size 0 (.map []):=World.ownsMap_made _ _ _ _
 have hbel0 : Below w.heap.size w (w.alloc (.map #[] 0)):=below_alloc w _
 rw [← hB] at hown0 hbel0
 have Hown0:=Lib.hid hown0
 have Hbel0:=Lib.hid hbel0
 clear hf hxc hs hok hN hown0 hbel0 hkd
 go_enter Tryz.func66,Tryz.ntmps66
 go_wp2_with fail
 rw [← HB.out]
 clear hB
 go_loopg [5,9] N (fun g s5 s9 wr=> ∃ (k : Nat) (Dout : DU),k≤N∧g=N - k∧s9=.int .i64 k∧Hid (OwnMp wr B k Dout)∧Hid (PolM d Dout (ts.take k))∧Hid (Below B w wr))
 case atStart=>exact ⟨0,.map [],Nat.zero_le _,rfl,rfl,Hown0.out,PolM.empty _,Hbel0.out⟩
 case round =>
  obtain ⟨k,Dout,hk,rfl,rfl,ho,hp,hb⟩:=hrel
  obtain ⟨wo,rfl⟩ : ∃ x : World,x=wr:=⟨_,rfl⟩
  have Ho:=Lib.hid ho.out
  have Hp:=Lib.hid hp.out
  have Hb:=Lib.hid hb.out
  clear ho hp hb
  by_cases hlt : k < N
  ·have hkz : (k : Int) < (N : Int):=by omega
   obtain ⟨b,rfl,hc⟩:=Hxc.out (by omega)
   obtain ⟨a0,a1⟩:=hc k hlt
   have hbw : Below w.heap.size w wo:=by rw [← HB.out];exact Hb.out
   have c0:=cell_below hbw a0
   have c1:=cell_below hbw a1
   have hT:=Hok.out.at (k:=k) (by rw [← HN.out];exact hlt)
   have hK:=Hkd.out _ (show ts.getD k clD ∈ ts by
    have e : ts.getD k clD=ts[k]'(by rw [← HN.out];exact hlt):=by simp [List.getD_eq_getElem?_getD,show k < ts.length by rw [← HN.out];exact hlt]
    rw [e];exact List.getElem_mem _)
   obtain ⟨e,he⟩ : ∃ e,e=(ts.getD k clD).1:=⟨_,rfl⟩
   obtain ⟨c,hcc⟩ : ∃ c,c=(ts.getD k clD).2:=⟨_,rfl⟩
   have hi:=(Hf.out k hlt).below hbw
   rw [← he] at hK hi
   rw [← hcc] at c1
   obtain ⟨q,kq,eq,⟨m1,m2⟩,hq⟩:=hi
   rw [eq,hK.1] at c0
   rw [hK.1] at hq m1
   obtain ⟨g,og,rfl,hg⟩:=hq (by omega)
   have T1:=Lib.hid (take_snocT (l:=ts) (k:=k) (by rw [← HN.out];exact hlt))
   rw [← he,← hcc] at T1
   obtain ⟨t0,t1,t2,t3,t4,t5,t6,hts⟩ : ∃ t0 t1 t2 t3 t4 t5 t6 : Int,e=[t0,t1,t2,t3,t4,t5,t6]:=by
    have:=hK.1
    match e,this with
    | [t0,t1,t2,t3,t4,t5,t6],_=>exact ⟨_,_,_,_,_,_,_,rfl⟩
   subst hts
   have hlg:=World.block_lt_of_cell? _ _ (hg 0 (by omega))
   obtain ⟨W,hW⟩ : ∃ W,W=wo.alloc (.cells #[.slice (some ⟨g,og,none⟩) 7 kq,.int .i64 c] 68):=⟨_,rfl⟩
   have hbW : Below wo.heap.size wo W:=by rw [hW];exact below_alloc wo _
   have zW : W.heap[wo.heap.size]?=some (.cells #[.slice (some ⟨g,og,none⟩) 7 kq,.int .i64 c] 68 (0,0)):=by rw [hW];exact heap_alloc_top _ _
   have x0:=cell_of_blk zW (j:=0) rfl
   have x1:=cell_of_blk zW (j:=1) rfl
   have y0 : W.cell? ⟨g,og,none⟩=some (.int .i64 t0):=cell_below hbW (hg 0 (by omega))
   have y1:=cell_below hbW (hg 1 (by omega))
   have y2:=cell_below hbW (hg 2 (by omega))
   have y3:=cell_below hbW (hg 3 (by omega))
   have y4:=cell_below hbW (hg 4 (by omega))
   have y5:=cell_below hbW (hg 5 (by omega))
   have y6:=cell_below hbW (hg 6 (by omega))
   have HoW:=Lib.hid (show OwnMp W B k Dout by rw [hW];exact Ho.out.alloc _)
   have HA:=Lib.hid (add_any B k d Dout (ts.take k) [t0,t1,t2,t3,t4,t5,t6] c W.drew (HoW.out.kept (row:=none) ⟨rfl,rfl,rfl,Nat.le_refl _,fun _ _ _=>rfl⟩ (by simp)) Hp.out hK (by omega) (by omega))
   have HbW:=Lib.hid (Hb.out.alloc (o:=(.cells #[.slice (some ⟨g,og,none⟩) 7 kq,.int .i64 c] 68)) (by have:=Ho.out.lt;omega))
   have HW:=Lib.hid hW
   have har:=run_arrayAt7 g og kq
   clear hW hbW zW hg hq hT hc a0 a1 he hcc eq
   go_wp2_with fail
   rw [← HW.out]
   go_still_tail 7,(by kernel_rfl)
   change wpList _ _ _ _ _ W.drew
   go_wp2_with fail
   refine HA.out.mono ?_
   rintro e w9 ⟨rfl,D9,ho9,hp9,hg9⟩
   have Ho9:=Lib.hid ho9
   have Hp9:=Lib.hid hp9
   have Hb9:=Lib.hid ((show Below B w W by rw [HW.out];exact HbW.out).grown (gb_undrew hg9) (by rw [HB.out];exact (show Below w.heap.size w W by rw [← HB.out,HW.out];exact HbW.out).size) (fun j hj=>by injection hj with hj;omega))
   clear x0 x1 y0 y1 y2 y3 y4 y5 y6 ho9 hp9 hg9
   go_wp2_with fail
   go_roundg (N - (k+1))
   case measure=>omega
   case rel=>exact ⟨k+1,D9,by omega,rfl,by go_num,Ho9.out,by rw [T1.out];exact Hp9.out,Hb9.out⟩
  ·obtain rfl : k=N:=by omega
   have hp':=Hp.out
   rw [HN.out,List.take_of_length_le (Nat.le_refl _)] at hp'
   have Hp':=Lib.hid hp'
   clear hp'
   go_wp2_with fail
   go_ret
   exact ⟨_,rfl,⟨B,Dout,rfl,Ho.out,Hp'.out⟩,by rw [← HB.out];exact Hb.out⟩
theorem open_any (v : Value) (ts : List Cls) (w : World) (h : RdCl w v ts) (hok : TsOk ts) :
 Calls Tryz.prog 66 #[v] w fun e w'=> ∃ u,e=.returned u∧PolV w' u 24 ts.length ts∧Below w.heap.size w w' :=
 openD_any 24 v ts w h hok (Nat.le_refl _) fun t ht=>(hok.2.1 t ht).k7
end
end Go.Proofs.YtincaodpjdeoeaaGreatDoor
