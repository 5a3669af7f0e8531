/-
  A part of the proof of FnTop (texts of one proof, joined).
-/
import Derived.Test.YtijadclebjcckaaGreatJ5
namespace Go.Proofs.YtijadclebjcckaaGreat
set_option linter.all false
set_option maxRecDepth 100000
set_option maxHeartbeats 16000000
section
open Go.RowKit
def Mg (N a b : Int) : Prop:=∃ m,a=b+N * m
theorem Mg.refl (N a : Int) : Mg N a a:=⟨0,by simp⟩
theorem Mg.symm {N a b : Int} (h : Mg N a b) : Mg N b a:=by
 obtain ⟨m,rfl⟩:=h
 exact ⟨-m,by rw [Int.mul_neg];omega⟩
theorem Mg.trans {N a b c : Int} (h : Mg N a b) (h' : Mg N b c) : Mg N a c:=by
 obtain ⟨m,rfl⟩:=h
 obtain ⟨m',rfl⟩:=h'
 exact ⟨m'+m,by rw [Int.mul_add];omega⟩
theorem Mg.add {N a b c e : Int} (h : Mg N a b) (h' : Mg N c e) : Mg N (a+c) (b+e):=by
 obtain ⟨m,rfl⟩:=h
 obtain ⟨m',rfl⟩:=h'
 exact ⟨m+m',by rw [Int.mul_add];omega⟩
theorem Mg.mul {N a b c e : Int} (h : Mg N a b) (h' : Mg N c e) : Mg N (a * c) (b * e):=by
 obtain ⟨m,rfl⟩:=h
 obtain ⟨m',rfl⟩:=h'
 refine ⟨m * e+b * m'+N * m * m',?_⟩
 grind
theorem Mg.neg {N a b : Int} (h : Mg N a b) : Mg N (-a) (-b):=by
 obtain ⟨m,rfl⟩:=h
 exact ⟨-m,by rw [Int.mul_neg];omega⟩
theorem Mg.sub {N a b c e : Int} (h : Mg N a b) (h' : Mg N c e) : Mg N (a - c) (b - e):=by
 have:=h.add h'.neg
 rw [Int.sub_eq_add_neg,Int.sub_eq_add_neg]
 exact this
theorem Mg.pow {N a b : Int} (h : Mg N a b) : ∀ n : Nat,Mg N (a ^ n) (b ^ n)
 | 0=>by rw [Int.pow_zero,Int.pow_zero];exact Mg.refl _ _
 | n+1=>by rw [Int.pow_succ,Int.pow_succ];exact (Mg.pow h n).mul h
theorem Mg.zero {D : Int} (c : Int) (h : ∀ N,c < N→0 < N→Mg N D 0) : D=0:=by
 obtain ⟨K,h1,h2,h3,h4⟩ : ∃ K : Int,c < K∧0 < K∧D < K ∧ -D < K:=⟨1+(c.natAbs : Int)+(D.natAbs : Int),by omega,by omega,by omega,by omega⟩
 obtain ⟨m,hm⟩:=h K h1 h2
 rcases Int.lt_trichotomy m 0 with h0 | h0 | h0
 ·have:=Int.mul_le_mul_of_nonneg_left (show m ≤ -1 by omega) (show 0≤K by omega)
  rw [Int.mul_neg,Int.mul_one] at this
  omega
 ·rw [h0] at hm;simpa using hm
 ·have:=Int.mul_le_mul_of_nonneg_left (show 1≤m by omega) (show 0≤K by omega)
  rw [Int.mul_one] at this
  omega
theorem Ev_mg {N : Int} {g g' : List Int→Int} (h : ∀ e,Mg N (g e) (g' e)) : ∀ P : Pl,Mg N (Ev P g) (Ev P g')
 | []=>Mg.refl _ _
 | p :: l=>((Mg.refl N p.2).mul (h p.1)).add (Ev_mg h l)
theorem mono_mg {N : Int} {xs xs' : List Int} (h : ∀ i,Mg N (xs.getD i 0) (xs'.getD i 0)) (e : List Int) : Mg N (mono xs e) (mono xs' e):=by
 unfold mono
 have : ∀ n,Mg N (monoK xs e n) (monoK xs' e n):=fun n=>by
  induction n with
  | zero=>exact Mg.refl _ _
  | succ n ih=>exact ih.mul ((h n).pow _)
 exact this 7
def PMg (N : Int) (P Q : Pl) : Prop:=∀ g,Mg N (Ev P g) (Ev Q g)
theorem PMg.dv {N : Int} {P Q : Pl} (h : PMg N P Q) (k : Nat) : PMg N (dvP k P) (dvP k Q):=fun g=>by
 rw [Ev_dv,Ev_dv];exact h _
theorem PMg.low {N : Int} {P Q : Pl} (h : PMg N P Q) : ∀ f xs,PMg N (lowP f xs P) (lowP f xs Q)
 | 0,_=>h
 | f+1,xs=>by
   rw [lowP,lowP]
   cases fasc xs with
   | none=>exact h
   | some k=>exact (PMg.low h f _).dv k
theorem PMg.top {N : Int} {ys ys' : List Int} (h : ∀ i,Mg N (ys.getD i 0) (ys'.getD i 0)) (n : Nat) : ∀ i,PMg N (topI n ys i) (topI n ys' i)
 | 0=>fun g=>Mg.refl _ _
 | i+1=>by
   rw [topI,topI]
   have : ∀ m,PMg N (topJ i ys m (topI n ys i)) (topJ i ys' m (topI n ys' i)):=fun m=>by
    induction m with
    | zero=>exact PMg.top h n i
    | succ m ih =>
      intro g
      rw [topJ,topJ,Ev_append,Ev_append,Ev_rs,Ev_rs,Ev_scl,Ev_scl,Ev_mul,Ev_mul]
      exact (ih _).add ((h m).neg.mul (ih g))
   exact this _
def Pos7 (P : Pl) : Prop:=∀ p ∈ P,p.1.length=7 ∧ ∀ x ∈ p.1,(0 : Int)≤x
theorem list7 {e : List Int} (h : e.length=7) : ∃ a0 a1 a2 a3 a4 a5 a6,e=[a0,a1,a2,a3,a4,a5,a6]:=by
 match e,h with
 | [a0,a1,a2,a3,a4,a5,a6],_=>exact ⟨a0,a1,a2,a3,a4,a5,a6,rfl⟩
theorem tele (X Y : Int) (b : Nat) : ∀ (m a : Nat),m≤a →
 (X - Y) * ((List.range m).foldl (fun s j=>s+X ^ (a - 1 - j) * Y ^ (b+j)) 0)=X ^ a * Y ^ b - X ^ (a - m) * Y ^ (b+m)
 | 0,a,_=>by simp
 | m+1,a,h=>by
   rw [List.range_succ,List.foldl_append,List.foldl_cons,List.foldl_nil,Int.mul_add,tele X Y b m a (by omega)]
   have e1 : a - m=(a - 1 - m)+1:=by omega
   have e2 : a - (m+1)=a - 1 - m:=by omega
   have e3 : b+(m+1)=(b+m)+1:=by omega
   rw [e1,e2,e3,Int.pow_succ X,Int.pow_succ Y]
   grind
theorem Ev_range (f : Nat→List Int) (c : Int) (g : List Int→Int) (n : Nat) : Ev ((List.range n).map fun j=>(f j,c)) g=c * (List.range n).foldl (fun s j=>s+g (f j)) 0:=by
 induction n with
 | zero=>simp [Ev]
 | succ n ih=>rw [List.range_succ,List.map_append,Ev_append,ih,List.foldl_append];simp [Ev,Int.mul_add]
theorem fold_mul (R : Int) (f g : Nat→Int) (n : Nat) (h : ∀ j,j < n→f j=R * g j) : (List.range n).foldl (fun s j=>s+f j) 0=R * (List.range n).foldl (fun s j=>s+g j) 0:=by
 induction n with
 | zero=>simp
 | succ n ih =>
   rw [List.range_succ,List.foldl_append,List.foldl_append,List.foldl_cons,List.foldl_cons,List.foldl_nil,List.foldl_nil,ih (fun j hj=>h j (by omega)),h n (by omega),Int.mul_add]
theorem mono_two {xs e : List Int} {k : Nat} (hk : k < 4) (he : e.length=7) (hx : xs.length=7) : ∃ R : Int,∀ (s t X Y : Int),
 mono ((xs.set (k+1) Y).set k X) ((e.set (k+1) t).set k s)=R * (X ^ s.toNat * Y ^ t.toNat):=by
 obtain ⟨a0,a1,a2,a3,a4,a5,a6,rfl⟩:=list7 he
 obtain ⟨x0,x1,x2,x3,x4,x5,x6,rfl⟩:=list7 hx
 have : k=0 ∨ k=1 ∨ k=2 ∨ k=3:=by omega
 rcases this with rfl | rfl | rfl | rfl
 ·refine ⟨x2 ^ a2.toNat * x3 ^ a3.toNat * x4 ^ a4.toNat * x5 ^ a5.toNat * x6 ^ a6.toNat,fun s t X Y=> ?_⟩
  simp [mono,monoK];ac_rfl
 ·refine ⟨x0 ^ a0.toNat * x3 ^ a3.toNat * x4 ^ a4.toNat * x5 ^ a5.toNat * x6 ^ a6.toNat,fun s t X Y=> ?_⟩
  simp [mono,monoK];ac_rfl
 ·refine ⟨x0 ^ a0.toNat * x1 ^ a1.toNat * x4 ^ a4.toNat * x5 ^ a5.toNat * x6 ^ a6.toNat,fun s t X Y=> ?_⟩
  simp [mono,monoK];ac_rfl
 ·refine ⟨x0 ^ a0.toNat * x1 ^ a1.toNat * x2 ^ a2.toNat * x5 ^ a5.toNat * x6 ^ a6.toNat,fun s t X Y=> ?_⟩
  simp [mono,monoK];ac_rfl
theorem set_two {xs : List Int} {k : Nat} (hk : k+1 < xs.length) : (xs.set (k+1) (xs.getD (k+1) 0)).set k (xs.getD k 0)=xs:=by
 have a : ∀ j,j < xs.length→xs.set j (xs.getD j 0)=xs:=fun j hj=>by rw [getD_lt hj,List.set_getElem_self]
 rw [a (k+1) hk,a k (by omega)]
theorem swap_set {xs : List Int} {k : Nat} (hk : k+1 < xs.length) : swapL xs k (k+1)=(xs.set (k+1) (xs.getD k 0)).set k (xs.getD (k+1) 0):=by
 unfold swapL
 rw [List.set_comm _ _ (by omega)]
theorem dvE_val {xs e : List Int} {k : Nat} (hk : k < 4) (he : e.length=7) (hp : ∀ x ∈ e,(0 : Int)≤x) (hx : xs.length=7) :
 (xs.getD k 0 - xs.getD (k+1) 0) * Ev (dvE k e) (mono xs)=mono xs e - mono (swapL xs k (k+1)) e:=by
 obtain ⟨R,hR⟩:=mono_two (xs:=xs) hk he hx
 obtain ⟨a,ha⟩ : ∃ a : Nat,e.getD k 0=(a : Int):=⟨(e.getD k 0).toNat,by have:=hp _ (getD_mem (show k < e.length by omega));omega⟩
 obtain ⟨b,hb⟩ : ∃ b : Nat,e.getD (k+1) 0=(b : Int):=⟨(e.getD (k+1) 0).toNat,by have:=hp _ (getD_mem (show k+1 < e.length by omega));omega⟩
 have e1 : mono xs e=R * (xs.getD k 0 ^ a * xs.getD (k+1) 0 ^ b):=by
  have:=hR a b (xs.getD k 0) (xs.getD (k+1) 0)
  rw [set_two (by omega),← ha,← hb,set_two (by omega),ha,hb] at this
  simpa using this
 have e2 : mono (swapL xs k (k+1)) e=R * (xs.getD (k+1) 0 ^ a * xs.getD k 0 ^ b):=by
  have:=hR a b (xs.getD (k+1) 0) (xs.getD k 0)
  rw [← swap_set (by omega),← ha,← hb,set_two (by omega),ha,hb] at this
  simpa using this
 have e3 : ∀ s t : Int,mono xs (dvS k e s t)=R * (xs.getD k 0 ^ (s - 1 - t).toNat * xs.getD (k+1) 0 ^ t.toNat):=fun s t=>by
  have:=hR (s - 1 - t) t (xs.getD k 0) (xs.getD (k+1) 0)
  rw [set_two (by omega)] at this
  exact this
 rw [e1,e2]
 obtain ⟨X,hX⟩ : ∃ X,X=xs.getD k 0:=⟨_,rfl⟩
 obtain ⟨Y,hY⟩ : ∃ Y,Y=xs.getD (k+1) 0:=⟨_,rfl⟩
 rw [← hX,← hY] at e3 ⊢
 by_cases hab : e.getD k 0 < e.getD (k+1) 0
 ·rw [dvE_le hab,dvK,Ev_range,ha,hb]
  have hn : ((b : Int) - (a : Int)).toNat=b - a:=by omega
  rw [hn,fold_mul R _ (fun j=>Y ^ (a+j) * X ^ (b - 1 - j)) _ (fun j hj=>by
   rw [e3]
   have h1 : ((a : Int)+(b : Int) - 1 - ((a : Int)+(j : Int))).toNat=b - 1 - j:=by omega
   have h2 : ((a : Int)+(j : Int)).toNat=a+j:=by omega
   rw [h1,h2,Int.mul_comm (X ^ _)])]
  have t:=tele X Y a (b - a) b (by omega)
  have h3 : b - (b - a)=a:=by omega
  have h4 : a+(b - a)=b:=by omega
  rw [h3,h4] at t
  have h5 : ((List.range (b - a)).foldl (fun s j=>s+Y ^ (a+j) * X ^ (b - 1 - j)) 0)=(List.range (b - a)).foldl (fun s j=>s+X ^ (b - 1 - j) * Y ^ (a+j)) 0:=by
   congr 1;funext s j;rw [Int.mul_comm (Y ^ _)]
  rw [h5]
  obtain ⟨S,hS⟩ : ∃ S,S=(List.range (b - a)).foldl (fun s j=>s+X ^ (b - 1 - j) * Y ^ (a+j)) 0:=⟨_,rfl⟩
  rw [← hS] at t ⊢
  have : (X - Y) * (-1 * (R * S)) = -(R * ((X - Y) * S)):=by grind
  rw [this,t]
  grind
 ·rw [dvE_ge hab,dvK,Ev_range,ha,hb]
  have hn : ((a : Int) - (b : Int)).toNat=a - b:=by omega
  rw [hn,fold_mul R _ (fun j=>X ^ (a - 1 - j) * Y ^ (b+j)) _ (fun j hj=>by
   rw [e3]
   have h1 : ((b : Int)+(a : Int) - 1 - ((b : Int)+(j : Int))).toNat=a - 1 - j:=by omega
   have h2 : ((b : Int)+(j : Int)).toNat=b+j:=by omega
   rw [h1,h2])]
  have t:=tele X Y b (a - b) a (by omega)
  have h3 : a - (a - b)=b:=by omega
  have h4 : b+(a - b)=a:=by omega
  rw [h3,h4] at t
  obtain ⟨S,hS⟩ : ∃ S,S=(List.range (a - b)).foldl (fun s j=>s+X ^ (a - 1 - j) * Y ^ (b+j)) 0:=⟨_,rfl⟩
  rw [← hS] at t ⊢
  have : (X - Y) * (1 * (R * S))=R * ((X - Y) * S):=by grind
  rw [this,t]
  grind
theorem dv_val {xs : List Int} {k : Nat} (hk : k < 4) (hx : xs.length=7) : ∀ {P : Pl},Pos7 P →
 (xs.getD k 0 - xs.getD (k+1) 0) * Ev (dvP k P) (mono xs)=Ev P (mono xs) - Ev P (mono (swapL xs k (k+1)))
 | [],_=>by simp [dvP,Ev]
 | p :: l,h=>by
   have ih:=dv_val hk hx (P:=l) fun q hq=>h q (List.mem_cons_of_mem _ hq)
   have hp:=h p List.mem_cons_self
   have:=dvE_val hk hp.1 hp.2 hx
   rw [Ev_dv] at ih ⊢
   simp only [Ev] at ih ⊢
   rw [Int.mul_add,ih,Int.mul_left_comm,this]
   grind
theorem Pos7.append {P Q : Pl} (h : Pos7 P) (h' : Pos7 Q) : Pos7 (P ++ Q):=fun p hp=>(List.mem_append.1 hp).elim (h p) (h' p)
theorem Pos7.scl {P : Pl} (h : Pos7 P) (k : Int) : Pos7 (sclP k P):=fun p hp=>by
 obtain ⟨q,hq,rfl⟩:=List.mem_map.1 hp
 exact h q hq
theorem Pos7.rs {P : Pl} (h : Pos7 P) (i : Nat) : Pos7 (rsP i P):=fun p hp=>by
 obtain ⟨q,hq,rfl⟩:=List.mem_map.1 hp
 refine ⟨by simpa [rsE] using (h q hq).1,fun x hx=> ?_⟩
 rcases List.mem_or_eq_of_mem_set hx with hx | rfl
 ·exact (h q hq).2 x hx
 ·by_cases hi : i < q.1.length
  ·have:=(h q hq).2 _ (getD_mem hi);omega
  ·rw [List.getD_eq_getElem?_getD,List.getElem?_eq_none (by omega)];simp
theorem Pos7.dv {P : Pl} (h : Pos7 P) {k : Nat} (hk : k < 4) : Pos7 (dvP k P):=fun p hp=>by
 obtain ⟨q,hq,hp⟩:=List.mem_flatMap.1 hp
 obtain ⟨r,hr,rfl⟩:=List.mem_map.1 hp
 have hq':=h q hq
 have h1:=hq'.2 _ (getD_mem (show k < q.1.length by omega))
 have h2:=hq'.2 _ (getD_mem (show k+1 < q.1.length by omega))
 have key : ∀ s t : Int,0≤t→t≤s - 1→(dvS k q.1 s t).length=7 ∧ ∀ x ∈ dvS k q.1 s t,(0 : Int)≤x:=fun s t ht hs=>by
  refine ⟨by simpa [dvS] using hq'.1,fun x hx=> ?_⟩
  rcases List.mem_or_eq_of_mem_set hx with hx | rfl
  ·rcases List.mem_or_eq_of_mem_set hx with hx | rfl
   ·exact hq'.2 x hx
   ·exact ht
  ·omega
 by_cases hab : q.1.getD k 0 < q.1.getD (k+1) 0
 ·rw [dvE_le hab] at hr
  obtain ⟨j,hj,rfl⟩:=List.mem_map.1 hr
  have:=List.mem_range.1 hj
  exact key _ _ (by omega) (by omega)
 ·rw [dvE_ge hab] at hr
  obtain ⟨j,hj,rfl⟩:=List.mem_map.1 hr
  have:=List.mem_range.1 hj
  exact key _ _ (by omega) (by omega)
theorem fasc_lt {xs : List Int} {k : Nat} (h : fasc xs=some k) : k < xs.length - 1∧xs.getD k 0 < xs.getD (k+1) 0 ∧ ∀ j,j < k → ¬ xs.getD j 0 < xs.getD (j+1) 0:=by
 unfold fasc at h
 rw [List.find?_range_eq_some] at h
 obtain ⟨h1,h2,h3⟩:=h
 exact ⟨by simpa using h2,by simpa using h1,fun j hj=>by simpa using h3 j hj⟩
theorem Pos7.low {P : Pl} (h : Pos7 P) : ∀ f xs,xs.length≤5→Pos7 (lowP f xs P)
 | 0,_,_=>h
 | f+1,xs,hx=>by
   rw [lowP]
   cases hf : fasc xs with
   | none=>exact h
   | some k=>exact (Pos7.low h f _ (by rw [swapL_length];exact hx)).dv (by have:=(fasc_lt hf).1;omega)
theorem Pos7.top (n : Nat) (ys : List Int) : ∀ i,Pos7 (topI n ys i)
 | 0=>fun p hp=>by
   obtain rfl:=List.mem_singleton.1 hp
   exact ⟨rfl,by simp⟩
 | i+1=>by
   rw [topI]
   have : ∀ m,Pos7 (topJ i ys m (topI n ys i)):=fun m=>by
    induction m with
    | zero=>exact Pos7.top n ys i
    | succ m ih=>exact (ih.rs i).append (ih.scl _)
   exact this _
theorem low_more {P : Pl} : ∀ f g xs,lowOk f xs=true→f≤g→lowP g xs P=lowP f xs P
 | 0,0,_,_,_=>rfl
 | 0,g+1,xs,h,_=>by
   unfold lowOk at h
   have : fasc xs=none:=by simpa using h
   show (match fasc xs with | none=>P | some k=>dvP k (lowP g (swapL xs k (k+1)) P))=P
   rw [this]
 | f+1,0,_,_,hg=>by omega
 | f+1,g+1,xs,h,hg=>by
   rw [lowP,lowP]
   unfold lowOk at h
   cases hf : fasc xs with
   | none=>rfl
   | some k=>rw [hf] at h;dsimp only at h ⊢;rw [low_more f g _ h (by omega)]
theorem toFin {n : Nat} {x : Int} (h : 0≤x∧x < (n : Int)) : ∃ a : Fin n,x=((a : Nat) : Int):=⟨⟨x.toNat,by omega⟩,by simp;omega⟩
def memB (xs : List Int) : Bool:=!permOk xs || (permsL xs.length).contains xs
theorem mem_1 : ∀ a : Fin 1,memB [((a : Nat) : Int)]=true:=by decide +kernel
theorem mem_2 : ∀ a b : Fin 2,memB [((a : Nat) : Int),((b : Nat) : Int)]=true:=by decide +kernel
theorem mem_3 : ∀ a b c : Fin 3,memB [((a : Nat) : Int),((b : Nat) : Int),((c : Nat) : Int)]=true:=by decide +kernel
theorem mem_4 : ∀ a b c d : Fin 4,memB [((a : Nat) : Int),((b : Nat) : Int),((c : Nat) : Int),((d : Nat) : Int)]=true:=by decide +kernel
theorem mem_5 : ∀ a b c d e : Fin 5,memB [((a : Nat) : Int),((b : Nat) : Int),((c : Nat) : Int),((d : Nat) : Int),((e : Nat) : Int)]=true:=by decide +kernel
theorem perm_mem {xs : List Int} (h : permOk xs=true) (h5 : xs.length≤5) : xs ∈ permsL xs.length:=by
 have key : memB xs=true:=by
  have hp:=h
  simp only [permOk,decide_eq_true_eq] at hp
  obtain ⟨h1,h7,hr,_⟩:=hp
  match xs,h1,h5,hr with
  | [a],_,_,hr =>
    obtain ⟨a,rfl⟩:=toFin (n:=1) (hr a (by simp))
    exact mem_1 a
  | [a,b],_,_,hr =>
    obtain ⟨a,rfl⟩:=toFin (n:=2) (hr a (by simp))
    obtain ⟨b,rfl⟩:=toFin (n:=2) (hr b (by simp))
    exact mem_2 a b
  | [a,b,c],_,_,hr =>
    obtain ⟨a,rfl⟩:=toFin (n:=3) (hr a (by simp))
    obtain ⟨b,rfl⟩:=toFin (n:=3) (hr b (by simp))
    obtain ⟨c,rfl⟩:=toFin (n:=3) (hr c (by simp))
    exact mem_3 a b c
  | [a,b,c,d],_,_,hr =>
    obtain ⟨a,rfl⟩:=toFin (n:=4) (hr a (by simp))
    obtain ⟨b,rfl⟩:=toFin (n:=4) (hr b (by simp))
    obtain ⟨c,rfl⟩:=toFin (n:=4) (hr c (by simp))
    obtain ⟨d,rfl⟩:=toFin (n:=4) (hr d (by simp))
    exact mem_4 a b c d
  | [a,b,c,d,e],_,_,hr =>
    obtain ⟨a,rfl⟩:=toFin (n:=5) (hr a (by simp))
    obtain ⟨b,rfl⟩:=toFin (n:=5) (hr b (by simp))
    obtain ⟨c,rfl⟩:=toFin (n:=5) (hr c (by simp))
    obtain ⟨d,rfl⟩:=toFin (n:=5) (hr d (by simp))
    obtain ⟨e,rfl⟩:=toFin (n:=5) (hr e (by simp))
    exact mem_5 a b c d e
 unfold memB at key
 rw [h] at key
 simpa using key
def all5 (B : List Int→Bool) : Bool:=(List.range 6).all fun n=>(permsL n).all fun v=> !decide (1≤n) || B v
theorem all5_at {B : List Int→Bool} (h : all5 B=true) {xs : List Int} (hp : permOk xs=true) (h5 : xs.length≤5) : B xs=true:=by
 unfold all5 at h
 rw [List.all_eq_true] at h
 have a:=h xs.length (List.mem_range.2 (by omega))
 rw [List.all_eq_true] at a
 have b:=a xs (perm_mem hp h5)
 have : 1≤xs.length:=by simp only [permOk,decide_eq_true_eq] at hp;exact hp.1
 simpa [this] using b
def sw (k : Nat) (v : List Int) : List Int:=swapL v k (k+1)
def ascB (k : Nat) (v : List Int) : Bool:=decide (v.getD k 0 < v.getD (k+1) 0)
def upN (v : List Int) : Nat:=((List.range v.length).map fun j=>((List.range j).filter fun i=>decide (v.getD i 0 < v.getD j 0)).length).sum
def ok2B (v : List Int) : Bool:=(List.range (v.length - 1)).all fun k=>permOk (sw k v) && (if ascB k v then decide (upN (sw k v)+1=upN v) && !ascB k (sw k v) else decide (upN (sw k v)=upN v+1) && ascB k (sw k v))
theorem ok2_all : all5 ok2B=true:=by decide +kernel
theorem sw_length (k : Nat) (v : List Int) : (sw k v).length=v.length:=swapL_length _ _ _
structure P5 (n : Nat) (v : List Int) : Prop where
 ok : permOk v=true
 len : v.length=n
 le : n≤5
theorem P5.sw {n : Nat} {v : List Int} (h : P5 n v) {k : Nat} (hk : k+1 < n) : P5 n (sw k v):=by
 have:=all5_at ok2_all h.ok (by have:=h.len;have:=h.le;omega)
 simp only [ok2B,Bool.and_eq_true,List.all_eq_true,List.mem_range] at this
 exact ⟨(this k (by have:=h.len;omega)).1,by rw [sw_length];exact h.len,h.le⟩
theorem P5.asc {n : Nat} {v : List Int} (h : P5 n v) {k : Nat} (hk : k+1 < n) (ha : ascB k v=true) : upN (Go.Proofs.YtijadclebjcckaaGreat.sw k v)+1=upN v∧ascB k (Go.Proofs.YtijadclebjcckaaGreat.sw k v)=false:=by
 have:=all5_at ok2_all h.ok (by have:=h.len;have:=h.le;omega)
 simp only [ok2B,Bool.and_eq_true,List.all_eq_true,List.mem_range] at this
 have:=(this k (by have:=h.len;omega)).2
 rw [ha] at this
 simpa using this
theorem P5.desc {n : Nat} {v : List Int} (h : P5 n v) {k : Nat} (hk : k+1 < n) (ha : ascB k v=false) : upN (Go.Proofs.YtijadclebjcckaaGreat.sw k v)=upN v+1∧ascB k (Go.Proofs.YtijadclebjcckaaGreat.sw k v)=true:=by
 have:=all5_at ok2_all h.ok (by have:=h.len;have:=h.le;omega)
 simp only [ok2B,Bool.and_eq_true,List.all_eq_true,List.mem_range] at this
 have:=(this k (by have:=h.len;omega)).2
 rw [ha] at this
 simpa using this
def lowB (v : List Int) : Bool:=lowOk 10 v
def farB (v : List Int) : Bool:=(List.range (v.length - 1)).all fun j=>(List.range (v.length - 1)).all fun k =>
 !(ascB j v && ascB k v && decide (j+2≤k)) || (ascB k (sw j v) && ascB j (sw k v) && decide (sw k (sw j v)=sw j (sw k v)))
def nearB (v : List Int) : Bool:=(List.range (v.length - 2)).all fun j =>
 !(ascB j v && ascB (j+1) v) || (ascB (j+1) (sw j v) && ascB j (sw (j+1) (sw j v)) && ascB j (sw (j+1) v) && ascB (j+1) (sw j (sw (j+1) v)) && decide (sw j (sw (j+1) (sw j v))=sw (j+1) (sw j (sw (j+1) v))))
theorem low_all : all5 lowB=true:=by decide +kernel
theorem far_all : all5 farB=true:=by decide +kernel
theorem near_all : all5 nearB=true:=by decide +kernel
theorem P5.low {n : Nat} {v : List Int} (h : P5 n v) : lowOk 10 v=true:=all5_at low_all h.ok (by have:=h.len;have:=h.le;omega)
theorem P5.far {n : Nat} {v : List Int} (h : P5 n v) {j k : Nat} (hk : k+1 < n) (hjk : j+2≤k) (ha : ascB j v=true) (hb : ascB k v=true) :
 ascB k (Go.Proofs.YtijadclebjcckaaGreat.sw j v)=true∧ascB j (Go.Proofs.YtijadclebjcckaaGreat.sw k v)=true∧Go.Proofs.YtijadclebjcckaaGreat.sw k (Go.Proofs.YtijadclebjcckaaGreat.sw j v)=Go.Proofs.YtijadclebjcckaaGreat.sw j (Go.Proofs.YtijadclebjcckaaGreat.sw k v):=by
 have:=all5_at far_all h.ok (by have:=h.len;have:=h.le;omega)
 simp only [farB,List.all_eq_true,List.mem_range] at this
 have:=this j (by have:=h.len;omega) k (by have:=h.len;omega)
 rw [ha,hb] at this
 simpa [hjk,and_assoc] using this
theorem P5.near {n : Nat} {v : List Int} (h : P5 n v) {j : Nat} (hk : j+2 < n) (ha : ascB j v=true) (hb : ascB (j+1) v=true) :
 ascB (j+1) (Go.Proofs.YtijadclebjcckaaGreat.sw j v)=true∧ascB j (Go.Proofs.YtijadclebjcckaaGreat.sw (j+1) (Go.Proofs.YtijadclebjcckaaGreat.sw j v))=true∧ascB j (Go.Proofs.YtijadclebjcckaaGreat.sw (j+1) v)=true∧ascB (j+1) (Go.Proofs.YtijadclebjcckaaGreat.sw j (Go.Proofs.YtijadclebjcckaaGreat.sw (j+1) v))=true ∧
  Go.Proofs.YtijadclebjcckaaGreat.sw j (Go.Proofs.YtijadclebjcckaaGreat.sw (j+1) (Go.Proofs.YtijadclebjcckaaGreat.sw j v))=Go.Proofs.YtijadclebjcckaaGreat.sw (j+1) (Go.Proofs.YtijadclebjcckaaGreat.sw j (Go.Proofs.YtijadclebjcckaaGreat.sw (j+1) v)):=by
 have:=all5_at near_all h.ok (by have:=h.len;have:=h.le;omega)
 simp only [nearB,List.all_eq_true,List.mem_range] at this
 have:=this j (by have:=h.len;omega)
 rw [ha,hb] at this
 simpa [and_assoc] using this
def EV (T : Pl) (v x : List Int) : Int:=Ev (lowP 10 v T) (mono x)
def Dst (n : Nat) (x : List Int) : Prop:=x.length=7 ∧ ∀ i j,i < j→j < n→x.getD i 0 ≠ x.getD j 0
theorem sw_getD {x : List Int} {k t : Nat} (hk : k+1 < x.length) : (sw k x).getD t 0=if t=k+1 then x.getD k 0 else if t=k then x.getD (k+1) 0 else x.getD t 0:=swapL_getD (by omega) hk
theorem sw_at {x : List Int} {k : Nat} (hk : k+1 < x.length) : (sw k x).getD k 0=x.getD (k+1) 0:=by rw [sw_getD hk,if_neg (by omega),if_pos rfl]
theorem sw_at1 {x : List Int} {k : Nat} (hk : k+1 < x.length) : (sw k x).getD (k+1) 0=x.getD k 0:=by rw [sw_getD hk,if_pos rfl]
theorem sw_off {x : List Int} {k t : Nat} (hk : k+1 < x.length) (h1 : t ≠ k) (h2 : t ≠ k+1) : (sw k x).getD t 0=x.getD t 0:=by rw [sw_getD hk,if_neg h2,if_neg h1]
theorem sw_sw {x : List Int} {k : Nat} (hk : k+1 < x.length) : sw k (sw k x)=x:=by
 refine getD_eq_list (by rw [sw_length,sw_length]) fun t _=> ?_
 rw [sw_getD (by rw [sw_length];exact hk),sw_at hk,sw_at1 hk,sw_getD hk]
 by_cases h1 : t=k+1
 ·rw [if_pos h1,h1]
 ·rw [if_neg h1,if_neg h1]
  by_cases h2 : t=k
  ·rw [if_pos h2,h2]
  ·rw [if_neg h2,if_neg h2]
theorem sw_far {x : List Int} {j k : Nat} (hk : k+1 < x.length) (hjk : j+2≤k) : sw k (sw j x)=sw j (sw k x):=by
 have lj : j+1 < x.length:=by omega
 have lk : k+1 < (sw j x).length:=by rw [sw_length];exact hk
 have lj2 : j+1 < (sw k x).length:=by rw [sw_length];exact lj
 refine getD_eq_list (by simp only [sw_length]) fun t _=> ?_
 rw [sw_getD lk,sw_getD lj2,sw_getD lj,sw_getD lj,sw_getD (t:=t) lj,sw_getD (t:=j) hk,sw_getD (t:=j+1) hk,sw_getD (t:=t) hk]
 repeat' split
 all_goals (first | rfl | omega)
theorem sw_near {x : List Int} {j : Nat} (hk : j+2 < x.length) : sw j (sw (j+1) (sw j x))=sw (j+1) (sw j (sw (j+1) x)):=by
 have l0 : j+1 < x.length:=by omega
 have l1 : j+1+1 < x.length:=by omega
 have a1 : j+1+1 < (sw j x).length:=by rw [sw_length];exact l1
 have b1 : j+1 < (sw (j+1) x).length:=by rw [sw_length];exact l0
 have a2 : j+1 < (sw (j+1) (sw j x)).length:=by rw [sw_length,sw_length];exact l0
 have b2 : j+1+1 < (sw j (sw (j+1) x)).length:=by rw [sw_length,sw_length];exact l1
 refine getD_eq_list (by simp only [sw_length]) fun t _=> ?_
 by_cases h0 : t=j
 ·rw [h0,sw_at a2,sw_at a1,sw_off l0 (by omega) (by omega),sw_off b2 (by omega) (by omega),sw_at b1,sw_at l1]
 ·by_cases h1 : t=j+1
  ·rw [h1,sw_at1 a2,sw_off a1 (by omega) (by omega),sw_at l0,sw_at b2,sw_off b1 (by omega) (by omega),sw_at1 l1]
  ·by_cases h2 : t=j+1+1
   ·rw [h2,sw_off a2 (by omega) (by omega),sw_at1 a1,sw_at1 l0,sw_at1 b2,sw_at1 b1,sw_off l1 (by omega) (by omega)]
   ·rw [sw_off a2 h0 h1,sw_off a1 h1 h2,sw_off l0 h0 h1,sw_off b2 h1 h2,sw_off b1 h0 h1,sw_off l1 h1 h2]
theorem Dst.sw {n : Nat} {x : List Int} (h : Dst n x) (hn : n≤7) {k : Nat} (hk : k+1 < n) : Dst n (sw k x):=by
 refine ⟨by rw [sw_length];exact h.1,fun i j hij hj=> ?_⟩
 have hl:=h.1
 rw [sw_getD (by omega),sw_getD (by omega)]
 repeat' split
 all_goals first | (exact h.2 _ _ (by omega) (by omega)) | (exact fun e=>h.2 _ _ (show _ < _ from by omega) (by omega) e.symm) | omega
theorem low_step {T : Pl} {n : Nat} {v : List Int} (h : P5 n v) {k : Nat} (hf : fasc v=some k) : lowP 10 v T=dvP k (lowP 10 (sw k v) T):=by
 have h0:=h.low
 rw [lowOk,hf] at h0
 rw [lowP,hf]
 dsimp only at h0 ⊢
 rw [← low_more 9 10 _ h0 (by omega)]
 rfl
theorem EV_first {T : Pl} (hT : Pos7 T) {n : Nat} {v : List Int} (h : P5 n v) {k : Nat} (hf : fasc v=some k) {x : List Int} (hx : x.length=7) :
 (x.getD k 0 - x.getD (k+1) 0) * EV T v x=EV T (sw k v) x - EV T (sw k v) (sw k x):=by
 unfold EV
 rw [low_step h hf]
 have hk:=fasc_lt hf
 have hl:=h.len
 have h5:=h.le
 exact dv_val (by omega) hx (hT.low 10 _ (by rw [sw_length];omega))
def WayAt (T : Pl) (n : Nat) (v : List Int) (k : Nat) (x : List Int) : Prop:=(x.getD k 0 - x.getD (k+1) 0) * EV T v x=EV T (sw k v) x - EV T (sw k v) (sw k x)
theorem WayAt.sym {T : Pl} {n : Nat} {v : List Int} {k : Nat} {x : List Int} (hk : k+1 < x.length) (h : WayAt T n v k x) (h' : WayAt T n v k (sw k x)) : EV T v (sw k x)=EV T v x:=by
 unfold WayAt at h h'
 rw [sw_sw hk,sw_at hk,sw_at1 hk] at h'
 by_cases e : x.getD k 0=x.getD (k+1) 0
 ·have : sw k x=x:=by
   refine getD_eq_list (sw_length _ _) fun t _=> ?_
   rw [sw_getD hk]
   split
   ·rename_i h;rw [h,e]
   ·split
    ·rename_i h;rw [h,e]
    ·rfl
  rw [this]
 ·have : (x.getD k 0 - x.getD (k+1) 0) * (EV T v x - EV T v (sw k x))=0:=by
   have t : ∀ a b p q : Int,(a - b) * (p - q)=(a - b) * p+(b - a) * q:=fun a b p q=>by grind
   rw [t,h,h'];omega
  have:=cancel (by omega) this
  omega
theorem way_dst {T : Pl} (hT : Pos7 T) {n : Nat} : ∀ (m : Nat) (v : List Int),P5 n v→upN v=m → ∀ k,k+1 < n→ascB k v=true → ∀ x,Dst n x→WayAt T n v k x:=by
 intro m
 induction m using Nat.strongRecOn with
 | _ m ih =>
   intro v hv hm k hk ha x hx
   have h5:=hv.le
   have hxl:=hx.1
   obtain ⟨j,hj⟩ : ∃ j,fasc v=some j:=by
    cases hf : fasc v with
    | some j=>exact ⟨j,rfl⟩
    | none =>
      exfalso
      have hl:=hv.len
      unfold fasc at hf
      rw [List.find?_eq_none] at hf
      have:=hf k (List.mem_range.2 (by omega))
      exact this ha
   have hjl:=fasc_lt hj
   have hl:=hv.len
   have hjn : j+1 < n:=by omega
   have haj : ascB j v=true:=by unfold ascB;exact decide_eq_true hjl.2.1
   have hjk : j≤k:=Nat.not_lt.1 fun hlt=>hjl.2.2 k hlt (of_decide_eq_true ha)
   have sub : ∀ u,P5 n u→upN u < upN v → ∀ i,i+1 < n→ascB i u=true → ∀ x,Dst n x→WayAt T n u i x:=fun u hu hlt i hi hai x hx=>ih (upN u) (by omega) u hu rfl i hi hai x hx
   have first : ∀ x : List Int,x.length=7→WayAt T n v j x:=fun x hx=>EV_first hT hv hj hx
   have uj:=(hv.asc hjn haj).1
   have uk:=(hv.asc hk ha).1
   rcases Nat.lt_or_eq_of_le hjk with hlt | rfl
   ·rcases Nat.lt_or_eq_of_le (Nat.succ_le_of_lt hlt) with h2 | h2
    ·
     obtain ⟨f1,f2,f3⟩:=hv.far hk (by omega) haj ha
     have a1:=first x hx.1
     have b1:=sub _ (hv.sw hjn) (by omega) k hk f1 x hx
     have b2:=sub _ (hv.sw hjn) (by omega) k hk f1 _ (hx.sw (by omega) hjn)
     have c1:=sub _ (hv.sw hk) (by omega) j hjn f2 x hx
     have c2:=sub _ (hv.sw hk) (by omega) j hjn f2 _ (hx.sw (by omega) hk)
     unfold WayAt at a1 b1 b2 c1 c2 ⊢
     have q1 : (Go.Proofs.YtijadclebjcckaaGreat.sw j x).getD k 0=x.getD k 0:=sw_off (by omega) (by omega) (by omega)
     have q2 : (Go.Proofs.YtijadclebjcckaaGreat.sw j x).getD (k+1) 0=x.getD (k+1) 0:=sw_off (by omega) (by omega) (by omega)
     have q3 : (Go.Proofs.YtijadclebjcckaaGreat.sw k x).getD j 0=x.getD j 0:=sw_off (by omega) (by omega) (by omega)
     have q4 : (Go.Proofs.YtijadclebjcckaaGreat.sw k x).getD (j+1) 0=x.getD (j+1) 0:=sw_off (by omega) (by omega) (by omega)
     rw [q1,q2,f3,sw_far (x:=x) (j:=j) (k:=k) (by omega) (by omega)] at b2
     rw [q3,q4] at c2
     rw [f3] at b1
     have hne:=hx.2 j (j+1) (by omega) hjn
     have key : (x.getD j 0 - x.getD (j+1) 0) * ((x.getD k 0 - x.getD (k+1) 0) * EV T v x - (EV T (Go.Proofs.YtijadclebjcckaaGreat.sw k v) x - EV T (Go.Proofs.YtijadclebjcckaaGreat.sw k v) (Go.Proofs.YtijadclebjcckaaGreat.sw k x)))=0:=by
      have t : ∀ A B p q r : Int,A * (B * p - (q - r))=B * (A * p) - (A * q - A * r):=fun A B p q r=>by grind
      rw [t,a1,c1,c2]
      have t2 : ∀ B p q : Int,B * (p - q)=B * p - B * q:=fun B p q=>by grind
      rw [t2,b1,b2]
      omega
     have:=cancel (by omega) key
     omega
    ·
     obtain rfl : k=j+1:=by omega
     obtain ⟨f1,f2,f3,f4,f5⟩:=hv.near (by omega) haj ha
     have vj:=hv.sw hjn
     have vk:=hv.sw hk
     have vjk:=vj.sw hk
     have vkj:=vk.sw hjn
     have u1:=(vj.asc hk f1).1
     have u2:=(vk.asc hjn f3).1
     have D0:=hx
     have D1:=hx.sw (by omega) hjn
     have D2:=hx.sw (by omega) hk
     have D12:=D1.sw (by omega) hk
     have D21:=D2.sw (by omega) hjn
     have l0 : j+2 < x.length:=by omega
     have lj : j+1 < x.length:=by omega
     have h1:=sub _ vjk (by omega) j hjn f2 x D0
     have h1s:=sub _ vjk (by omega) j hjn f2 _ D1
     have h2:=sub _ vjk (by omega) j hjn f2 _ D2
     have h3:=sub _ vjk (by omega) j hjn f2 _ D12
     have h4:=sub _ vj (by omega) (j+1) hk f1 x D0
     have h5':=sub _ vj (by omega) (j+1) hk f1 _ D1
     have h6:=first x hx.1
     have g1:=sub _ vkj (by omega) (j+1) hk f4 x D0
     have g1s:=sub _ vkj (by omega) (j+1) hk f4 _ D2
     have g2:=sub _ vkj (by omega) (j+1) hk f4 _ D1
     have g3:=sub _ vkj (by omega) (j+1) hk f4 _ D21
     have g4:=sub _ vk (by omega) j hjn f3 x D0
     have g5:=sub _ vk (by omega) j hjn f3 _ D2
     have s1:=h1.sym lj h1s
     have s2:=g1.sym l0 g1s
     unfold WayAt at h1 h2 h3 h4 h5' h6 g1 g2 g3 g4 g5 ⊢
     have n12:=hx.2 j (j+1) (by omega) (by omega)
     have n13:=hx.2 j (j+2) (by omega) (by omega)
     have n23:=hx.2 (j+1) (j+2) (by omega) (by omega)
     have p1a : (Go.Proofs.YtijadclebjcckaaGreat.sw j x).getD j 0=x.getD (j+1) 0:=sw_at lj
     have p1b : (Go.Proofs.YtijadclebjcckaaGreat.sw j x).getD (j+1) 0=x.getD j 0:=sw_at1 lj
     have p1c : (Go.Proofs.YtijadclebjcckaaGreat.sw j x).getD (j+1+1) 0=x.getD (j+2) 0:=sw_off lj (by omega) (by omega)
     have p2a : (Go.Proofs.YtijadclebjcckaaGreat.sw (j+1) x).getD j 0=x.getD j 0:=sw_off l0 (by omega) (by omega)
     have p2b : (Go.Proofs.YtijadclebjcckaaGreat.sw (j+1) x).getD (j+1) 0=x.getD (j+2) 0:=sw_at l0
     have p2c : (Go.Proofs.YtijadclebjcckaaGreat.sw (j+1) x).getD (j+1+1) 0=x.getD (j+1) 0:=sw_at1 l0
     have p12a : (Go.Proofs.YtijadclebjcckaaGreat.sw (j+1) (Go.Proofs.YtijadclebjcckaaGreat.sw j x)).getD j 0=x.getD (j+1) 0:=by rw [sw_off (by rw [sw_length];omega) (by omega) (by omega),p1a]
     have p12b : (Go.Proofs.YtijadclebjcckaaGreat.sw (j+1) (Go.Proofs.YtijadclebjcckaaGreat.sw j x)).getD (j+1) 0=x.getD (j+2) 0:=by rw [sw_at (by rw [sw_length];omega),p1c]
     have p21b : (Go.Proofs.YtijadclebjcckaaGreat.sw j (Go.Proofs.YtijadclebjcckaaGreat.sw (j+1) x)).getD (j+1) 0=x.getD j 0:=by rw [sw_at1 (by rw [sw_length];omega),p2a]
     have p21c : (Go.Proofs.YtijadclebjcckaaGreat.sw j (Go.Proofs.YtijadclebjcckaaGreat.sw (j+1) x)).getD (j+1+1) 0=x.getD (j+1) 0:=by rw [sw_off (by rw [sw_length];omega) (by omega) (by omega),p2c]
     rw [p2a,p2b] at h2
     rw [p12a,p12b] at h3
     rw [p1b,p1c] at h5' g2
     rw [p2a,p2b] at g5
     rw [p21b,p21c] at g3
     rw [s1] at h5'
     rw [s2] at g5
     rw [← f5] at g1 g2 g3
     rw [sw_near l0] at h3
     show (x.getD (j+1) 0 - x.getD (j+2) 0) * _=_
     exact braid _ _ _ _ _ _ _ _ _ _ _ _ _ _ _ _ _ 0 _ _ _ (by omega) (by omega) (by omega) h1 h2 h3 h4 h5' h6 g1 g2 g3 g4 g5
   ·exact first x hx.1
def invK (xs : List Int) : Nat→Nat→Int
 | 0,_=>0
 | k+1,j=>if (j : Int)=xs.getD k 0 then k else invK xs k j
def invL (xs : List Int) : List Int:=(List.range xs.length).map (invK xs xs.length)
theorem invL_length (xs : List Int) : (invL xs).length=xs.length:=by simp [invL]
def idL (n : Nat) : List Int:=(List.range n).map fun (i : Nat)=>(i : Int)
theorem idL_length (n : Nat) : (idL n).length=n:=by simp [idL]
theorem idL_getD {n i : Nat} (h : i < n) : (idL n).getD i 0=i:=by simp [idL,List.getD_eq_getElem?_getD,h]
theorem idL_succ (n : Nat) : idL (n+1)=idL n ++ [(n : Int)]:=by simp [idL,List.range_succ]
theorem idL_ok {n : Nat} (h1 : 1≤n) (h7 : n≤7) : permOk (idL n)=true:=by
 have : n=1 ∨ n=2 ∨ n=3 ∨ n=4 ∨ n=5 ∨ n=6 ∨ n=7:=by omega
 rcases this with rfl | rfl | rfl | rfl | rfl | rfl | rfl <;> decide
def lnK (xs : List Int) : Nat→Nat
 | 0=>0
 | k+1=>lnK xs k+cdA xs k
def lnN (xs : List Int) : Nat:=lnK xs xs.length
def fdN (b : List Int) : Nat:=((List.range (b.length - 1)).find? fun k=> !ascB k b).getD 0
def frN (w : List Int) : Nat:=fdN (invL w)
def frV (w : List Int) (k : Nat) : List Int:=(w.set ((invL w).getD k 0).toNat ((k+1 : Nat) : Int)).set ((invL w).getD (k+1) 0).toNat (k : Int)
def frS (w : List Int) : List Int:=frV w (frN w)
def firL : Nat→List Int→List Nat
 | 0,_=>[]
 | f+1,w=>frN w :: firL f (frS w)
def fstL (w : List Int) : List Nat:=firL (lnN w) w
def play (r : List Nat) (u : List Int) : List Int:=r.foldl (fun u k=>sw k u) u
def firB (w : List Int) : Bool:=decide (lnN w=0) || (decide (frN w+1 < w.length) && !ascB (frN w) (invL w) && (List.range (frN w)).all (fun j=>ascB j (invL w)) && permOk (frS w) && decide (lnN (frS w)+1=lnN w) && (invL w).all (fun x=>decide (0≤x∧x < (w.length : Int))))
def wrdB (w : List Int) : Bool:=decide (play (fstL w) (idL w.length)=w) && (fstL w).all (fun k=>decide (k+1 < w.length)) && decide ((fstL w).length≤10) && decide (lnN w+upN w=w.length * (w.length - 1) / 2)
theorem fir_all : all5 firB=true:=by decide +kernel
theorem wrd_all : all5 wrdB=true:=by decide +kernel
structure FirAt (w : List Int) : Prop where
 lt : frN w+1 < w.length
 down : ascB (frN w) (invL w)=false
 up : ∀ j,j < frN w→ascB j (invL w)=true
 ok : permOk (frS w)=true
 less : lnN (frS w)+1=lnN w
 rng : ∀ j,j < w.length → ∃ m : Nat,(invL w).getD j 0=(m : Int)∧m < w.length
theorem fir_at {n : Nat} {w : List Int} (h : P5 n w) (h0 : lnN w ≠ 0) : FirAt w:=by
 have:=all5_at fir_all h.ok (by have:=h.len;have:=h.le;omega)
 unfold firB at this
 rw [decide_eq_false h0,Bool.false_or] at this
 simp only [Bool.and_eq_true,decide_eq_true_eq,List.all_eq_true,List.mem_range] at this
 obtain ⟨⟨⟨⟨⟨h1,h2⟩,h3⟩,h4⟩,h5⟩,h6⟩:=this
 refine ⟨h1,by simpa using h2,h3,h4,h5,fun j hj=> ?_⟩
 have:=h6 _ (getD_mem (show j < (invL w).length by rw [invL_length];exact hj))
 exact ⟨((invL w).getD j 0).toNat,by omega,by omega⟩
theorem wrd_at {n : Nat} {w : List Int} (h : P5 n w) : play (fstL w) (idL n)=w∧(∀ k ∈ fstL w,k+1 < n)∧(fstL w).length≤10∧lnN w+upN w=n * (n - 1) / 2:=by
 have:=all5_at wrd_all h.ok (by have:=h.len;have:=h.le;omega)
 unfold wrdB at this
 rw [h.len] at this
 simp only [Bool.and_eq_true,decide_eq_true_eq,List.all_eq_true] at this
 exact ⟨this.1.1.1,this.1.1.2,this.1.2,this.2⟩
theorem P5.mk' {w : List Int} (h : permOk w=true) (h5 : w.length≤5) : P5 w.length w:=⟨h,rfl,h5⟩
theorem P5.rng {n : Nat} {w : List Int} (h : P5 n w) {j : Nat} (hj : j < n) : ∃ m : Nat,w.getD j 0=(m : Int)∧m < n:=by
 have hp:=h.ok
 simp only [permOk,decide_eq_true_eq] at hp
 have:=hp.2.2.1 _ (getD_mem (show j < w.length by rw [h.len];exact hj))
 rw [h.len] at this
 exact ⟨(w.getD j 0).toNat,by omega,by omega⟩
theorem P5.id {n : Nat} (h1 : 1≤n) (h5 : n≤5) : P5 n (idL n):=⟨idL_ok h1 (by omega),idL_length n,h5⟩
def sumS (v ys : List Int) : List Nat→List Int→List Int→Int
 | [],_,h=>if h=v then 1 else 0
 | k :: r,u,h=>sumS v ys r (sw k u) h+(if ascB k h then (ys.getD (u.getD (k+1) 0).toNat 0 - ys.getD (u.getD k 0).toNat 0) * sumS v ys r (sw k u) (sw k h) else 0)
theorem abs_le_sum {l : List Int} {i : Nat} : (l.getD i 0).natAbs≤(l.map Int.natAbs).sum:=by
 induction l generalizing i with
 | nil=>simp
 | cons x l ih =>
   cases i with
   | zero=>simp
   | succ i =>
     have:=ih (i:=i)
     simp only [List.getD_cons_succ,List.map_cons,List.sum_cons]
     omega
def mvd (N : Int) (m : Nat) (l : List Int) : List Int:=(List.range m).map fun (i : Nat)=>l.getD i 0+N * (i : Int)
theorem mvd_length (N : Int) (m : Nat) (l : List Int) : (mvd N m l).length=m:=by simp [mvd]
theorem mvd_getD {N : Int} {m : Nat} {l : List Int} {i : Nat} (h : i < m) : (mvd N m l).getD i 0=l.getD i 0+N * (i : Int):=by simp [mvd,List.getD_eq_getElem?_getD,h]
theorem mvd_mg {N : Int} {m : Nat} {l : List Int} (hl : l.length=m) (i : Nat) : Mg N (l.getD i 0) ((mvd N m l).getD i 0):=by
 by_cases h : i < m
 ·rw [mvd_getD h];exact ⟨-(i : Int),by rw [Int.mul_neg];omega⟩
 ·have a : l.getD i 0=0:=by rw [List.getD_eq_getElem?_getD,List.getElem?_eq_none (by omega)];rfl
  have b : (mvd N m l).getD i 0=0:=by rw [List.getD_eq_getElem?_getD,List.getElem?_eq_none (by rw [mvd_length];omega)];rfl
  rw [a,b];exact Mg.refl _ _
theorem mvd_ne {N : Int} {m : Nat} {l : List Int} (hN : 2 * ((l.map Int.natAbs).sum : Int) < N) {i j : Nat} (hij : i < j) (hj : j < m) : (mvd N m l).getD i 0 ≠ (mvd N m l).getD j 0:=by
 rw [mvd_getD (by omega),mvd_getD hj]
 intro e
 have a:=abs_le_sum (l:=l) (i:=i)
 have b:=abs_le_sum (l:=l) (i:=j)
 have c:=Int.mul_le_mul_of_nonneg_left (show (1 : Int)≤(j : Int) - (i : Int) by omega) (show 0≤N by omega)
 rw [Int.mul_one,Int.mul_sub] at c
 omega
theorem EV_mg {N : Int} {T : Pl} {v x x' : List Int} (h : ∀ i,Mg N (x.getD i 0) (x'.getD i 0)) : Mg N (EV T v x) (EV T v x'):=Ev_mg (mono_mg h) _
theorem sw_mg {N : Int} {x x' : List Int} {k : Nat} (hk : k+1 < x.length) (hk' : k+1 < x'.length) (h : ∀ i,Mg N (x.getD i 0) (x'.getD i 0)) (i : Nat) : Mg N ((sw k x).getD i 0) ((sw k x').getD i 0):=by
 rw [sw_getD hk,sw_getD hk']
 split
 ·exact h k
 ·split
  ·exact h (k+1)
  ·exact h i
theorem way_all {T : Pl} (hT : Pos7 T) {n : Nat} {v : List Int} (hv : P5 n v) {k : Nat} (hk : k+1 < n) (ha : ascB k v=true) {x : List Int} (hx : x.length=7) : WayAt T n v k x:=by
 have h5:=hv.le
 unfold WayAt
 have key : (x.getD k 0 - x.getD (k+1) 0) * EV T v x - (EV T (sw k v) x - EV T (sw k v) (sw k x))=0:=by
  refine Mg.zero (2 * ((x.map Int.natAbs).sum : Int)) fun N hN hN0=> ?_
  have hm:=mvd_mg (N:=N) hx
  have hl:=mvd_length N 7 x
  have hd : Dst n (mvd N 7 x):=⟨hl,fun i j hij hj=>mvd_ne hN hij (by omega)⟩
  have hw:=way_dst hT (upN v) v hv rfl k hk ha _ hd
  unfold WayAt at hw
  have e : (mvd N 7 x).getD k 0 - (mvd N 7 x).getD (k+1) 0=(mvd N 7 x).getD k 0 - (mvd N 7 x).getD (k+1) 0:=rfl
  have:=(((hm k).sub (hm (k+1))).mul (EV_mg (T:=T) (v:=v) hm)).sub ((EV_mg (T:=T) (v:=sw k v) hm).sub (EV_mg (T:=T) (v:=sw k v) (sw_mg (x:=x) (x':=mvd N 7 x) (k:=k) (by omega) (by omega) hm)))
  rw [hw,Int.sub_self] at this
  exact this
 omega
theorem pickL_length (w ys : List Int) : (pickL w ys).length=7:=by simp [pickL]
theorem pickL_at {w ys : List Int} {i : Nat} (h : i < w.length) (h7 : w.length≤7) : (pickL w ys).getD i 0=ys.getD (w.getD i 0).toNat 0:=by
 rw [pickL_getD _ _ (by omega)];unfold pick;rw [if_pos h]
theorem pickL_sw {w ys : List Int} {k : Nat} (hk : k+1 < w.length) (h7 : w.length≤7) : pickL (sw k w) ys=sw k (pickL w ys):=by
 refine getD_eq_list (by rw [sw_length,pickL_length,pickL_length]) fun t ht=> ?_
 rw [pickL_length] at ht
 have hk7 : k+1 < (pickL w ys).length:=by rw [pickL_length];omega
 rw [sw_getD hk7,pickL_at (by omega) h7,pickL_at hk h7,pickL_getD _ _ ht,pickL_getD _ _ ht]
 unfold pick
 rw [sw_length,sw_getD hk]
 by_cases h1 : t=k+1
 ·rw [if_pos h1,if_pos h1,if_pos (by omega)]
 ·by_cases h2 : t=k
  ·rw [if_neg h1,if_pos h2,if_neg h1,if_pos h2,if_pos (by omega)]
  ·rw [if_neg h1,if_neg h2,if_neg h1,if_neg h2]
theorem pickL_mg {N : Int} {w ys ys' : List Int} (h : ∀ i,Mg N (ys.getD i 0) (ys'.getD i 0)) (i : Nat) : Mg N ((pickL w ys).getD i 0) ((pickL w ys').getD i 0):=by
 by_cases h7 : i < 7
 ·rw [pickL_getD _ _ h7,pickL_getD _ _ h7]
  unfold pick
  split
  ·exact h _
  ·exact Mg.refl _ _
 ·have a : ∀ y,(pickL w y).getD i 0=0:=fun y=>by rw [List.getD_eq_getElem?_getD,List.getElem?_eq_none (by rw [pickL_length];omega)];rfl
  rw [a,a];exact Mg.refl _ _
def FW (n : Nat) (ys v w : List Int) : Int:=EV (topI n ys n) v (pickL w ys)
theorem FW_mg {N : Int} {n : Nat} {ys ys' v w : List Int} (h : ∀ i,Mg N (ys.getD i 0) (ys'.getD i 0)) : Mg N (FW n ys v w) (FW n ys' v w) :=
 ((PMg.low (PMg.top h n n) 10 v) _).trans (Ev_mg (mono_mg (pickL_mg h)) _)
def df (ys w : List Int) (k : Nat) : Int:=ys.getD (w.getD (k+1) 0).toNat 0 - ys.getD (w.getD k 0).toNat 0
theorem FW_rec {n : Nat} {ys v w : List Int} (hv : P5 n v) (hw : P5 n w) {k : Nat} (hk : k+1 < n) :
 FW n ys v (sw k w)=FW n ys v w+(if ascB k v then 0 else df ys w k * FW n ys (sw k v) w):=by
 have hT:=Pos7.top n ys n
 have h5:=hv.le
 have hl:=hw.len
 unfold FW
 rw [pickL_sw (by omega) (by omega)]
 have hx7:=pickL_length w ys
 cases ha : ascB k v with
 | true =>
   have a:=way_all hT hv hk ha hx7
   have b:=way_all hT hv hk ha (x:=sw k (pickL w ys)) (by rw [sw_length,hx7])
   rw [a.sym (by omega) b];simp
 | false =>
   have hd:=hv.desc hk ha
   have a:=way_all hT (hv.sw hk) hk hd.2 hx7
   unfold WayAt at a
   rw [sw_sw (by have:=hv.len;omega),pickL_at (by omega) (by omega),pickL_at (by omega) (by omega)] at a
   unfold df
   rw [if_neg (by decide)]
   obtain ⟨A,hA⟩ : ∃ A,A=ys.getD (w.getD k 0).toNat 0:=⟨_,rfl⟩
   obtain ⟨B,hB⟩ : ∃ B,B=ys.getD (w.getD (k+1) 0).toNat 0:=⟨_,rfl⟩
   rw [← hA,← hB] at a ⊢
   rw [show B - A = -(A - B) by omega,Int.neg_mul,a]
   omega
theorem FW_way {n : Nat} {ys v w : List Int} (hv : P5 n v) (hw : P5 n w) {k : Nat} (hk : k+1 < n) (ha : ascB k v=true) :
 df ys w k * FW n ys v w=FW n ys (sw k v) (sw k w) - FW n ys (sw k v) w:=by
 have hvs:=hv.sw hk
 have:=FW_rec (ys:=ys) hvs hw hk
 rw [(hv.asc hk ha).2,sw_sw (by have:=hv.len;omega)] at this
 simp at this
 omega
def prodP (ys : List Int) : List (Int × Int)→Int
 | []=>1
 | p :: l=>(ys.getD p.1.toNat 0 - ys.getD p.2.toNat 0) * prodP ys l
theorem prodP_append (ys : List Int) (a b : List (Int × Int)) : prodP ys (a ++ b)=prodP ys a * prodP ys b:=by
 induction a with
 | nil=>simp [prodP]
 | cons p l ih=>rw [List.cons_append,prodP,prodP,ih,Int.mul_assoc]
theorem prodP_perm (ys : List Int) {a b : List (Int × Int)} (h : a.Perm b) : prodP ys a=prodP ys b:=by
 induction h with
 | nil=>rfl
 | cons x _ ih=>rw [prodP,prodP,ih]
 | swap x y l=>simp only [prodP];rw [Int.mul_left_comm]
 | trans _ _ a b=>exact a.trans b
theorem prodP_zero (ys : List Int) {l : List (Int × Int)} (h : ∃ p ∈ l,p.1=p.2) : prodP ys l=0:=by
 obtain ⟨p,hp,e⟩:=h
 induction l with
 | nil=>cases hp
 | cons q l ih =>
   rw [prodP]
   rcases List.mem_cons.1 hp with rfl | hp
   ·rw [e,Int.sub_self,Int.zero_mul]
   ·rw [ih hp,Int.mul_zero]
theorem prodP_mg {N : Int} {ys ys' : List Int} (h : ∀ i,Mg N (ys.getD i 0) (ys'.getD i 0)) : ∀ l,Mg N (prodP ys l) (prodP ys' l)
 | []=>Mg.refl _ _
 | p :: l=>((h _).sub (h _)).mul (prodP_mg h l)
theorem mono_rs {x e : List Int} {i : Nat} (hi : i < 7) (he : e.length=7) (hp : ∀ a ∈ e,(0 : Int)≤a) (hx : x.length=7) : mono x (rsE i e)=x.getD i 0 * mono x e:=by
 obtain ⟨a0,a1,a2,a3,a4,a5,a6,rfl⟩:=list7 he
 obtain ⟨x0,x1,x2,x3,x4,x5,x6,rfl⟩:=list7 hx
 have h0:=hp a0 (by simp)
 have h1:=hp a1 (by simp)
 have h2:=hp a2 (by simp)
 have h3:=hp a3 (by simp)
 have h4:=hp a4 (by simp)
 have h5:=hp a5 (by simp)
 have h6:=hp a6 (by simp)
 have t : ∀ a : Int,0≤a→(a+1).toNat=a.toNat+1:=fun a h=>by omega
 have : i=0 ∨ i=1 ∨ i=2 ∨ i=3 ∨ i=4 ∨ i=5 ∨ i=6:=by omega
 rcases this with rfl | rfl | rfl | rfl | rfl | rfl | rfl <;> (simp [mono,monoK,rsE,t _ h0,t _ h1,t _ h2,t _ h3,t _ h4,t _ h5,t _ h6,Int.pow_succ];ac_rfl)
theorem rs_val {x : List Int} {i : Nat} (hi : i < 7) (hx : x.length=7) : ∀ {P : Pl},Pos7 P→Ev (rsP i P) (mono x)=x.getD i 0 * Ev P (mono x)
 | [],_=>by simp [rsP,Ev]
 | p :: l,h=>by
   have ih:=rs_val hi hx (P:=l) fun q hq=>h q (List.mem_cons_of_mem _ hq)
   have hp:=h p List.mem_cons_self
   show p.2 * mono x (rsE i p.1)+Ev (rsP i l) (mono x)=_ * (p.2 * mono x p.1+Ev l (mono x))
   rw [ih,mono_rs hi hp.1 hp.2 hx,Int.mul_add,Int.mul_left_comm]
def tpJ (w : List Int) (i : Nat) : Nat→List (Int × Int)
 | 0=>[]
 | m+1=>(w.getD i 0,(m : Int)) :: tpJ w i m
def tpI (n : Nat) (w : List Int) : Nat→List (Int × Int)
 | 0=>[]
 | i+1=>tpJ w i (n - 1 - i) ++ tpI n w i
theorem top_val {n : Nat} {w ys : List Int} (hl : w.length=n) (h5 : n≤5) : ∀ i,i≤n→Ev (topI n ys i) (mono (pickL w ys))=prodP ys (tpI n w i)
 | 0,_=>by simp [topI,tpI,Ev,prodP,mono,monoK]
 | i+1,hi=>by
   rw [topI,tpI,prodP_append]
   have hx:=pickL_length w ys
   have : ∀ m,Ev (topJ i ys m (topI n ys i)) (mono (pickL w ys))=prodP ys (tpJ w i m) * prodP ys (tpI n w i)∧Pos7 (topJ i ys m (topI n ys i)):=fun m=>by
    induction m with
    | zero=>exact ⟨by rw [topJ,tpJ,prodP,Int.one_mul];exact top_val hl h5 i (by omega),Pos7.top n ys i⟩
    | succ m ih =>
      refine ⟨?_,(ih.2.rs i).append (ih.2.scl _)⟩
      rw [topJ,tpJ,prodP,Ev_append,Ev_scl,Ev_mul,rs_val (by omega) hx ih.2,ih.1,pickL_at (by omega) (by omega)]
      simp only [Int.toNat_natCast]
      obtain ⟨A,hA⟩ : ∃ A,A=prodP ys (tpJ w i m):=⟨_,rfl⟩
      obtain ⟨B,hB⟩ : ∃ A,A=prodP ys (tpI n w i):=⟨_,rfl⟩
      rw [← hA,← hB]
      grind
   exact (this _).1
def invs (v : List Int) : List (Int × Int):=(List.range v.length).flatMap fun j=>((List.range j).filter fun i=>decide (v.getD j 0 < v.getD i 0)).map fun i=>(v.getD i 0,v.getD j 0)
def vanB (w : List Int) : Bool:=if upN w=0 then (tpI w.length w w.length).isPerm (invs w) && (fasc w).isNone && decide (w=(idL w.length).reverse) else (tpI w.length w w.length).any (fun p=>decide (p.1=p.2)) && (fasc w).isSome
def invB (v : List Int) : Bool:=(List.range (v.length - 1)).all fun k=> !ascB k v || (invs (sw k v)).isPerm ((v.getD (k+1) 0,v.getD k 0) :: invs v)
theorem van_all : all5 vanB=true:=by decide +kernel
theorem inv_all : all5 invB=true:=by decide +kernel
theorem van_0 {n : Nat} {w : List Int} (hw : P5 n w) (h0 : upN w=0) : (tpI n w n).Perm (invs w)∧fasc w=none∧w=(idL n).reverse:=by
 have:=all5_at van_all hw.ok (by have:=hw.len;have:=hw.le;omega)
 unfold vanB at this
 rw [if_pos h0,hw.len] at this
 simpa [List.isPerm_iff,and_assoc] using this
theorem van_1 {n : Nat} {w : List Int} (hw : P5 n w) (h0 : upN w ≠ 0) : (∃ p ∈ tpI n w n,p.1=p.2) ∧ ∃ k,fasc w=some k:=by
 have:=all5_at van_all hw.ok (by have:=hw.len;have:=hw.le;omega)
 unfold vanB at this
 rw [if_neg h0,hw.len] at this
 simp only [Bool.and_eq_true,List.any_eq_true,decide_eq_true_eq,Option.isSome_iff_exists] at this
 exact this
theorem inv_sw {n : Nat} {v : List Int} (hv : P5 n v) {k : Nat} (hk : k+1 < n) (ha : ascB k v=true) : (invs (sw k v)).Perm ((v.getD (k+1) 0,v.getD k 0) :: invs v):=by
 have:=all5_at inv_all hv.ok (by have:=hv.len;have:=hv.le;omega)
 simp only [invB,List.all_eq_true,List.mem_range] at this
 have:=this k (by have:=hv.len;omega)
 rw [ha] at this
 simpa [List.isPerm_iff] using this
def DstY (n : Nat) (ys : List Int) : Prop:=∀ i j,i < n→j < n→i ≠ j→ys.getD i 0 ≠ ys.getD j 0
theorem df_ne {n : Nat} {ys w : List Int} (hy : DstY n ys) (hw : P5 n w) {k : Nat} (hk : k+1 < n) : df ys w k ≠ 0:=by
 obtain ⟨a,ha,han⟩:=hw.rng (j:=k) (by omega)
 obtain ⟨b,hb,hbn⟩:=hw.rng (j:=k+1) hk
 unfold df
 rw [ha,hb,Int.toNat_natCast,Int.toNat_natCast]
 have hne : b ≠ a:=fun e=>by
  have hp:=hw.ok
  simp only [permOk,decide_eq_true_eq] at hp
  have:=List.pairwise_iff_getElem.1 hp.2.2.2 k (k+1) (by have:=hw.len;omega) (by have:=hw.len;omega) (by omega)
  rw [← getD_lt,← getD_lt,ha,hb,e] at this
  exact this rfl
 have:=hy b a hbn han hne
 omega
theorem sw_inj {n : Nat} {v w : List Int} (hv : P5 n v) (hw : P5 n w) {k : Nat} (hk : k+1 < n) (h : sw k w=sw k v) : w=v:=by
 rw [← sw_sw (x:=w) (k:=k) (by have:=hw.len;omega),h,sw_sw (by have:=hv.len;omega)]
theorem up_near {n : Nat} {w : List Int} (hw : P5 n w) {k : Nat} (hk : k+1 < n) : upN w≤upN (sw k w)+1:=by
 cases ha : ascB k w with
 | true=>have:=(hw.asc hk ha).1;omega
 | false=>have:=(hw.desc hk ha).1;omega
theorem van_dst {n : Nat} {ys : List Int} (hy : DstY n ys) : ∀ (m : Nat) (v : List Int),P5 n v→upN v=m→(∀ w,P5 n w→m≤upN w→w ≠ v→FW n ys v w=0)∧FW n ys v v=prodP ys (invs v):=by
 intro m
 induction m with
 | zero =>
   intro v hv hm
   obtain ⟨h1,h2,h3⟩:=van_0 hv hm
   have hval : ∀ w,P5 n w→FW n ys v w=prodP ys (tpI n w n):=fun w hw=>by
    unfold FW EV
    rw [show lowP 10 v (topI n ys n)=topI n ys n by rw [lowP,h2]]
    exact top_val hw.len hw.le n (Nat.le_refl _)
   refine ⟨fun w hw _ hne=> ?_,by rw [hval v hv,prodP_perm ys h1]⟩
   rw [hval w hw]
   refine prodP_zero ys (van_1 hw fun h0=>hne ?_).1
   rw [h3,(van_0 hw h0).2.2]
 | succ m ih =>
   intro v hv hm
   obtain ⟨_,k,hk⟩:=van_1 hv (by omega)
   have hkl:=fasc_lt hk
   have hkn : k+1 < n:=by have:=hv.len;omega
   have ha : ascB k v=true:=decide_eq_true hkl.2.1
   have hu:=hv.asc hkn ha
   obtain ⟨z1,z2⟩:=ih (sw k v) (hv.sw hkn) (by omega)
   refine ⟨fun w hw hle hne=> ?_,?_⟩
   ·have a:=FW_way (ys:=ys) hv hw hkn ha
    have b:=up_near hw hkn
    rw [z1 w hw (by omega) (fun e=>by rw [e] at hle;omega),z1 (sw k w) (hw.sw hkn) (by omega) (fun e=>hne (sw_inj hv hw hkn e)),Int.sub_self] at a
    exact cancel (df_ne hy hw hkn) a
   ·have a:=FW_way (ys:=ys) hv hv hkn ha
    rw [z2,z1 v hv (by omega) (fun e=>by rw [← e] at hu;omega),prodP_perm ys (inv_sw hv hkn ha),prodP] at a
    have b:=df_ne hy hv hkn
    have : df ys v k * (FW n ys v v - prodP ys (invs v))=0:=by
     rw [Int.mul_sub,a]
     simp only [df]
     omega
    have:=cancel b this
    omega
theorem mvd_dst {N : Int} {n : Nat} {ys : List Int} (hN : 2 * ((ys.map Int.natAbs).sum : Int) < N) : DstY n (mvd N n ys):=fun i j hi hj hne=>by
 rcases Nat.lt_or_gt_of_ne hne with h | h
 ·exact mvd_ne hN h hj
 ·exact fun e=>mvd_ne hN h hi e.symm
theorem FW_zero {n : Nat} {ys v w : List Int} (hv : P5 n v) (hw : P5 n w) (hy : ys.length=n) (hle : upN v≤upN w) (hne : w ≠ v) : FW n ys v w=0 :=
 Mg.zero (2 * ((ys.map Int.natAbs).sum : Int)) fun N hN _=>by
  have a:=FW_mg (n:=n) (v:=v) (w:=w) (mvd_mg (N:=N) hy)
  rw [(van_dst (mvd_dst hN) _ v hv rfl).1 w hw hle hne] at a
  exact a
theorem FW_self {n : Nat} {ys v : List Int} (hv : P5 n v) (hy : ys.length=n) : FW n ys v v=prodP ys (invs v):=by
 have : FW n ys v v - prodP ys (invs v)=0 :=
  Mg.zero (2 * ((ys.map Int.natAbs).sum : Int)) fun N hN _=>by
   have a:=(FW_mg (n:=n) (v:=v) (w:=v) (mvd_mg (N:=N) hy)).sub (prodP_mg (mvd_mg (N:=N) hy) (invs v))
   rw [(van_dst (mvd_dst hN) _ v hv rfl).2,Int.sub_self] at a
   exact a
 omega
theorem sumS_snoc {n : Nat} {ys : List Int} {k : Nat} (hk : k+1 < n) : ∀ (r : List Nat) (v u h : List Int),P5 n v→P5 n h→u.length=n→(∀ j ∈ r,j+1 < n) →
 sumS v ys (r ++ [k]) u h=sumS v ys r u h+(if ascB k v then 0 else df ys (play r u) k * sumS (sw k v) ys r u h)
 | [],v,u,h,hv,hh,hu,_=>by
   simp only [List.nil_append,sumS,play,List.foldl_nil,df]
   congr 1
   cases ha : ascB k h with
   | true =>
     have a:=(hh.asc hk ha).2
     by_cases e : sw k h=v
     ·have e2 : h=sw k v:=by rw [← e,sw_sw (by have:=hh.len;omega)]
      rw [← e,a,sw_sw (by have:=hh.len;omega)]
      simp
     ·have e2 : ¬ h=sw k v:=fun e2=>e (by rw [e2,sw_sw (by have:=hv.len;omega)])
      simp [e,e2]
   | false =>
     cases hb : ascB k v with
     | true=>simp
     | false =>
       have e2 : ¬ h=sw k v:=fun e2=>by
        have:=(hv.desc hk hb).2
        rw [← e2,ha] at this
        cases this
       simp [e2]
 | j :: r,v,u,h,hv,hh,hu,hr=>by
   have hj : j+1 < n:=hr j List.mem_cons_self
   have hr' : ∀ j ∈ r,j+1 < n:=fun i hi=>hr i (List.mem_cons_of_mem _ hi)
   have i1:=sumS_snoc (ys:=ys) hk r v (sw j u) h hv hh (by rw [sw_length];exact hu) hr'
   have i2:=sumS_snoc (ys:=ys) hk r v (sw j u) (sw j h) hv (hh.sw hj) (by rw [sw_length];exact hu) hr'
   rw [List.cons_append,sumS,i1,i2,sumS,sumS]
   show _=_+(if ascB k v then 0 else df ys (play r (sw j u)) k * _)
   cases ascB k v <;> cases ascB j h <;> simp <;> grind
theorem play_p5 {n : Nat} : ∀ (r : List Nat) (u : List Int),P5 n u→(∀ j ∈ r,j+1 < n)→P5 n (play r u)
 | [],u,h,_=>h
 | j :: r,u,h,hr=>play_p5 r (sw j u) (h.sw (hr j List.mem_cons_self)) fun i hi=>hr i (List.mem_cons_of_mem _ hi)
theorem play_snoc (r : List Nat) (k : Nat) (u : List Int) : play (r ++ [k]) u=sw k (play r u):=by simp [play]
theorem id_most {n : Nat} {v : List Int} (hv : P5 n v) (h1 : 1≤n) : upN v≤upN (idL n)∧lnN (idL n)=0∧invs (idL n)=[]:=by
 have h5:=hv.le
 have a:=(wrd_at hv).2.2.2
 have b:=(wrd_at (P5.id h1 h5)).2.2.2
 have c : ∀ n : Fin 6,lnN (idL n)=0∧invs (idL n)=[]:=by decide
 have d:=c ⟨n,by omega⟩
 simp only at d
 refine ⟨by omega,d⟩
theorem sum_val {n : Nat} {ys : List Int} (hy : ys.length=n) (h1 : 1≤n) (h5 : n≤5) : ∀ (m : Nat) (r : List Nat) (v : List Int),r.length=m→P5 n v→(∀ j ∈ r,j+1 < n)→FW n ys v (play r (idL n))=sumS v ys r (idL n) (idL n):=by
 intro m
 induction m with
 | zero =>
   intro r v hr hv _
   obtain rfl:=List.eq_nil_of_length_eq_zero hr
   have hi:=P5.id h1 h5
   have a:=id_most hv h1
   show FW n ys v (idL n)=_
   rw [sumS]
   by_cases e : idL n=v
   ·rw [if_pos e,← e,FW_self hi hy,a.2.2];rfl
   ·rw [if_neg e]
    exact FW_zero hv hi hy a.1 e
 | succ m ih =>
   intro r v hr hv hrk
   have hne : r ≠ []:=fun e=>by rw [e] at hr;cases hr
   obtain ⟨r',k,rfl⟩ : ∃ r' k,r=r' ++ [k]:=⟨r.dropLast,r.getLast hne,(List.dropLast_concat_getLast hne).symm⟩
   have hk : k+1 < n:=hrk k (by simp)
   have hrk' : ∀ j ∈ r',j+1 < n:=fun j hj=>hrk j (by simp [hj])
   have hl : r'.length=m:=by simpa using hr
   have hi:=P5.id h1 h5
   rw [play_snoc,FW_rec hv (play_p5 r' _ hi hrk') hk,sumS_snoc hk r' v _ _ hv hi hi.len hrk',ih r' v hl hv hrk',ih r' (sw k v) hl (hv.sw hk) hrk']
def rkL (xs : List Int) (c : Int) : Nat→Nat
 | 0=>0
 | r+1=>rkL xs c r+if xs.getD r 0 < c then 1 else 0
def blwB (v w : List Int) : Bool:=(List.range (v.length+1)).all fun r=>(List.range (v.length+1)).all fun c=>decide (rkL w (c : Int) r≤rkL v (c : Int) r)
def pair4 (B : List Int→List Int→Bool) : Bool:=(List.range 5).all fun n=>(permsL n).all fun v=>(permsL n).all fun w=> !decide (1≤n) || B v w
theorem pair4_at {B : List Int→List Int→Bool} (h : pair4 B=true) {v w : List Int} {n : Nat} (hv : P5 n v) (hw : P5 n w) (h4 : n≤4) : B v w=true:=by
 unfold pair4 at h
 rw [List.all_eq_true] at h
 have a:=h n (List.mem_range.2 (by omega))
 rw [List.all_eq_true] at a
 have mv:=perm_mem hv.ok (by rw [hv.len];omega)
 have mw:=perm_mem hw.ok (by rw [hw.len];omega)
 rw [hv.len] at mv
 rw [hw.len] at mw
 have b:=a v mv
 rw [List.all_eq_true] at b
 have c:=b w mw
 have : 1≤n:=by have:=hv.ok;simp only [permOk,decide_eq_true_eq] at this;have:=hv.len;omega
 simpa [this] using c
def bruB (v w : List Int) : Bool:=(List.range (v.length - 1)).all fun k=> !ascB k w || decide (blwB v (sw k w)=(blwB v w || (!ascB k v && blwB (sw k v) w)))
def blidB (v : List Int) : Bool:=decide (blwB v (idL v.length)=decide (idL v.length=v)) && (decide (lnN v=0) || (List.range (v.length - 1)).any fun k=> !ascB k v)
theorem bru_all : pair4 bruB=true:=by decide +kernel
theorem blid_all : all5 blidB=true:=by decide +kernel
theorem bru_at {n : Nat} {v w : List Int} (hv : P5 n v) (hw : P5 n w) (h4 : n≤4) {k : Nat} (hk : k+1 < n) (ha : ascB k w=true) : blwB v (sw k w)=(blwB v w || (!ascB k v && blwB (sw k v) w)):=by
 have:=pair4_at bru_all hv hw h4
 simp only [bruB,List.all_eq_true,List.mem_range] at this
 have:=this k (by rw [hv.len];omega)
 rw [ha] at this
 simpa using this
theorem blid_at {n : Nat} {v : List Int} (hv : P5 n v) : blwB v (idL n)=decide (idL n=v)∧(lnN v=0 ∨ ∃ k,k+1 < n∧ascB k v=false):=by
 have:=all5_at blid_all hv.ok (by have:=hv.len;have:=hv.le;omega)
 simp only [blidB,Bool.and_eq_true,decide_eq_true_eq,Bool.or_eq_true,List.any_eq_true,List.mem_range] at this
 rw [hv.len] at this
 refine ⟨this.1,this.2.imp_right fun ⟨k,hk,h⟩=>⟨k,by omega,by simpa using h⟩⟩
theorem id_of_len {n : Nat} {w : List Int} (hw : P5 n w) (h0 : lnN w=0) : w=idL n:=by
 have:=(wrd_at hw).1
 unfold fstL at this
 rw [h0] at this
 exact this.symm
theorem len_desc {n : Nat} {w : List Int} (hw : P5 n w) {k : Nat} (hk : k+1 < n) (ha : ascB k w=false) : lnN (sw k w)+1=lnN w:=by
 have a:=(wrd_at hw).2.2.2
 have b:=(wrd_at (hw.sw hk)).2.2.2
 have c:=(hw.desc hk ha).1
 omega
end
end Go.Proofs.YtijadclebjcckaaGreat
