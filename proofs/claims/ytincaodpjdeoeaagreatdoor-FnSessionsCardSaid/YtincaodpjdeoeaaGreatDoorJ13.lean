/-
  A part of the proof of FnSessions (texts of one proof, joined).
-/
import Derived.Test.YtincaodpjdeoeaaGreatDoorJ12
namespace Go.Proofs.YtincaodpjdeoeaaGreatDoor
set_option linter.all false
set_option maxRecDepth 100000
set_option maxHeartbeats 16000000
section
open Go.RowKit
def aLB (n : Nat) : Bool:=(permsL n).all (fun v=>permOk v && decide (v.length=n)) && decide (permsL n).Nodup && (List.range (n - 1)).all fun k=>((permsL n).map (sw k)).isPerm (permsL n)
theorem aL_all : ∀ n : Fin 4,aLB (n.val+1)=true:=by decide +kernel
structure AL (n : Nat) : Prop where
 mem : ∀ w,w ∈ permsL n ↔ P5 n w
 nodup : (permsL n).Nodup
 sw : ∀ k,k+1 < n→((permsL n).map (sw k)).Perm (permsL n)
theorem aL {n : Nat} (h1 : 1≤n) (h4 : n≤4) : AL n:=by
 have:=aL_all ⟨n - 1,by omega⟩
 rw [show (⟨n - 1,by omega⟩ : Fin 4).val+1=n by simp;omega] at this
 simp only [aLB,Bool.and_eq_true,List.all_eq_true,decide_eq_true_eq,List.mem_range] at this
 obtain ⟨⟨a,b⟩,c⟩:=this
 refine ⟨fun w=>⟨fun hw=>⟨(a w hw).1,(a w hw).2,by omega⟩,fun hw=> ?_⟩,b,fun k hk=>List.isPerm_iff.1 (c k (by omega))⟩
 have:=perm_mem hw.ok (by rw [hw.len];omega)
 rw [hw.len] at this
 exact this
theorem sumF_delta {v : List Int} (g : List Int→Int) : ∀ {L : List (List Int)},L.Nodup→v ∈ L→sumF (fun w=>if w=v then g w else 0) L=g v
 | [],_,h=>by cases h
 | x :: L,hn,h=>by
   rw [sumF_cons]
   have hn':=List.nodup_cons.1 hn
   by_cases e : x=v
   ·rw [if_pos e,sumF_zero fun y hy=>if_neg fun e2=>hn'.1 (by rw [e,← e2];exact hy),e,Int.add_zero]
   ·rw [if_neg e,sumF_delta g hn'.2 (by
     rcases List.mem_cons.1 h with h | h
     ·exact absurd h.symm e
     ·exact h),Int.zero_add]
theorem sumF_count (F : List Int→Int) {L : List (List Int)} (hn : L.Nodup) : ∀ {M : List (List Int)},(∀ x ∈ M,x ∈ L)→sumF F M=sumF (fun u=>((M.count u : Nat) : Int) * F u) L
 | [],_=>by rw [sumF_nil];exact (sumF_zero fun x _=>by simp).symm
 | x :: M,h=>by
   rw [sumF_cons,sumF_count F hn fun y hy=>h y (List.mem_cons_of_mem _ hy),← sumF_delta F hn (h x List.mem_cons_self),← sumF_add]
   refine sumF_congr fun u _=> ?_
   rw [List.count_cons]
   by_cases e : u=x
   ·rw [if_pos e,e];simp [Int.add_mul];omega
   ·rw [if_neg e]
    have : ¬ (x == u)=true:=by simp;exact fun h=>e h.symm
    rw [if_neg this];simp
def Ex (n : Nat) (ys : List Int) (f c : List Int→Int) : Prop:=∀ p,P5 n p→f p=sumF (fun w=>c w * FW n ys w p) (permsL n)
variable {n : Nat} {ys : List Int}
theorem Ex.zero : Ex n ys (fun _=>0) (fun _=>0):=fun p _=>(sumF_zero fun x _=>by simp).symm
theorem Ex.add {f g c d : List Int→Int} (h : Ex n ys f c) (h' : Ex n ys g d) : Ex n ys (fun p=>f p+g p) (fun w=>c w+d w):=fun p hp=>by
 dsimp only
 rw [h p hp,h' p hp,← sumF_add]
 exact sumF_congr fun u _=>by rw [Int.add_mul]
theorem Ex.sub {f g c d : List Int→Int} (h : Ex n ys f c) (h' : Ex n ys g d) : Ex n ys (fun p=>f p - g p) (fun w=>c w - d w):=fun p hp=>by
 dsimp only
 rw [h p hp,h' p hp,← sumF_sub]
 exact sumF_congr fun u _=>by rw [Int.sub_mul]
theorem Ex.congr {f g c : List Int→Int} (h : Ex n ys f c) (e : ∀ p,P5 n p→g p=f p) : Ex n ys g c:=fun p hp=>by rw [e p hp];exact h p hp
theorem Ex.one (h1 : 1≤n) (h4 : n≤4) {v : List Int} (hv : P5 n v) : Ex n ys (FW n ys v) (fun w=>if w=v then 1 else 0):=fun p hp=>by
 have A:=aL h1 h4
 have:=sumF_delta (v:=v) (fun w=>FW n ys w p) A.nodup ((A.mem v).2 hv)
 rw [← this]
 exact sumF_congr fun u _=>by by_cases e : u=v <;> simp [e]
def muC (n : Nat) (ys : List Int) (k : Nat) (c : List Int→Int) (u : List Int) : Int :=
 yAt ys u k * c u+sumF (fun w=>c w * (((cvUp w k).count u : Nat) : Int)) (permsL n) - sumF (fun w=>c w * (((cvDn w k).count u : Nat) : Int)) (permsL n)
theorem Ex.mu (hy : ys.length=n) (h1 : 1≤n) (h4 : n≤4) {f c : List Int→Int} (h : Ex n ys f c) {k : Nat} (hk : k < n) : Ex n ys (fun p=>yAt ys p k * f p) (muC n ys k c):=fun p hp=>by
 have A:=aL h1 h4
 show yAt ys p k * f p=_
 rw [h p hp,← sumF_mul]
 have e1 : ∀ w ∈ permsL n,yAt ys p k * (c w * FW n ys w p) =
  yAt ys w k * c w * FW n ys w p+(sumF (fun u=>c w * (((cvUp w k).count u : Nat) : Int) * FW n ys u p) (permsL n) - sumF (fun u=>c w * (((cvDn w k).count u : Nat) : Int) * FW n ys u p) (permsL n)):=fun w hw=>by
  have hw':=(A.mem w).1 hw
  have hc:=chv_at hw' hk
  have h0:=chev hy h1 _ p rfl hp w k hw' hk
  have u1 : sumF (fun u=>c w * (((cvUp w k).count u : Nat) : Int) * FW n ys u p) (permsL n)=c w * sumF (fun u=>FW n ys u p) (cvUp w k):=by
   rw [sumF_count _ A.nodup fun x hx=>(A.mem x).2 (hc.2.1 x hx).1,← sumF_mul]
   exact sumF_congr fun u _=>by rw [Int.mul_assoc]
  have u2 : sumF (fun u=>c w * (((cvDn w k).count u : Nat) : Int) * FW n ys u p) (permsL n)=c w * sumF (fun u=>FW n ys u p) (cvDn w k):=by
   rw [sumF_count _ A.nodup fun x hx=>(A.mem x).2 (hc.2.2 x hx).1,← sumF_mul]
   exact sumF_congr fun u _=>by rw [Int.mul_assoc]
  rw [u1,u2,Int.mul_left_comm,h0]
  grind
 rw [sumF_congr e1,sumF_add,sumF_sub]
 rw [sumF_swap (fun w u=>c w * (((cvUp w k).count u : Nat) : Int) * FW n ys u p),sumF_swap (fun w u=>c w * (((cvDn w k).count u : Nat) : Int) * FW n ys u p),← sumF_sub,← sumF_add]
 refine sumF_congr fun u _=> ?_
 have e2 : ∀ g : List Int→Int,sumF (fun w=>g w * FW n ys u p) (permsL n)=sumF g (permsL n) * FW n ys u p:=fun g=>by
  rw [Int.mul_comm,← sumF_mul]
  exact sumF_congr fun w _=>Int.mul_comm _ _
 rw [e2 fun w=>c w * (((cvUp w k).count u : Nat) : Int),e2 fun w=>c w * (((cvDn w k).count u : Nat) : Int)]
 unfold muC
 grind
theorem pick_y {p : List Int} (hp : P5 n p) (i : Nat) : (pickL p ys).getD i 0=if i < n then yAt ys p i else 0:=by
 by_cases h7 : i < 7
 ·rw [pickL_getD _ _ h7]
  unfold pick
  rw [hp.len]
  rfl
 ·have:=hp.le
  rw [if_neg (by omega),List.getD_eq_getElem?_getD,List.getElem?_eq_none (by rw [pickL_length];omega)];rfl
theorem Ex.pick (hy : ys.length=n) (h1 : 1≤n) (h4 : n≤4) {f c : List Int→Int} (h : Ex n ys f c) (i : Nat) : ∃ c',Ex n ys (fun p=>(pickL p ys).getD i 0 * f p) c':=by
 by_cases hi : i < n
 ·exact ⟨_,(h.mu hy h1 h4 hi).congr fun p hp=>by rw [pick_y hp,if_pos hi]⟩
 ·exact ⟨_,Ex.zero.congr fun p hp=>by rw [pick_y hp,if_neg hi,Int.zero_mul]⟩
theorem Ex.pow (hy : ys.length=n) (h1 : 1≤n) (h4 : n≤4) (i : Nat) : ∀ (t : Nat) {f c : List Int→Int},Ex n ys f c → ∃ c',Ex n ys (fun p=>(pickL p ys).getD i 0 ^ t * f p) c'
 | 0,f,c,h=>⟨c,h.congr fun p _=>by rw [Int.pow_zero,Int.one_mul]⟩
 | t+1,f,c,h=>by
   obtain ⟨c1,h1'⟩:=h.pick hy h1 h4 i
   obtain ⟨c2,h2⟩:=Ex.pow hy h1 h4 i t h1'
   exact ⟨c2,h2.congr fun p _=>by rw [Int.pow_succ,Int.mul_assoc]⟩
theorem Ex.mono (hy : ys.length=n) (h1 : 1≤n) (h4 : n≤4) (e : List Int) {f c : List Int→Int} (h : Ex n ys f c) : ∃ c',Ex n ys (fun p=>Go.Proofs.YtincaodpjdeoeaaGreatDoor.mono (pickL p ys) e * f p) c':=by
 unfold Go.Proofs.YtincaodpjdeoeaaGreatDoor.mono
 have : ∀ (m : Nat) {f c : List Int→Int},Ex n ys f c → ∃ c',Ex n ys (fun p=>monoK (pickL p ys) e m * f p) c':=fun m=>by
  induction m with
  | zero=>exact fun h=>⟨_,h.congr fun p _=>by rw [monoK,Int.one_mul]⟩
  | succ m ih =>
    intro f c h
    obtain ⟨c1,h1'⟩:=Ex.pow hy h1 h4 m (e.getD m 0).toNat h
    obtain ⟨c2,h2⟩:=ih h1'
    exact ⟨c2,h2.congr fun p _=>by rw [monoK,Int.mul_assoc]⟩
 exact this 7 h
def invNB (v : List Int) : Bool:=(invs v).all fun p=>decide (0≤p.1∧p.1 < (v.length : Int)∧0≤p.2∧p.2 < (v.length : Int)∧p.1 ≠ p.2)
theorem invN_all : all5 invNB=true:=by decide +kernel
theorem prod_ne {v : List Int} (hv : P5 n v) (hd : DstY n ys) : prodP ys (invs v) ≠ 0:=by
 have:=all5_at invN_all hv.ok (by have:=hv.len;have:=hv.le;omega)
 simp only [invNB,List.all_eq_true,decide_eq_true_eq,hv.len] at this
 have key : ∀ L : List (Int × Int),(∀ p ∈ L,0≤p.1∧p.1 < (n : Int)∧0≤p.2∧p.2 < (n : Int)∧p.1 ≠ p.2)→prodP ys L ≠ 0:=fun L=>by
  induction L with
  | nil=>exact fun _=>by simp [prodP]
  | cons p L ih =>
    intro h
    rw [prodP]
    obtain ⟨a1,a2,b1,b2,hne⟩:=h p List.mem_cons_self
    have:=hd p.1.toNat p.2.toNat (by omega) (by omega) (by omega)
    exact Int.mul_ne_zero (by omega) (ih fun q hq=>h q (List.mem_cons_of_mem _ hq))
 exact key _ this
theorem FW_ne (hy : ys.length=n) {v : List Int} (hv : P5 n v) (hd : DstY n ys) : FW n ys v v ≠ 0:=by rw [FW_self hv hy];exact prod_ne hv hd
theorem sum_at (hy : ys.length=n) (h1 : 1≤n) (h4 : n≤4) {d : List Int→Int} {w : List Int} (hw : P5 n w) (h : ∀ u,P5 n u→lnN u < lnN w→d u=0) : sumF (fun u=>d u * FW n ys u w) (permsL n)=d w * FW n ys w w:=by
 have A:=aL h1 h4
 rw [← sumF_delta (v:=w) (fun u=>d u * FW n ys u w) A.nodup ((A.mem w).2 hw)]
 refine sumF_congr fun u hu=> ?_
 have hu':=(A.mem u).1 hu
 by_cases e : u=w
 ·rw [if_pos e]
 ·rw [if_neg e]
  by_cases hl : lnN u < lnN w
  ·rw [h u hu' hl,Int.zero_mul]
  ·have a:=(wrd_at hu').2.2.2
   have b:=(wrd_at hw).2.2.2
   rw [FW_zero hu' hw hy (by omega) (fun h=>e h.symm),Int.mul_zero]
theorem Ex.nil (hy : ys.length=n) (h1 : 1≤n) (h4 : n≤4) (hd : DstY n ys) {d : List Int→Int} (h : Ex n ys (fun _=>0) d) : ∀ (t : Nat) (w : List Int),lnN w=t→P5 n w→d w=0:=by
 intro t
 induction t using Nat.strongRecOn with
 | _ t ih =>
   intro w ht hw
   have:=h w hw
   rw [sum_at hy h1 h4 hw fun u hu hl=>ih (lnN u) (by omega) u rfl hu] at this
   exact (Int.mul_eq_zero.1 this.symm).resolve_right (FW_ne hy hw hd)
def DCh : Int→List Int→Prop
 | _,[]=>True
 | m,x :: l=>1≤x∧x≤m∧DCh x l
theorem dch_of : ∀ (xs : List Int) (m : Int),(∀ j,j < xs.length→1≤xs.getD j 0∧(0 < j→xs.getD j 0≤xs.getD (j - 1) 0))→(0 < xs.length→xs.getD 0 0≤m)→DCh m xs
 | [],_,_,_=>trivial
 | x :: l,m,h,hm=>by
   have h0:=(h 0 (by simp)).1
   have hx:=hm (by simp)
   simp only [List.getD_cons_zero] at h0 hx
   refine ⟨h0,hx,dch_of l x (fun j hj=> ?_) fun hl=> ?_⟩
   ·have:=h (j+1) (by simpa using hj)
    simp only [List.getD_cons_succ] at this
    refine ⟨this.1,fun hj0=> ?_⟩
    have h2:=this.2 (by omega)
    rw [show j+1 - 1=(j - 1)+1 by omega,List.getD_cons_succ] at h2
    exact h2
   ·have:=(h 1 (by simpa using hl)).2 (by omega)
    simpa using this
theorem dch_mem : ∀ (r m : Nat) (xs : List Int),DCh (m : Int) xs→xs.length≤r→xs ∈ ishs r m
 | 0,m,[],_,_=>by simp [ishs]
 | 0,m,_ :: _,_,h=>by simp at h
 | r+1,m,[],_,_=>by simp [ishs]
 | r+1,m,x :: l,h,hl=>by
   obtain ⟨h1,h2,h3⟩:=h
   rw [ishs]
   refine List.mem_cons_of_mem _ (List.mem_flatMap.2 ⟨x.toNat - 1,by simp;omega,List.mem_map.2 ⟨l,dch_mem r _ l ?_ (by simpa using hl),?_⟩⟩)
   ·rw [show ((x.toNat - 1+1 : Nat) : Int)=x by omega];exact h3
   ·rw [show ((x.toNat - 1 : Nat) : Int)+1=x by omega]
theorem bx_mem {sh : List Int} {k n : Nat} (h : bxOk sh k n=true) (hk : k≤n) : sh ∈ ishs k (n - k):=by
 unfold bxOk at h
 simp only [Bool.and_eq_true,decide_eq_true_eq] at h
 obtain ⟨⟨h1,h2⟩,h3⟩:=h
 obtain ⟨_,hs⟩:=shOk_facts h1
 refine dch_mem _ _ _ (dch_of _ _ (fun j hj=>⟨(hs j hj).1,(hs j hj).2.2⟩) fun _=>by omega) h2
def growL (t : List Int) (n : Nat) : List Int:=t ++ (List.range (n - t.length)).map fun (i : Nat)=>((t.length+i : Nat) : Int)
def grB (k n : Nat) (w : List Int) : Bool:=(List.range (n - 1)).all fun j=>decide (j+1=k) || ascB j w
structure ShpIs (n k : Nat) : Prop where
 perm : ((permsL n).filter (grB k n)).Perm ((ishs k (n - k)).map fun sh=>gpW sh k n)
 p5 : ∀ sh ∈ ishs k (n - k),P5 n (gpW sh k n)
 grow : ∀ sh ∈ ishs k (n - k),growL (trimL (gpW sh k n)) n=gpW sh k n
 back : ∀ sh ∈ ishs k (n - k),shL ((List.range k).map fun (i : Nat)=>(gpW sh k n).getD (k - 1 - i) 0 - ((k - 1 - i : Nat) : Int))=sh
 short : ∀ sh ∈ ishs k (n - k),sh.length≤4
 box : ∀ sh ∈ ishs k (n - k),bxOk sh k n=true
 asc : (ishs k (n - k)).Pairwise fun a b=>ltB a b=true
 six : (ishs k (n - k)).length≤6
def AscP (cs : List Cls) : Prop:=cs.Pairwise fun a b=>ltB a.1 b.1=true
def posP (s : List Int) : List Cls→Nat
 | []=>0
 | x :: l=>if ltB x.1 s=true then posP s l+1 else 0
theorem posP_le (s : List Int) : ∀ cs,posP s cs≤cs.length
 | []=>Nat.le_refl _
 | x :: l=>by
   unfold posP
   have:=posP_le s l
   split
   ·rw [List.length_cons];omega
   ·exact Nat.zero_le _
theorem posP_at (s : List Int) : ∀ cs,AscP cs → ∀ a,a < cs.length→ltB (cs.getD a clD).1 s=decide (a < posP s cs)
 | [],_=>fun a h=>by cases h
 | x :: l,h=>fun a ha=>by
   obtain ⟨h1,h2⟩:=List.pairwise_cons.1 h
   unfold posP
   cases e : ltB x.1 s with
   | true =>
     rw [if_pos rfl]
     cases a with
     | zero=>rw [List.getD_cons_zero,e];simp
     | succ a =>
       rw [List.getD_cons_succ,posP_at s l h2 a (by simpa using ha)]
       simp
   | false =>
     rw [if_neg (by decide)]
     have : decide (a < 0)=false:=by simp
     rw [this]
     cases a with
     | zero=>rw [List.getD_cons_zero];exact e
     | succ a =>
       rw [List.getD_cons_succ]
       have hl : a < l.length:=by simpa using ha
       have hm : l.getD a clD ∈ l:=by rw [List.getD_eq_getElem?_getD,List.getElem?_eq_getElem hl];exact List.getElem_mem hl
       cases e2 : ltB (l.getD a clD).1 s with
       | false=>rfl
       | true =>
         have:=ltB_trans _ _ _ (h1 _ hm) e2
         rw [this] at e;cases e
theorem cmpB_zero : ∀ xs ys : List Int,cmpB xs ys=0 ↔ xs=ys
 | [],[]=>by simp [cmpB]
 | [],y :: ys=>by simp [cmpB]
 | x :: xs,[]=>by simp [cmpB]
 | x :: xs,y :: ys=>by
   have ih:=cmpB_zero xs ys
   unfold cmpB
   by_cases h1 : x < y
   ·rw [if_pos h1];simp;omega
   ·rw [if_neg h1]
    by_cases h2 : y < x
    ·rw [if_pos h2];simp;omega
    ·rw [if_neg h2,ih]
     have : x=y:=by omega
     simp [this]
def sumdP (s : List Int) (c : Int) (cs : List Cls) : List Cls :=
 if posP s cs < cs.length∧(cs.getD (posP s cs) clD).1=s then cs.set (posP s cs) (s,(cs.getD (posP s cs) clD).2+c) else cs.take (posP s cs) ++ [(s,c)] ++ cs.drop (posP s cs)
def sumdL (s : List Int) (c : Int) : List Cls→List Cls
 | []=>[(s,c)]
 | x :: l=>if ltB x.1 s=true then x :: sumdL s c l else if x.1=s then (s,x.2+c) :: l else (s,c) :: x :: l
theorem sumd_same (s : List Int) (c : Int) : ∀ cs,sumdP s c cs=sumdL s c cs
 | []=>rfl
 | x :: l=>by
   have ih:=sumd_same s c l
   unfold sumdL
   cases e : ltB x.1 s with
   | true =>
     have hp : posP s (x :: l)=posP s l+1:=by rw [posP,if_pos e]
     rw [if_pos rfl,← ih]
     unfold sumdP
     rw [hp]
     simp only [List.length_cons,Nat.add_lt_add_iff_right,List.getD_cons_succ,List.set_cons_succ,List.take_succ_cons,List.drop_succ_cons,List.cons_append]
     split <;> rfl
   | false =>
     have hp : posP s (x :: l)=0:=by rw [posP,if_neg (by rw [e];decide)]
     rw [if_neg (by decide)]
     unfold sumdP
     rw [hp]
     by_cases h : x.1=s
     ·rw [if_pos ⟨by simp,by simpa using h⟩,if_pos h];rfl
     ·rw [if_neg (fun c=>h (by simpa using c.2)),if_neg h];rfl
theorem lt_or (a b : List Int) (h1 : ltB a b=false) (h2 : a ≠ b) : ltB b a=true:=by
 have h3:=cmpB_neg a b
 have h4:=cmpB_lt b a
 rcases cmpB_cases a b with h | h | h
 ·rw [h,h1] at h3;simp at h3
 ·exact absurd ((cmpB_zero a b).1 h) h2
 ·cases e : ltB b a with
  | true=>rfl
  | false =>
    exfalso
    have h5 : ∀ xs ys : List Int,cmpB xs ys=1→ltB ys xs=true:=fun xs=>by
     induction xs with
     | nil=>intro ys;cases ys <;> simp [cmpB]
     | cons x xs ih =>
       intro ys
       cases ys with
       | nil=>intro _;rfl
       | cons y ys =>
         intro h
         unfold cmpB at h
         unfold ltB
         by_cases c1 : x < y
         ·rw [if_pos c1] at h;cases h
         ·rw [if_neg c1] at h
          by_cases c2 : y < x
          ·simp [c2]
          ·rw [if_neg c2] at h
           have : x=y:=by omega
           simp [this,ih ys h]
    rw [h5 a b h] at e
    cases e
def layOk (old : List Int) (most : Int) (u : Option (List Int)) (put : List Int) (r m : Nat) : Bool :=
 !((decide (0 < r) && decide (old.getD (r - 1) 0 < old.getD r 0+(m : Int))) || decide (most < old.getD r 0+(m : Int)) ||
   (match u with
     | none=>false
     | some l=>decide (l.getD r 0 < sumI (put.take r)+(m : Int))))
def prefL (put : List Int) : List Int:=(List.range put.length).map fun k=>sumI (put.take k)
def layL (most : Int) : Nat→List Int→List Int→List Int→Nat→Nat→Option (List Int)→List Int→List (List Int)
 | 0,_,_,_,_,_,_,_=>[]
 | f+1,sh,ct,old,r,left,u,put =>
   if r=sh.length then
    (if 0 < left then [] else
      match ct with
      | []=>[]
      | [_]=>[sh]
      | _ :: c :: cs=>layL most f sh (c :: cs) sh 0 c.toNat (some (prefL put)) (List.replicate sh.length 0))
   else ((List.range (left+1)).takeWhile (layOk old most u put r)).flatMap fun (m : Nat)=>layL most f (sh.set r (sh.getD r 0+(m : Int))) ct old (r+1) (left - m) u (put.set r (m : Int))
def startL (a : List Int) (rows : Nat) : List Int:=a ++ List.replicate (rows - a.length) 0
def fsL (a b : List Int) (rows : Nat) (most : Int) : List (List Int) :=
 match b with
 | []=>[startL a rows]
 | c :: cs=>layL most ((cs.length+1) * (rows+1)+1) (startL a rows) (c :: cs) (startL a rows) 0 c.toNat none (List.replicate rows 0)
def cntL (l : List (List Int)) (cs : List Cls) : List Cls:=l.foldl (fun cs c=>sumdL (shL c) 1 cs) cs
def filL (a b : List Int) (rows : Nat) (most : Int) : List Cls:=cntL (fsL a b rows most) []
theorem cntL_append (l l' : List (List Int)) (cs : List Cls) : cntL (l ++ l') cs=cntL l' (cntL l cs):=List.foldl_append
theorem takeWhile_range (p : Nat→Bool) : ∀ n m : Nat,m≤n→(∀ j,j < m→p j=true)→(m=n ∨ p m=false)→(List.range n).takeWhile p=List.range m
 | 0,m,h,_,_=>by obtain rfl : m=0:=by omega
                 rfl
 | n+1,m,h,h1,h2=>by
   rw [List.range_succ]
   by_cases e : m=n+1
   ·subst e
    rw [List.range_succ]
    have : ∀ l : List Nat,(∀ x ∈ l,p x=true)→l.takeWhile p=l:=fun l=>by
     induction l with
     | nil=>intro _;rfl
     | cons x l ih=>intro h;rw [List.takeWhile_cons_of_pos (h x List.mem_cons_self),ih fun y hy=>h y (List.mem_cons_of_mem _ hy)]
    rw [← List.range_succ]
    exact this _ fun x hx=>h1 x (List.mem_range.1 hx)
   ·have hf : p m=false:=h2.resolve_left e
    by_cases e2 : m=n
    ·subst e2
     rw [List.takeWhile_append_of_pos (fun x hx=>h1 x (List.mem_range.1 hx))]
     rw [List.takeWhile_cons_of_neg (by rw [hf];decide),List.append_nil]
    ·have ih:=takeWhile_range p n m (by omega) h1 (.inr hf)
     rw [List.takeWhile_append,ih,List.length_range,List.length_range,if_neg e2]
def squB (n k : Nat) (a : List Int) : Bool :=
 decide ((fsL a a k ((n - k : Nat) : Int)).length < 1000) && ptOk (filL a a k ((n - k : Nat) : Int)) && (filL a a k ((n - k : Nat) : Int)).all fun x=>decide (0≤x.2∧x.2 < 1000)
def squA (n : Nat) : Bool:=(List.range (n+1)).all fun k=>(ishs k (n - k)).all fun a=>squB n k a
theorem squ_dec : ∀ n : Fin 6,squA (n.val+1)=true:=by decide +kernel
theorem squ_all {n k : Nat} {a : List Int} (h1 : 1≤n) (h6 : n≤6) (hk : k≤n) (h : bxOk a k n=true) :
 (fsL a a k ((n - k : Nat) : Int)).length < 1000∧ptOk (filL a a k ((n - k : Nat) : Int))=true ∧ ∀ i,i < (filL a a k ((n - k : Nat) : Int)).length→0≤((filL a a k ((n - k : Nat) : Int)).getD i clD).2∧((filL a a k ((n - k : Nat) : Int)).getD i clD).2 < 100000000000000000:=by
 obtain ⟨m,rfl⟩ : ∃ m,n=m+1:=⟨n - 1,by omega⟩
 have hd:=squ_dec ⟨m,by omega⟩
 unfold squA at hd
 rw [List.all_eq_true] at hd
 have hd:=hd k (List.mem_range.2 (show k < m+1+1 by omega))
 rw [List.all_eq_true] at hd
 have hd:=hd a (bx_mem h hk)
 unfold squB at hd
 simp only [Bool.and_eq_true,decide_eq_true_eq,List.all_eq_true] at hd
 obtain ⟨⟨d1,d2⟩,d3⟩:=hd
 refine ⟨d1,d2,fun i hi=> ?_⟩
 have:=d3 _ (List.getElem_mem hi)
 rw [List.getD_eq_getElem?_getD,List.getElem?_eq_getElem hi,Option.getD_some]
 omega
end
section
theorem bx_dig {ys : List Int} {k n : Nat} (h : bxOk ys k n=true) (hk : k≤n) (hn : n≤7) : ∃ ns : List Nat,ys=inL ns∧(∀ x ∈ ns,x < 10)∧ns.length≤16:=by
 have h1 : shOk ys=true:=by unfold bxOk at h;simp only [Bool.and_eq_true] at h;exact h.1.1
 have h2 : ys.length≤k:=by unfold bxOk at h;simp only [Bool.and_eq_true,decide_eq_true_eq] at h;exact h.1.2
 obtain ⟨h16,_⟩:=shOk_facts h1
 have hr : ∀ x ∈ ys,0≤x∧x≤7:=fun x hx=>by
  obtain ⟨i,hi,rfl⟩:=List.getElem_of_mem hx
  have:=bx_facts h hk i (by omega)
  rw [List.getD_eq_getElem?_getD,List.getElem?_eq_getElem hi,Option.getD_some] at this
  omega
 refine ⟨ys.map Int.toNat,?_,fun x hx=> ?_,by rw [List.length_map];exact h16⟩
 ·unfold inL
  rw [List.map_map]
  symm
  rw [List.map_congr_left (g:=id) fun x hx=>by have:=hr x hx;show ((x.toNat : Nat) : Int)=x;omega,List.map_id]
 ·obtain ⟨y,hy,rfl⟩:=List.mem_map.1 hx
  have:=hr y hy
  omega
theorem fmtN_dig {x : Nat} (h : x < 10) : fmtN x=[UInt8.ofNat (48+x)]:=by
 unfold fmtN fmtF
 rw [if_pos h]
theorem fmt_dJ : ∀ {ns : List Nat},(∀ x ∈ ns,x < 10)→fmtIs (inL ns)=dJ ns
 | [],_=>rfl
 | [x],h=>by
   show Lib.join [fmtI ((x : Nat) : Int)] [32]=_
   rw [Lib.join_one]
   exact fmtN_dig (h x (by simp))
 | x :: y :: l,h=>by
   have ih:=fmt_dJ (ns:=y :: l) fun z hz=>h z (by simp only [List.mem_cons] at hz ⊢;exact .inr hz)
   have e : fmtIs (inL (x :: y :: l))=fmtI ((x : Nat) : Int) ++ [32] ++ fmtIs (inL (y :: l)):=by
    unfold fmtIs inL Lib.join
    rw [List.map_cons,List.map_cons,List.map_cons,List.map_cons]
    simp [List.intercalate,List.intersperse]
   rw [e,ih,show fmtI ((x : Nat) : Int)=fmtN x from rfl,fmtN_dig (h x (by simp))]
   rfl
theorem box_ok {ys : List Int} {k n : Nat} (h : bxOk ys k n=true) (hk : k≤n) (h1 : 1≤n) (h7 : n≤7) : boxOk ys (k : Int) (n : Int)=true:=by
 unfold boxOk
 rw [Bool.and_eq_true]
 exact ⟨by rw [decide_eq_true_eq];omega,h⟩
end
section
open Go.RowKit
theorem exec_word (v : Value) (xs ys : List Int) (cs : List Cls) (K N : Int) (line : List UInt8) (w : World) (h : SesR w v xs cs ys K N) (hok : sessOk xs cs ys K N=true) (hl : cs.length≤100) (hx : xs.length≤1000) (hy : ys.length≤1000) (hp : ∀ i,i < cs.length→(cs.getD i clD).1.length≤1000)
 (hcut : Lib.cut line [32]=(line,[],false)) (hls : line.length≤1000) (R : ByteArray→Prop) (xs' ys' : List Int) (cs' : List Cls) (K' N' : Int)
 (hC : ∀ u W,SesT W u xs cs ys K N→Calls Tryz.prog 58 #[u,.string (bytA line)] W fun e w'=> ∃ u' s,e=.returned (.tuple #[u',.string s])∧R s∧SesT w' u' xs' cs' ys' K' N'∧Below W.heap.size W w') :
 Calls Tryz.prog 30 #[v,.string (bytA line)] w fun e w'=> ∃ u' s,e=.returned (.tuple #[u',.string s])∧R s∧SesT w' u' xs' cs' ys' K' N'∧Below w.heap.size w w':=by
 have HS:=Lib.hid h
 have HC:=Lib.hid hC
 have H1:=Lib.hid (fun u (hu : Below w.heap.size w u)=>copySession_any v xs ys cs K N u (h.below hu) hl hx hy hp)
 have H3:=Lib.hid (fun u=>Cut_any (bytA line) 32 u (by show line.length≤_;omega))
 rw [show (bytA line).data.toList=line from rfl,hcut] at H3
 have Hok:=Lib.hid hok
 obtain ⟨st,hst⟩ : ∃ st,st=bytA line:=⟨_,rfl⟩
 rw [← hst] at H3 HC ⊢
 obtain ⟨pp,pk,cp,ck,sp,sk,rfl,_,_,_⟩:=h.open
 clear hC h hl hx hy hp hcut hls hok hst
 obtain ⟨z1,z2⟩:=box5_two w 61 (.slice pp xs.length pk) (.slice cp cs.length ck) (.slice sp ys.length sk) (.int .i64 K) (.int .i64 N) (.slice none 0 0) (.slice none 0 0) (.slice none 0 0) (.int .i64 0) (.int .i64 0)
 have Z1:=Lib.hid z1
 have Z2:=Lib.hid z2
 have HB0:=Lib.hid (below_alloc2 w (.cells #[.slice pp xs.length pk,.slice cp cs.length ck,.slice sp ys.length sk,.int .i64 K,.int .i64 N] 61) (.cells #[.slice none 0 0,.slice none 0 0,.slice none 0 0,.int .i64 0,.int .i64 0] 61))
 obtain ⟨W2,hW2⟩ : ∃ W2,W2=((w.alloc (.cells #[.slice pp xs.length pk,.slice cp cs.length ck,.slice sp ys.length sk,.int .i64 K,.int .i64 N] 61)).alloc (.cells #[.slice none 0 0,.slice none 0 0,.slice none 0 0,.int .i64 0,.int .i64 0] 61)):=⟨_,rfl⟩
 rw [← hW2] at Z1 Z2 HB0
 have HW2:=Lib.hid hW2
 clear z1 z2 hW2
 obtain ⟨c0,c1,c2,c3,c4,cf,hz⟩:=blk5s Z1.out
 go_enter Tryz.func30,Tryz.ntmps30
 go_wp2_with fail
 rw [← HW2.out]
 go_wp2_with fail
 refine (H1.out _ HB0.out).mono ?_
 rintro e w3 ⟨u1,rfl,hs1,hb3⟩
 obtain ⟨p1,k1,p2,k2,p3,k3,rfl,_,_,_⟩:=hs1.open
 have HS1:=Lib.hid hs1
 have HB3:=Lib.hid (HB0.out.trans (hb3.mono HB0.out.size))
 have Z1':=Lib.hid (blk_later Z1.out hb3)
 have Z2':=Lib.hid (blk_later Z2.out hb3)
 clear hs1 hb3 c0 c1 c2 c3 c4 cf hz
 obtain ⟨c0,c1,c2,c3,c4,cf,hz⟩:=blk5s Z1'.out
 go_wp2_with fail
 obtain ⟨W4,hW4⟩ : ∃ W4,W4=((((w3.setCell ⟨w.heap.size,0,none⟩ (.slice p1 xs.length k1)).setCell ⟨w.heap.size,1,none⟩ (.slice p2 cs.length k2)).setCell ⟨w.heap.size,2,none⟩ (.slice p3 ys.length k3)).setCell ⟨w.heap.size,3,none⟩ (.int .i64 K)).setCell ⟨w.heap.size,4,none⟩ (.int .i64 N):=⟨_,rfl⟩
 have HS4:=Lib.hid (show SesT W4 _ xs cs ys K N by rw [hW4];exact HS1.out.ag (AgT.box5 Z1'.out _ _ _ _ _))
 have HB4:=Lib.hid (show Below w.heap.size w W4 by rw [hW4];exact below_set5 HB3.out (Nat.le_refl _) _ _ _ _ _)
 have Z1n:=Lib.hid (show W4.heap[w.heap.size]?=some (.cells #[.slice p1 xs.length k1,.slice p2 cs.length k2,.slice p3 ys.length k3,.int .i64 K,.int .i64 N] 61 (0,0)) by rw [hW4];exact set5_all Z1'.out _ _ _ _ _)
 have Z2n:=Lib.hid (show W4.heap[w.heap.size+1]?=some (.cells #[.slice none 0 0,.slice none 0 0,.slice none 0 0,.int .i64 0,.int .i64 0] 61 (0,0)) by rw [hW4];exact (heap_box5 (by omega) _ _ _ _ _).trans Z2'.out)
 rw [← hW4]
 clear hW4 c0 c1 c2 c3 c4 cf hz
 have HO:=Lib.hid (fun u (hu : Below W4.heap.size W4 u)=>Hok.out ▸ implSessionOk_any (.slice p1 xs.length k1) (.slice p2 cs.length k2) (.slice p3 ys.length k3) xs ys cs K N u ((HS4.out.below hu).parts.1) ((HS4.out.below hu).parts.2.1) ((HS4.out.below hu).parts.2.2))
 obtain ⟨c0,c1,c2,c3,c4,cf,hz⟩:=blk5s Z1n.out
 go_wp2_with fail
 refine (HO.out _ (Below.refl _ _)).mono ?_
 rintro e w5 ⟨rfl,hb5⟩
 have HB5:=Lib.hid (HB4.out.trans (hb5.mono HB4.out.size))
 have Z1p:=Lib.hid (blk_later Z1n.out hb5)
 have Z2p:=Lib.hid (blk_later Z2n.out hb5)
 have HS5:=Lib.hid (HS4.out.below hb5)
 clear hb5 c0 c1 c2 c3 c4 cf hz
 go_wp2_with fail
 refine (H3.out _).mono ?_
 rintro e w6 ⟨rfl,nq,rfl⟩
 have hqb : Below w5.heap.size w5 (w5.drewN nq):=Below.of_drewN _ _
 have HB6:=Lib.hid (HB5.out.trans (hqb.mono HB5.out.size))
 have Z1q:=Lib.hid (blk_later Z1p.out hqb)
 have Z2q:=Lib.hid (blk_later Z2p.out hqb)
 have HS6:=Lib.hid (HS5.out.below hqb)
 clear hqb
 generalize w5.drewN nq=w6 at *
 obtain ⟨c0,c1,c2,c3,c4,cf,hz⟩:=blk5s Z1q.out
 go_wp2_with fail
 refine (HC.out _ _ HS6.out).mono ?_
 rintro e w7 ⟨u',s,rfl,hR,hs7,hb7⟩
 obtain ⟨q1,l1,q2,l2,q3,l3,rfl,_,_,_⟩:=hs7.open
 have HR:=Lib.hid hR
 have HS7:=Lib.hid hs7
 have HB7:=Lib.hid (HB6.out.trans (hb7.mono HB6.out.size))
 have Z2r:=Lib.hid (blk_later Z2q.out hb7)
 clear hR hs7 hb7 c0 c1 c2 c3 c4 cf hz
 obtain ⟨e0,e1,e2,e3,e4,ef,ez⟩:=blk5s Z2r.out
 go_wp2_with fail
 clear e0 e1 e2 e3 e4 ef
 have hz6:=set5_all Z2r.out (.slice q1 xs'.length l1) (.slice q2 cs'.length l2) (.slice q3 ys'.length l3) (.int .i64 K') (.int .i64 N')
 have HB8:=Lib.hid (below_set5 HB7.out (show w.heap.size≤w.heap.size+1 by omega) (.slice q1 xs'.length l1) (.slice q2 cs'.length l2) (.slice q3 ys'.length l3) (.int .i64 K') (.int .i64 N'))
 have HS8:=Lib.hid (HS7.out.ag (AgT.box5 Z2r.out (.slice q1 xs'.length l1) (.slice q2 cs'.length l2) (.slice q3 ys'.length l3) (.int .i64 K') (.int .i64 N')))
 obtain ⟨f0,f1,f2,f3,f4,ff,fz⟩:=blk5s hz6
 refine bodyPost_ret (v:=.tuple #[.agg #[.slice q1 xs'.length l1,.slice q2 cs'.length l2,.slice q3 ys'.length l3,.int .i64 K',.int .i64 N'],.string s]) (by simp [results,Tryz.results30,go_sem,f0,f1,f2,f3,f4,fz]) rfl ⟨_,s,rfl,HR.out,HS8.out,HB8.out⟩
theorem exec_text (v : Value) (xs ys : List Int) (cs : List Cls) (K N : Int) (line wd tx : List UInt8) (w : World) (h : SesR w v xs cs ys K N) (hok : sessOk xs cs ys K N=true) (hl : cs.length≤100) (hx : xs.length≤1000) (hy : ys.length≤1000) (hp : ∀ i,i < cs.length→(cs.getD i clD).1.length≤1000)
 (hcut : Lib.cut line [32]=(wd,tx,true)) (hls : line.length≤1000) (R : ByteArray→Prop) (xs' ys' : List Int) (cs' : List Cls) (K' N' : Int)
 (hC : ∀ u W,SesT W u xs cs ys K N→Calls Tryz.prog 57 #[u,.string (bytA wd),.string (bytA tx)] W fun e w'=> ∃ u' s,e=.returned (.tuple #[u',.string s])∧R s∧SesT w' u' xs' cs' ys' K' N'∧Below W.heap.size W w') :
 Calls Tryz.prog 30 #[v,.string (bytA line)] w fun e w'=> ∃ u' s,e=.returned (.tuple #[u',.string s])∧R s∧SesT w' u' xs' cs' ys' K' N'∧Below w.heap.size w w':=by
 have HS:=Lib.hid h
 have HC:=Lib.hid hC
 have H1:=Lib.hid (fun u (hu : Below w.heap.size w u)=>copySession_any v xs ys cs K N u (h.below hu) hl hx hy hp)
 have H3:=Lib.hid (fun u=>Cut_any (bytA line) 32 u (by show line.length≤_;omega))
 rw [show (bytA line).data.toList=line from rfl,hcut] at H3
 have Hok:=Lib.hid hok
 obtain ⟨st,hst⟩ : ∃ st,st=bytA line:=⟨_,rfl⟩
 rw [← hst] at H3 ⊢
 obtain ⟨pp,pk,cp,ck,sp,sk,rfl,_,_,_⟩:=h.open
 clear hC h hl hx hy hp hcut hls hok hst
 obtain ⟨z1,z2⟩:=box5_two w 61 (.slice pp xs.length pk) (.slice cp cs.length ck) (.slice sp ys.length sk) (.int .i64 K) (.int .i64 N) (.slice none 0 0) (.slice none 0 0) (.slice none 0 0) (.int .i64 0) (.int .i64 0)
 have Z1:=Lib.hid z1
 have Z2:=Lib.hid z2
 have HB0:=Lib.hid (below_alloc2 w (.cells #[.slice pp xs.length pk,.slice cp cs.length ck,.slice sp ys.length sk,.int .i64 K,.int .i64 N] 61) (.cells #[.slice none 0 0,.slice none 0 0,.slice none 0 0,.int .i64 0,.int .i64 0] 61))
 obtain ⟨W2,hW2⟩ : ∃ W2,W2=((w.alloc (.cells #[.slice pp xs.length pk,.slice cp cs.length ck,.slice sp ys.length sk,.int .i64 K,.int .i64 N] 61)).alloc (.cells #[.slice none 0 0,.slice none 0 0,.slice none 0 0,.int .i64 0,.int .i64 0] 61)):=⟨_,rfl⟩
 rw [← hW2] at Z1 Z2 HB0
 have HW2:=Lib.hid hW2
 clear z1 z2 hW2
 obtain ⟨c0,c1,c2,c3,c4,cf,hz⟩:=blk5s Z1.out
 go_enter Tryz.func30,Tryz.ntmps30
 go_wp2_with fail
 rw [← HW2.out]
 go_wp2_with fail
 refine (H1.out _ HB0.out).mono ?_
 rintro e w3 ⟨u1,rfl,hs1,hb3⟩
 obtain ⟨p1,k1,p2,k2,p3,k3,rfl,_,_,_⟩:=hs1.open
 have HS1:=Lib.hid hs1
 have HB3:=Lib.hid (HB0.out.trans (hb3.mono HB0.out.size))
 have Z1':=Lib.hid (blk_later Z1.out hb3)
 have Z2':=Lib.hid (blk_later Z2.out hb3)
 clear hs1 hb3 c0 c1 c2 c3 c4 cf hz
 obtain ⟨c0,c1,c2,c3,c4,cf,hz⟩:=blk5s Z1'.out
 go_wp2_with fail
 obtain ⟨W4,hW4⟩ : ∃ W4,W4=((((w3.setCell ⟨w.heap.size,0,none⟩ (.slice p1 xs.length k1)).setCell ⟨w.heap.size,1,none⟩ (.slice p2 cs.length k2)).setCell ⟨w.heap.size,2,none⟩ (.slice p3 ys.length k3)).setCell ⟨w.heap.size,3,none⟩ (.int .i64 K)).setCell ⟨w.heap.size,4,none⟩ (.int .i64 N):=⟨_,rfl⟩
 have HS4:=Lib.hid (show SesT W4 _ xs cs ys K N by rw [hW4];exact HS1.out.ag (AgT.box5 Z1'.out _ _ _ _ _))
 have HB4:=Lib.hid (show Below w.heap.size w W4 by rw [hW4];exact below_set5 HB3.out (Nat.le_refl _) _ _ _ _ _)
 have Z1n:=Lib.hid (show W4.heap[w.heap.size]?=some (.cells #[.slice p1 xs.length k1,.slice p2 cs.length k2,.slice p3 ys.length k3,.int .i64 K,.int .i64 N] 61 (0,0)) by rw [hW4];exact set5_all Z1'.out _ _ _ _ _)
 have Z2n:=Lib.hid (show W4.heap[w.heap.size+1]?=some (.cells #[.slice none 0 0,.slice none 0 0,.slice none 0 0,.int .i64 0,.int .i64 0] 61 (0,0)) by rw [hW4];exact (heap_box5 (by omega) _ _ _ _ _).trans Z2'.out)
 rw [← hW4]
 clear hW4 c0 c1 c2 c3 c4 cf hz
 have HO:=Lib.hid (fun u (hu : Below W4.heap.size W4 u)=>Hok.out ▸ implSessionOk_any (.slice p1 xs.length k1) (.slice p2 cs.length k2) (.slice p3 ys.length k3) xs ys cs K N u ((HS4.out.below hu).parts.1) ((HS4.out.below hu).parts.2.1) ((HS4.out.below hu).parts.2.2))
 obtain ⟨c0,c1,c2,c3,c4,cf,hz⟩:=blk5s Z1n.out
 go_wp2_with fail
 refine (HO.out _ (Below.refl _ _)).mono ?_
 rintro e w5 ⟨rfl,hb5⟩
 have HB5:=Lib.hid (HB4.out.trans (hb5.mono HB4.out.size))
 have Z1p:=Lib.hid (blk_later Z1n.out hb5)
 have Z2p:=Lib.hid (blk_later Z2n.out hb5)
 have HS5:=Lib.hid (HS4.out.below hb5)
 clear hb5 c0 c1 c2 c3 c4 cf hz
 go_wp2_with fail
 refine (H3.out _).mono ?_
 rintro e w6 ⟨rfl,nq,rfl⟩
 have hqb : Below w5.heap.size w5 (w5.drewN nq):=Below.of_drewN _ _
 have HB6:=Lib.hid (HB5.out.trans (hqb.mono HB5.out.size))
 have Z1q:=Lib.hid (blk_later Z1p.out hqb)
 have Z2q:=Lib.hid (blk_later Z2p.out hqb)
 have HS6:=Lib.hid (HS5.out.below hqb)
 clear hqb
 generalize w5.drewN nq=w6 at *
 obtain ⟨c0,c1,c2,c3,c4,cf,hz⟩:=blk5s Z1q.out
 go_wp2_with fail
 refine (HC.out _ _ HS6.out).mono ?_
 rintro e w7 ⟨u',s,rfl,hR,hs7,hb7⟩
 obtain ⟨q1,l1,q2,l2,q3,l3,rfl,_,_,_⟩:=hs7.open
 have HR:=Lib.hid hR
 have HS7:=Lib.hid hs7
 have HB7:=Lib.hid (HB6.out.trans (hb7.mono HB6.out.size))
 have Z2r:=Lib.hid (blk_later Z2q.out hb7)
 clear hR hs7 hb7 c0 c1 c2 c3 c4 cf hz
 obtain ⟨e0,e1,e2,e3,e4,ef,ez⟩:=blk5s Z2r.out
 go_wp2_with fail
 clear e0 e1 e2 e3 e4 ef
 have hz6:=set5_all Z2r.out (.slice q1 xs'.length l1) (.slice q2 cs'.length l2) (.slice q3 ys'.length l3) (.int .i64 K') (.int .i64 N')
 have HB8:=Lib.hid (below_set5 HB7.out (show w.heap.size≤w.heap.size+1 by omega) (.slice q1 xs'.length l1) (.slice q2 cs'.length l2) (.slice q3 ys'.length l3) (.int .i64 K') (.int .i64 N'))
 have HS8:=Lib.hid (HS7.out.ag (AgT.box5 Z2r.out (.slice q1 xs'.length l1) (.slice q2 cs'.length l2) (.slice q3 ys'.length l3) (.int .i64 K') (.int .i64 N')))
 obtain ⟨f0,f1,f2,f3,f4,ff,fz⟩:=blk5s hz6
 refine bodyPost_ret (v:=.tuple #[.agg #[.slice q1 xs'.length l1,.slice q2 cs'.length l2,.slice q3 ys'.length l3,.int .i64 K',.int .i64 N'],.string s]) (by simp [results,Tryz.results30,go_sem,f0,f1,f2,f3,f4,fz]) rfl ⟨_,s,rfl,HR.out,HS8.out,HB8.out⟩
theorem blk5 {w : World} {b : Nat} {x0 x1 x2 x3 x4 : Value} {T : TypeId} (h : w.heap[b]?=some (.cells #[x0,x1,x2,x3,x4] T (0,0))) :
 w.cell? ⟨b,0,none⟩=some x0∧w.cell? ⟨b,1,none⟩=some x1∧w.cell? ⟨b,2,none⟩=some x2∧w.cell? ⟨b,3,none⟩=some x3∧w.cell? ⟨b,4,none⟩=some x4∧(∀ j,w.frozen? ⟨b,j,none⟩=false)∧b < w.heap.size :=
 ⟨cell_of_blk h rfl,cell_of_blk h rfl,cell_of_blk h rfl,cell_of_blk h rfl,cell_of_blk h rfl,free_of_blk h,blk_lt h⟩
theorem implNewSession_any (w : World) :
 Calls Tryz.prog 29 #[] w fun e w'=> ∃ u,e=.returned (.agg #[u,.slice none 0 0,.slice none 0 0,.int .i64 2,.int .i64 4])∧OwnI 3 w' w.heap.size w'.heap.size u [0]∧Below w.heap.size w w':=by
 go_enter Tryz.func29,Tryz.ntmps29
 go_wp2
 have hz : ∀ A B : Obj,((w.alloc A).alloc B).heap[w.heap.size]?=some A:=fun A B=>(heap_alloc_low _ _ (by simp)).trans (heap_alloc_top _ _)
 obtain ⟨c0,c1,c2,c3,c4,_,hz0⟩:=blk5 (hz (.cells #[.slice (some ⟨w.heap.size+1,0,none⟩) 1 1,.slice none 0 0,.slice none 0 0,.int .i64 2,.int .i64 4] 61) (.cells #[.int .i64 0] 3))
 refine bodyPost_ret (v:=.agg #[.slice (some ⟨w.heap.size+1,0,none⟩) 1 1,.slice none 0 0,.slice none 0 0,.int .i64 2,.int .i64 4]) (by simp [results,Tryz.results29,go_sem,c0,c1,c2,c3,c4]) rfl ⟨_,rfl,?_,?_⟩
 ·refine (rowIs_ints (xs:=[0]) ⟨#[.int .i64 0],heap_alloc_at _ _ (by simp),rfl,fun i hi=> ?_⟩ (by decide)).mono (by simp) (Nat.le_refl _)
  obtain rfl : i=0:=by simpa using hi
  rfl
 ·exact below_alloc2 _ _ _
theorem ownF_kindR {T : TypeId} {w : World} {lo hi : Nat} {v : Value} {n : Nat} {f : Nat→Value} (h : OwnF w lo hi T v n f) : ∀ g,v.ownBlock=some g → ∃ c fz,w.heap[g]?=some (.cells c T fz):=by
 obtain ⟨xs,h,_⟩:=h
 exact Lib.ownsRow_kind h.1
theorem ownF_keepR {T : TypeId} {w w' : World} {lo hi n : Nat} {v : Value} {f : Nat→Value} (h : OwnF w lo hi T v n f) (hb : ∀ k,v.ownBlock=some k→w'.heap[k]?=w.heap[k]?) : OwnF w' lo hi T v n f:=by
 obtain ⟨xs,h,hf⟩:=h
 exact ⟨xs,⟨ownsRow_of_block h.1 hb,h.2⟩,hf⟩
theorem RunSession_any (v : Value) (L : List (List UInt8)) (w : World) (h : Rd w v L.length (strV L)) (hm : L.length≤60) (X Y : Nat→List Int) (C : Nat→List Cls) (K N : Nat→Int) (T : Nat→ByteArray→Prop)
 (hX : X 0=[0]) (hC : C 0=[]) (hY : Y 0=[]) (hK : K 0=2) (hN : N 0=4)
 (hE : ∀ j,j < L.length → ∀ u W,SesT W u (X j) (C j) (Y j) (K j) (N j)→Calls Tryz.prog 30 #[u,strV L j] W fun e w'=> ∃ u' s,e=.returned (.tuple #[u',.string s])∧T j s∧SesT w' u' (X (j+1)) (C (j+1)) (Y (j+1)) (K (j+1)) (N (j+1))∧Below W.heap.size W w') :
 Calls Tryz.prog 8 #[v] w fun e w'=> ∃ u S,e=.returned u∧S.length=L.length∧OwnSt w' w.heap.size w'.heap.size u S∧(∀ j,j < L.length→T j (bytA (S.getD j [])))∧Below w.heap.size w w':=by
 obtain ⟨p,cap,rfl,⟨hx1,hx2⟩,hxc⟩:=h
 unfold maxLen at hx2
 have HE:=Lib.hid hE
 have Hxc:=Lib.hid hxc
 have hH0:=Lib.hid (And.intro hX (And.intro hC (And.intro hY (And.intro hK hN))))
 clear hE hxc hX hC hY hK hN
 have e1 : decide ((60 : Int) < (L.length : Int))=false:=by rw [decide_eq_false_iff_not];omega
 have HN:=Lib.hid (fun w=>implNewSession_any w)
 go_enter Tryz.func8,Tryz.ntmps8
 go_wp2_with fail
 have HO0:=Lib.hid (OwnSt.made0 w)
 refine (HN.out _).mono ?_
 rintro e w1 ⟨u0,rfl,ho1,hb1⟩
 have HS1:=Lib.hid (show SesT w1 (.agg #[u0,.slice none 0 0,.slice none 0 0,.int .i64 2,.int .i64 4]) [0] [] [] 2 4 from ⟨_,_,_,rfl,IntsT.of_own ho1,RdClT.of_own (OwnCd.nil w1 0 0).cl,IntsT.nil w1⟩)
 obtain ⟨p0,k0,rfl,_,_⟩:=ho1.shape
 have HB1:=Lib.hid ((below_alloc w (.cells #[] 9)).trans (hb1.mono (below_alloc w _).size))
 have HO1:=Lib.hid (show OwnSt w1 w.heap.size w1.heap.size (.slice (some ⟨w.heap.size,0,none⟩) 0 0) [] from OwnF.mono (OwnF.below HO0.out hb1) (Nat.le_refl _) (by have:=hb1.size;rw [size_alloc] at this;exact this))
 clear ho1 hb1 HO0
 obtain ⟨c0,c1,c2,c3,c4,cf,hz⟩:=blk5s (heap_alloc_top w1 (.cells #[.slice none 0 0,.slice none 0 0,.slice none 0 0,.int .i64 0,.int .i64 0] 61))
 go_wp2_with fail
 have ZB:=Lib.hid (heap_alloc_top w1 (.cells #[.slice p0 1 k0,.slice none 0 0,.slice none 0 0,.int .i64 2,.int .i64 4] 61))
 have hba:=below_alloc w1 (.cells #[.slice p0 1 k0,.slice none 0 0,.slice none 0 0,.int .i64 2,.int .i64 4] 61)
 generalize hW2 : w1.alloc (.cells #[.slice p0 1 k0,.slice none 0 0,.slice none 0 0,.int .i64 2,.int .i64 4] 61)=W2 at *
 have HSs:=Lib.hid (show w.heap.size≤w1.heap.size∧W2.heap.size=w1.heap.size+1 from ⟨by have:=HB1.out.size;omega,by rw [← hW2,size_alloc]⟩)
 have HB2:=Lib.hid (HB1.out.trans (hba.mono HB1.out.size))
 have HO2:=Lib.hid (show OwnSt W2 w.heap.size W2.heap.size (.slice (some ⟨w.heap.size,0,none⟩) 0 0) [] from OwnF.mono (OwnF.below HO1.out hba) (Nat.le_refl _) hba.size)
 have HS2:=Lib.hid (HS1.out.below hba)
 clear hW2 hba c0 c1 c2 c3 c4 cf hz
 go_loopg [3,6,7,8,17] L.length (fun g s3 s6 s7 s8 s17 wr=> ∃ (k : Nat) (S : List (List UInt8)) (x0 x1 x2 x3 x4 : Value),k≤L.length∧g=L.length - k∧s17=.int .i64 (k : Int)∧S.length=k∧Hid (∀ j,j < k→T j (bytA (S.getD j [])))∧Hid (OwnSt wr w.heap.size wr.heap.size s3 S)∧Hid (wr.heap[w1.heap.size]?=some (.cells #[x0,x1,x2,x3,x4] 61 (0,0)))∧Hid (SesT wr (.agg #[x0,x1,x2,x3,x4]) (X k) (C k) (Y k) (K k) (N k))∧Hid (Below w.heap.size w wr)∧w1.heap.size < wr.heap.size)
 case atStart =>
  obtain ⟨hX,hC,hY,hK,hN⟩:=hH0.out
  exact ⟨0,[],_,_,_,_,_,Nat.zero_le _,rfl,rfl,rfl,fun j hj=>absurd hj (Nat.not_lt_zero _),HO2.out,ZB.out,by rw [hX,hC,hY,hK,hN];exact HS2.out,HB2.out,by have:=HSs.out;omega⟩
 case round =>
  obtain ⟨k,S,x0,x1,x2,x3,x4,hk,rfl,rfl,hS,hT,hO,hZ,hs,hB,hsz⟩:=hrel
  obtain ⟨wo,rfl⟩ : ∃ x : World,x=wr:=⟨_,rfl⟩
  have HT:=Lib.hid hT.out
  have HO:=Lib.hid hO.out
  have HZ:=Lib.hid hZ.out
  have HS:=Lib.hid hs.out
  have HB:=Lib.hid hB.out
  have Hlen:=Lib.hid hS
  clear hT hO hZ hs hB hS
  obtain ⟨p3,k3,e3,_,_⟩:=HO.out.shape
  subst e3
  have HOo:=HO.out
  unfold OwnSt at HOo
  rw [Hlen.out] at HOo ⊢
  have HOp:=Lib.hid HOo
  clear HOo
  by_cases hlt : k < L.length
  ·obtain ⟨b,off,rfl,hc⟩:=Hxc.out (by omega)
   have c1:=cell_below HB.out (hc k hlt)
   have HEk:=Lib.hid (HE.out k hlt)
   obtain ⟨ln,hln⟩ : ∃ ln,ln=bytA (L.getD k []):=⟨_,rfl⟩
   rw [show strV L k=.string ln by rw [hln];rfl] at c1 HEk
   obtain ⟨d0,d1,d2,d3,d4,df,dz⟩:=blk5s HZ.out
   have hkz : (k : Int) < (L.length : Int):=by omega
   clear hc hln
   go_wp2_with fail
   refine (HEk.out _ wo HS.out).mono ?_
   rintro e w3 ⟨u',sx,rfl,hT3,hs3,hb3⟩
   obtain ⟨q1,l1,q2,l2,q3,l3,rfl,_,_,_⟩:=hs3.open
   have HT3:=Lib.hid hT3
   have HS3:=Lib.hid hs3
   have HB3:=Lib.hid (HB.out.trans (hb3.mono HB.out.size))
   have Hb3:=Lib.hid hb3
   have HZ3:=Lib.hid (blk_later HZ.out hb3)
   clear hT3 hs3 hb3 d0 d1 d2 d3 d4 df dz c1
   obtain ⟨d0,d1,d2,d3,d4,df,dz⟩:=blk5s HZ3.out
   obtain ⟨W5,hW5⟩ : ∃ W5,W5=(((((w3.setCell ⟨w1.heap.size,0,none⟩ (.slice q1 (X (k+1)).length l1)).setCell ⟨w1.heap.size,1,none⟩ (.slice q2 (C (k+1)).length l2)).setCell ⟨w1.heap.size,2,none⟩ (.slice q3 (Y (k+1)).length l3)).setCell ⟨w1.heap.size,3,none⟩ (.int .i64 (K (k+1)))).setCell ⟨w1.heap.size,4,none⟩ (.int .i64 (N (k+1)))).alloc (.cells #[.slice q1 (X (k+1)).length l1,.slice q2 (C (k+1)).length l2,.slice q3 (Y (k+1)).length l3,.int .i64 (K (k+1)),.int .i64 (N (k+1))] 61):=⟨_,rfl⟩
   have HW5:=Lib.hid hW5
   have h53 : ∀ j,j ≠ w1.heap.size→j < w3.heap.size→W5.heap[j]?=w3.heap[j]?:=fun j hj hl=>by
    rw [hW5,heap_alloc_low _ _ (by simpa [World.setCell] using hl)]
    exact heap_box5 hj _ _ _ _ _
   have hs5 : W5.heap.size=w3.heap.size+1:=by rw [hW5];simp [World.setCell]
   have HZ5:=Lib.hid (show W5.heap[w1.heap.size]?=some (.cells #[.slice q1 (X (k+1)).length l1,.slice q2 (C (k+1)).length l2,.slice q3 (Y (k+1)).length l3,.int .i64 (K (k+1)),.int .i64 (N (k+1))] 61 (0,0)) by
    rw [hW5,heap_alloc_low _ _ (by have:=blk_lt HZ3.out;simpa [World.setCell] using this)]
    exact set5_all HZ3.out _ _ _ _ _)
   have HB5:=Lib.hid (show Below w.heap.size w W5 by
    rw [hW5]
    exact (below_set5 HB3.out (HSs.out.1) _ _ _ _ _).alloc (by have:=HB3.out.size;simpa [World.setCell] using this) _)
   have HA5:=Lib.hid (show AgT w3 W5 by
    rw [hW5]
    exact (AgT.box5 HZ3.out _ _ _ _ _).trans (AgT.of_below (below_alloc _ _)))
   have HO5:=Lib.hid (show OwnF W5 w.heap.size wo.heap.size 9 (.slice p3 k k3) k (strV S) from by
    have h3:=OwnF.below HOp.out Hb3.out
    refine ownF_keepR h3 fun j hj=> ?_
    have hk3:=ownF_kindR h3 j hj
    exact h53 j (fun e=>by subst e;exact ne_of_kinds hk3 ⟨_,_,HZ3.out⟩ (by decide)) (by obtain ⟨_,_,e⟩:=hk3;exact blk_lt e))
   have Hs5:=Lib.hid (show wo.heap.size≤W5.heap.size∧w.heap.size≤W5.heap.size from ⟨by have:=Hb3.out.size;omega,HB5.out.size⟩)
   have Hs5b:=Lib.hid hs5
   clear hW5 h53 hs5
   go_wp2_with (at_builtin;rw [← HW5.out];go_must (refine wpList_append_F rfl (.tmp 28) (.tmp 30) 30 rfl 9 (.string ByteArray.empty) 16 Tryz.underlying30 info_str rfl w.heap.size W5.heap.size _ k (strV S) rfl ((HO5.out.mono (Nat.le_refl _) Hs5.out.1).below (below_alloc W5 _)) (by rw [size_alloc];have:=Hs5.out.2;omega) (by rw [size_alloc];omega) _ 1 _ rfl (rd_one _ _ _ Hs5b.out.symm) (fun j _=>rfl) (by unfold maxLen;omega) (by omega) ?_;intro v2 w6 ho2 hg2))
   have hal:=below_alloc W5 (.cells #[.string sx] 9)
   have hbB : Below w.heap.size (W5.alloc (.cells #[.string sx] 9)) w6:=grownBy_below hg2 HO5.out.blocks (Nat.le_refl _) (by rw [size_alloc];have:=Hs5.out.2;omega)
   have HO6:=Lib.hid (show OwnSt w6 w.heap.size w6.heap.size v2 (S ++ [sx.data.toList]) from OwnSt.snoc (by rw [Hlen.out,data_bytA];exact ho2))
   have HB6:=Lib.hid ((HB5.out.trans (hal.mono HB5.out.size)).trans hbB)
   have hstr : ∀ j,Value.ownBlock (.slice p3 k k3)=some j → ∃ (cc : Array Value) (T : TypeId) (fz : Nat × Nat),(W5.alloc (.cells #[.string sx] 9)).heap[j]?=some (Obj.cells cc T fz)∧T ≠ 3∧T ≠ 42:=fun j hj=>by
    obtain ⟨cc,fz,e⟩:=ownF_kindR (HO5.out.below hal) j hj
    exact ⟨cc,_,fz,e,by decide,by decide⟩
   have HA6:=Lib.hid ((HA5.out.trans (AgT.of_below hal)).trans (AgT.of_grown hg2 hstr))
   have HZ6:=Lib.hid ((hg2.block w1.heap.size (blk_lt (blk_later HZ5.out hal)) (fun e=>ne_of_kinds (ownF_kindR (HO5.out.below hal) _ e.symm) ⟨_,_,blk_later HZ5.out hal⟩ (by decide))).trans (blk_later HZ5.out hal))
   have hs6:=blk_lt HZ6.out
   have HT6:=Lib.hid (show ∀ j,j < k+1→T j (bytA ((S ++ [sx.data.toList]).getD j [])) from fun j hj=>by
    by_cases h : j < k
    ·have:=HT.out j h
     rwa [show (S ++ [sx.data.toList]).getD j []=S.getD j [] by simp [List.getD_eq_getElem?_getD,List.getElem?_append_left (show j < S.length by rw [Hlen.out];exact h)]]
    ·obtain rfl : j=k:=by omega
     rw [show (S ++ [sx.data.toList]).getD j []=sx.data.toList by rw [← Hlen.out];simp [List.getD_eq_getElem?_getD],data_bytA]
     exact HT3.out)
   have HS6:=Lib.hid (HS3.out.ag HA6.out)
   have Hl6:=Lib.hid (show (S ++ [sx.data.toList]).length=k+1 by rw [List.length_append,Hlen.out];rfl)
   clear ho2 hg2 hbB hal hstr d0 d1 d2 d3 d4 df dz
   go_wp2_with fail
   go_roundg (L.length - (k+1))
   case measure=>omega
   case rel=>exact ⟨k+1,_,_,_,_,_,_,by omega,rfl,by go_num,Hl6.out,HT6.out,HO6.out,HZ6.out,HS6.out,HB6.out,hs6⟩
  ·obtain rfl : k=L.length:=by omega
   go_wp2_with fail
   go_ret
   refine ⟨_,S,rfl,Hlen.out,?_,HT.out,HB.out⟩
   have:=HO.out
   rw [Hlen.out] at this
   exact this
theorem rd_cl1 {W : World} {b : Nat} {v : Value} {t : List Int} {c : Int} {T : TypeId} (hz : W.heap[b]?=some (.cells #[v,.int .i64 c] T (0,0))) (hv : Ints W v t) : RdCl W (.slice (some ⟨b,0,none⟩) 1 1) [(t,c)]:=by
 refine ⟨fun _=>v,⟨_,_,rfl,⟨Nat.le_refl _,by unfold maxLen;simp⟩,fun _=>⟨b,rfl,fun i hi j hj=> ?_⟩⟩,fun i hi=> ?_⟩
 ·obtain rfl : i=0:=by simp at hi;exact hi
  match j,hj with
  | 0,_=>exact cell_of_blk hz (j:=0) rfl
  | 1,_=>exact cell_of_blk hz (j:=1) rfl
 ·obtain rfl : i=0:=by simp at hi;exact hi
  exact hv
theorem rd_cl1T {W : World} {b : Nat} {v : Value} {t : List Int} {c : Int} (hz : W.heap[b]?=some (.cells #[v,.int .i64 c] 42 (0,0))) (hv : IntsT W v t) : RdClT W (.slice (some ⟨b,0,none⟩) 1 1) [(t,c)]:=fun W' hW =>
 rd_cl1 ((hW.blk b _ _ _ hz (.inr rfl)).trans hz) (hv W' hW)
theorem oneWord_set (v : Value) (xs ys : List Int) (cs : List Cls) (K N : Int) (w : World) (h : SesT w v xs cs ys K N) (hp : permOk xs=true) :
 Calls Tryz.prog 58 #[v,.string ⟨#[115,101,116]⟩] w fun e w'=> ∃ u,e=.returned (.tuple #[u,.string ⟨#[111,107]⟩])∧SesT w' u xs [(trimL xs,1)] ys K N∧Below w.heap.size w w':=by
 obtain ⟨pp,pk,cp,ck,sp,sk,rfl,i1,i2,i3⟩:=h.open
 have I1:=Lib.hid i1
 have I3:=Lib.hid i3
 have H1:=Lib.hid (fun u (hu : Below w.heap.size w u)=>implTrim_yes _ xs u (i1.below hu).ints hp)
 obtain ⟨z1,z2⟩:=box5_two w 61 (.slice pp xs.length pk) (.slice cp cs.length ck) (.slice sp ys.length sk) (.int .i64 K) (.int .i64 N) (.slice none 0 0) (.slice none 0 0) (.slice none 0 0) (.int .i64 0) (.int .i64 0)
 have Z1:=Lib.hid z1
 have Z2:=Lib.hid z2
 have HB0:=Lib.hid (below_alloc2 w (.cells #[.slice pp xs.length pk,.slice cp cs.length ck,.slice sp ys.length sk,.int .i64 K,.int .i64 N] 61) (.cells #[.slice none 0 0,.slice none 0 0,.slice none 0 0,.int .i64 0,.int .i64 0] 61))
 have hs0 : ((w.alloc (.cells #[.slice pp xs.length pk,.slice cp cs.length ck,.slice sp ys.length sk,.int .i64 K,.int .i64 N] 61)).alloc (.cells #[.slice none 0 0,.slice none 0 0,.slice none 0 0,.int .i64 0,.int .i64 0] 61)).heap.size=w.heap.size+1+1:=by simp
 have Hs0:=Lib.hid hs0
 obtain ⟨W2,hW2⟩ : ∃ W2,W2=((w.alloc (.cells #[.slice pp xs.length pk,.slice cp cs.length ck,.slice sp ys.length sk,.int .i64 K,.int .i64 N] 61)).alloc (.cells #[.slice none 0 0,.slice none 0 0,.slice none 0 0,.int .i64 0,.int .i64 0] 61)):=⟨_,rfl⟩
 rw [← hW2] at Z1 Z2 HB0 Hs0
 have HW2:=Lib.hid hW2
 clear z1 z2 h i1 i2 i3 hs0 hW2
 obtain ⟨c0,c1,c2,c3,c4,cf,hz⟩:=blk5s Z1.out
 go_enter Tryz.func58,Tryz.ntmps58
 go_wp2_with fail
 rw [← HW2.out]
 go_wp2_with fail
 refine (H1.out _ HB0.out).mono ?_
 rintro e w3 ⟨u1,rfl,ho1,hb3⟩
 obtain ⟨p1,k1,rfl,_,_⟩:=ho1.shape
 have HO1:=Lib.hid ho1
 have HB3:=Lib.hid (HB0.out.trans (hb3.mono HB0.out.size))
 have Z1':=Lib.hid (blk_later (blk_later Z1.out hb3) (below_alloc w3 (.cells #[.slice p1 (trimL xs).length k1,.int .i64 1] 42)))
 have Z2':=Lib.hid (blk_later (blk_later Z2.out hb3) (below_alloc w3 (.cells #[.slice p1 (trimL xs).length k1,.int .i64 1] 42)))
 have Zc:=Lib.hid (heap_alloc_top w3 (.cells #[.slice p1 (trimL xs).length k1,.int .i64 1] 42))
 have hs3 : w.heap.size+1+1≤w3.heap.size:=by have:=hb3.size;have:=Hs0.out;omega
 have HB4:=Lib.hid (show Below w.heap.size w (w3.alloc (.cells #[.slice p1 (trimL xs).length k1,.int .i64 1] 42)) from HB3.out.trans ((below_alloc w3 _).mono HB3.out.size))
 have HO4:=Lib.hid (show OwnI 3 (w3.alloc (.cells #[.slice p1 (trimL xs).length k1,.int .i64 1] 42)) W2.heap.size w3.heap.size (.slice p1 (trimL xs).length k1) (trimL xs) from OwnI.below HO1.out (below_alloc w3 _))
 clear ho1 hb3 c0 c1 c2 c3 c4 cf hz
 obtain ⟨c0,c1,c2,c3,c4,cf,hz⟩:=blk5s Z1'.out
 obtain ⟨e0,e1,e2,e3,e4,ef,ez⟩:=blk5s Z2'.out
 go_wp2_with fail
 obtain ⟨W4,hW4⟩ : ∃ W4,W4=(w3.alloc (.cells #[.slice p1 (trimL xs).length k1,.int .i64 1] 42)):=⟨_,rfl⟩
 rw [← hW4] at Z1' Z2' Zc HB4 HO4 ⊢
 clear hW4 c0 c1 c2 c3 c4 cf e0 e1 e2 e3 e4 ef
 obtain ⟨W5,hW5⟩ : ∃ W5,W5=W4.setCell ⟨w.heap.size,1,none⟩ (.slice (some ⟨w3.heap.size,0,none⟩) 1 1):=⟨_,rfl⟩
 have HB5:=Lib.hid (show Below w.heap.size w W5 by rw [hW5];exact HB4.out.setCell (Nat.le_refl _) _)
 have hh5 : ∀ j,j ≠ w.heap.size→W5.heap[j]?=W4.heap[j]?:=fun j hj=>by rw [hW5];exact Below.heap_setCell _ _ _ _ hj
 have Z2'':=Lib.hid ((hh5 (w.heap.size+1) (by omega)).trans Z2'.out)
 have Zc':=Lib.hid ((hh5 w3.heap.size (by omega)).trans Zc.out)
 have HO5:=Lib.hid (show OwnI 3 W5 W2.heap.size w3.heap.size (.slice p1 (trimL xs).length k1) (trimL xs) by rw [hW5];exact OwnI.setCell HO4.out (.inl (by have:=Hs0.out;show w.heap.size < _;omega)) _)
 rw [← hW5]
 clear hW5
 obtain ⟨W6,hW6⟩ : ∃ W6,W6=((((W5.setCell ⟨w.heap.size+1,0,none⟩ (.slice pp xs.length pk)).setCell ⟨w.heap.size+1,1,none⟩ (.slice (some ⟨w3.heap.size,0,none⟩) 1 1)).setCell ⟨w.heap.size+1,2,none⟩ (.slice sp ys.length sk)).setCell ⟨w.heap.size+1,3,none⟩ (.int .i64 K)).setCell ⟨w.heap.size+1,4,none⟩ (.int .i64 N):=⟨_,rfl⟩
 have HB6:=Lib.hid (show Below w.heap.size w W6 by rw [hW6];exact below_set5 HB5.out (by omega) _ _ _ _ _)
 have hz6:=set5_all Z2''.out (.slice pp xs.length pk) (.slice (some ⟨w3.heap.size,0,none⟩) 1 1) (.slice sp ys.length sk) (.int .i64 K) (.int .i64 N)
 have hzc6 : W6.heap[w3.heap.size]?=W5.heap[w3.heap.size]?:=by rw [hW6];exact heap_box5 (by omega) _ _ _ _ _
 have HO6:=Lib.hid (show OwnI 3 W6 W2.heap.size w3.heap.size (.slice p1 (trimL xs).length k1) (trimL xs) by
  have hlt : w.heap.size+1 < W2.heap.size:=by have:=Hs0.out;omega
  rw [hW6];exact OwnI.setCell (OwnI.setCell (OwnI.setCell (OwnI.setCell (OwnI.setCell HO5.out (.inl hlt) _) (.inl hlt) _) (.inl hlt) _) (.inl hlt) _) (.inl hlt) _)
 have HC6:=Lib.hid (show RdClT W6 (.slice (some ⟨w3.heap.size,0,none⟩) 1 1) [(trimL xs,1)] from rd_cl1T (hzc6.trans Zc'.out) (IntsT.of_own HO6.out))
 rw [← hW6] at hz6 ⊢
 obtain ⟨f0,f1,f2,f3,f4,ff,fz⟩:=blk5s hz6
 refine bodyPost_ret (v:=.tuple #[.agg #[.slice pp xs.length pk,.slice (some ⟨w3.heap.size,0,none⟩) 1 1,.slice sp ys.length sk,.int .i64 K,.int .i64 N],.string ⟨#[111,107]⟩]) (by simp [results,Tryz.results58,go_sem,f0,f1,f2,f3,f4,fz]) rfl ⟨_,rfl,⟨_,_,_,rfl,I1.out.below HB6.out,HC6.out,I3.out.below HB6.out⟩,HB6.out⟩
theorem withText_perm (v : Value) (xs ys zs : List Int) (cs : List Cls) (K N : Int) (w : World) (h : SesT w v zs cs ys K N) (hp : permOk xs=true) :
 Calls Tryz.prog 57 #[v,.string ⟨#[112,101,114,109]⟩,.string (fmtA xs)] w fun e w'=> ∃ u,e=.returned (.tuple #[u,.string ⟨#[111,107]⟩])∧SesT w' u xs cs ys K N∧Below w.heap.size w w':=by
 obtain ⟨pp,pk,cp,ck,sp,sk,rfl,i1,i2,i3⟩:=h.open
 have I2:=Lib.hid i2
 have I3:=Lib.hid i3
 have H1:=Lib.hid (fun u=>ParsePerm_any xs u hp)
 obtain ⟨z1,z2⟩:=box5_two w 61 (.slice pp zs.length pk) (.slice cp cs.length ck) (.slice sp ys.length sk) (.int .i64 K) (.int .i64 N) (.slice none 0 0) (.slice none 0 0) (.slice none 0 0) (.int .i64 0) (.int .i64 0)
 have Z1:=Lib.hid z1
 have Z2:=Lib.hid z2
 have HB0:=Lib.hid (below_alloc2 w (.cells #[.slice pp zs.length pk,.slice cp cs.length ck,.slice sp ys.length sk,.int .i64 K,.int .i64 N] 61) (.cells #[.slice none 0 0,.slice none 0 0,.slice none 0 0,.int .i64 0,.int .i64 0] 61))
 obtain ⟨W2,hW2⟩ : ∃ W2,W2=((w.alloc (.cells #[.slice pp zs.length pk,.slice cp cs.length ck,.slice sp ys.length sk,.int .i64 K,.int .i64 N] 61)).alloc (.cells #[.slice none 0 0,.slice none 0 0,.slice none 0 0,.int .i64 0,.int .i64 0] 61)):=⟨_,rfl⟩
 have Hs0:=Lib.hid (show W2.heap.size=w.heap.size+1+1 by rw [hW2];simp)
 rw [← hW2] at Z1 Z2 HB0
 have HW2:=Lib.hid hW2
 clear z1 z2 h i1 i2 i3 hW2
 obtain ⟨c0,c1,c2,c3,c4,cf,hz⟩:=blk5s Z1.out
 go_enter Tryz.func57,Tryz.ntmps57
 go_wp2_with fail
 rw [← HW2.out]
 go_wp2_with fail
 refine (H1.out _).mono ?_
 rintro e w3 ⟨u1,rfl,ho1,hb3⟩
 obtain ⟨p1,k1,rfl,_,_⟩:=ho1.shape
 have HO1:=Lib.hid ho1
 have HB3:=Lib.hid (HB0.out.trans (hb3.mono HB0.out.size))
 have Z1':=Lib.hid (blk_later Z1.out hb3)
 have Z2':=Lib.hid (blk_later Z2.out hb3)
 clear ho1 hb3 c0 c1 c2 c3 c4 cf hz
 obtain ⟨c0,c1,c2,c3,c4,cf,hz⟩:=blk5s Z1'.out
 obtain ⟨e0,e1,e2,e3,e4,ef,ez⟩:=blk5s Z2'.out
 go_wp2_with fail
 clear c0 c1 c2 c3 c4 cf e0 e1 e2 e3 e4 ef
 have hlt : w.heap.size+1 < W2.heap.size:=by have:=Hs0.out;omega
 have hlt0 : w.heap.size < W2.heap.size:=by omega
 obtain ⟨W5,hW5⟩ : ∃ W5,W5=w3.setCell ⟨w.heap.size,0,none⟩ (.slice p1 xs.length k1):=⟨_,rfl⟩
 have HB5:=Lib.hid (show Below w.heap.size w W5 by rw [hW5];exact HB3.out.setCell (Nat.le_refl _) _)
 have Z2n:=Lib.hid (show W5.heap[w.heap.size+1]?=some (.cells #[.slice none 0 0,.slice none 0 0,.slice none 0 0,.int .i64 0,.int .i64 0] 61 (0,0)) by rw [hW5];exact (Below.heap_setCell _ _ _ _ (show w.heap.size+1 ≠ w.heap.size by omega)).trans Z2'.out)
 have HO5:=Lib.hid (show OwnI 3 W5 W2.heap.size w3.heap.size (.slice p1 xs.length k1) xs by rw [hW5];exact OwnI.setCell HO1.out (.inl hlt0) _)
 rw [← hW5]
 clear hW5
 obtain ⟨W6,hW6⟩ : ∃ W6,W6=((((W5.setCell ⟨w.heap.size+1,0,none⟩ (.slice p1 xs.length k1)).setCell ⟨w.heap.size+1,1,none⟩ (.slice cp cs.length ck)).setCell ⟨w.heap.size+1,2,none⟩ (.slice sp ys.length sk)).setCell ⟨w.heap.size+1,3,none⟩ (.int .i64 K)).setCell ⟨w.heap.size+1,4,none⟩ (.int .i64 N):=⟨_,rfl⟩
 have HB6:=Lib.hid (show Below w.heap.size w W6 by rw [hW6];exact below_set5 HB5.out (by omega) _ _ _ _ _)
 have hz6:=set5_all Z2n.out (.slice p1 xs.length k1) (.slice cp cs.length ck) (.slice sp ys.length sk) (.int .i64 K) (.int .i64 N)
 have HO6:=Lib.hid (show OwnI 3 W6 W2.heap.size w3.heap.size (.slice p1 xs.length k1) xs by
  rw [hW6];exact OwnI.setCell (OwnI.setCell (OwnI.setCell (OwnI.setCell (OwnI.setCell HO5.out (.inl hlt) _) (.inl hlt) _) (.inl hlt) _) (.inl hlt) _) (.inl hlt) _)
 rw [← hW6] at hz6 ⊢
 obtain ⟨f0,f1,f2,f3,f4,ff,fz⟩:=blk5s hz6
 refine bodyPost_ret (v:=.tuple #[.agg #[.slice p1 xs.length k1,.slice cp cs.length ck,.slice sp ys.length sk,.int .i64 K,.int .i64 N],.string ⟨#[111,107]⟩]) (by simp [results,Tryz.results57,go_sem,f0,f1,f2,f3,f4,fz]) rfl ⟨_,rfl,⟨_,_,_,rfl,IntsT.of_own HO6.out,I2.out.below HB6.out,I3.out.below HB6.out⟩,HB6.out⟩
end
end Go.Proofs.YtincaodpjdeoeaaGreatDoor
