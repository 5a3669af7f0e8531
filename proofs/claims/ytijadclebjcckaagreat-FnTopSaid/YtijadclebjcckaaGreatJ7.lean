/-
  A part of the proof of FnTop (texts of one proof, joined).
-/
import Derived.Test.YtijadclebjcckaaGreatJ6
namespace Go.Proofs.YtijadclebjcckaaGreat
set_option linter.all false
set_option maxRecDepth 100000
set_option maxHeartbeats 16000000
section
open Go.RowKit
def sumF (F : List Int→Int) (L : List (List Int)) : Int:=(L.map F).sum
theorem sumF_nil (F : List Int→Int) : sumF F []=0:=rfl
theorem sumF_cons (F : List Int→Int) (x : List Int) (L : List (List Int)) : sumF F (x :: L)=F x+sumF F L:=by simp [sumF]
theorem sumF_append (F : List Int→Int) : ∀ A B : List (List Int),sumF F (A ++ B)=sumF F A+sumF F B
 | [],B=>by rw [List.nil_append,sumF_nil,Int.zero_add]
 | x :: A,B=>by rw [List.cons_append,sumF_cons,sumF_cons,sumF_append F A B,Int.add_assoc]
theorem sumF_perm (F : List Int→Int) {A B : List (List Int)} (h : A.Perm B) : sumF F A=sumF F B:=by
 induction h with
 | nil=>rfl
 | cons x _ ih=>rw [sumF_cons,sumF_cons,ih]
 | swap x y l=>simp only [sumF_cons];omega
 | trans _ _ a b=>exact a.trans b
theorem sumF_congr {F G : List Int→Int} : ∀ {L : List (List Int)},(∀ x ∈ L,F x=G x)→sumF F L=sumF G L
 | [],_=>rfl
 | x :: L,h=>by rw [sumF_cons,sumF_cons,h x List.mem_cons_self,sumF_congr fun y hy=>h y (List.mem_cons_of_mem _ hy)]
theorem sumF_zero {F : List Int→Int} : ∀ {L : List (List Int)},(∀ x ∈ L,F x=0)→sumF F L=0
 | [],_=>rfl
 | x :: L,h=>by rw [sumF_cons,h x List.mem_cons_self,sumF_zero fun y hy=>h y (List.mem_cons_of_mem _ hy)];rfl
theorem sumF_add (F G : List Int→Int) : ∀ L : List (List Int),sumF (fun x=>F x+G x) L=sumF F L+sumF G L
 | []=>rfl
 | x :: L=>by rw [sumF_cons,sumF_cons,sumF_cons,sumF_add F G L];omega
theorem sumF_sub (F G : List Int→Int) : ∀ L : List (List Int),sumF (fun x=>F x - G x) L=sumF F L - sumF G L
 | []=>rfl
 | x :: L=>by rw [sumF_cons,sumF_cons,sumF_cons,sumF_sub F G L];omega
theorem sumF_mul (a : Int) (F : List Int→Int) : ∀ L : List (List Int),sumF (fun x=>a * F x) L=a * sumF F L
 | []=>by rw [sumF_nil,sumF_nil,Int.mul_zero]
 | x :: L=>by rw [sumF_cons,sumF_cons,sumF_mul a F L,Int.mul_add]
theorem sumF_swap (G : List Int→List Int→Int) (B : List (List Int)) : ∀ A : List (List Int),sumF (fun w=>sumF (fun u=>G w u) B) A=sumF (fun u=>sumF (fun w=>G w u) A) B
 | []=>by rw [sumF_nil];exact (sumF_zero fun _ _=>rfl).symm
 | x :: A=>by
   rw [sumF_cons,sumF_swap G B A,← sumF_add]
   exact sumF_congr fun u _=>(sumF_cons (fun w=>G w u) x A).symm
def cvUp (v : List Int) (k : Nat) : List (List Int):=((List.range v.length).filter fun j=>decide (k < j) && decide (lnN (swapL v k j)=lnN v+1)).map fun j=>swapL v k j
def cvDn (v : List Int) (k : Nat) : List (List Int):=((List.range k).filter fun j=>decide (lnN (swapL v j k)=lnN v+1)).map fun j=>swapL v j k
def dwn (m : Nat) (L : List (List Int)) : List (List Int):=(L.filter fun u=> !ascB m u).map (sw m)
def swN (m k : Nat) : Nat:=if k=m then m+1 else if k=m+1 then m else k
def chA (v : List Int) (k m : Nat) : List (List Int):=(if k=m then [v] else []) ++ ((if ascB m v then [] else cvUp (sw m v) (swN m k)) ++ dwn m (cvDn v k))
def chB (v : List Int) (k m : Nat) : List (List Int):=(if k=m+1 then [v] else []) ++ ((if ascB m v then [] else cvDn (sw m v) (swN m k)) ++ dwn m (cvUp v k))
def chvB (v : List Int) : Bool:=(List.range v.length).all fun k=>((List.range (v.length - 1)).all fun m=>(chA v k m).isPerm (chB v k m)) &&
 (cvUp v k).all (fun u=>permOk u && decide (u.length=v.length) && decide (lnN u=lnN v+1)) && (cvDn v k).all (fun u=>permOk u && decide (u.length=v.length) && decide (lnN u=lnN v+1))
theorem chv_all : all5 chvB=true:=by decide +kernel
theorem chv_at {n : Nat} {v : List Int} (hv : P5 n v) {k : Nat} (hk : k < n) : (∀ m,m+1 < n→(chA v k m).Perm (chB v k m))∧(∀ u ∈ cvUp v k,P5 n u∧lnN u=lnN v+1) ∧ ∀ u ∈ cvDn v k,P5 n u∧lnN u=lnN v+1:=by
 have:=all5_at chv_all hv.ok (by have:=hv.len;have:=hv.le;omega)
 simp only [chvB,List.all_eq_true,List.mem_range,Bool.and_eq_true,decide_eq_true_eq] at this
 obtain ⟨⟨h1,h2⟩,h3⟩:=this k (by rw [hv.len];exact hk)
 refine ⟨fun m hm=>List.isPerm_iff.1 (h1 m (by rw [hv.len];omega)),fun u hu=> ?_,fun u hu=> ?_⟩
 ·obtain ⟨⟨a,b⟩,c⟩:=h2 u hu
  exact ⟨⟨a,by rw [b,hv.len],hv.le⟩,c⟩
 ·obtain ⟨⟨a,b⟩,c⟩:=h3 u hu
  exact ⟨⟨a,by rw [b,hv.len],hv.le⟩,c⟩
def yAt (ys w : List Int) (k : Nat) : Int:=ys.getD (w.getD k 0).toNat 0
theorem df_y (ys w : List Int) (k : Nat) : df ys w k=yAt ys w (k+1) - yAt ys w k:=rfl
theorem yAt_sw {ys w : List Int} {m k : Nat} (hm : m+1 < w.length) : yAt ys (sw m w) k=yAt ys w (swN m k):=by
 unfold yAt swN
 rw [sw_getD hm]
 by_cases h1 : k=m
 ·rw [if_pos h1,if_neg (by omega),if_pos h1]
 ·by_cases h2 : k=m+1
  ·rw [if_pos h2,if_neg h1,if_pos h2]
  ·rw [if_neg h2,if_neg h1,if_neg h1,if_neg h2]
theorem swN_swN (m k : Nat) : swN m (swN m k)=k:=by
 unfold swN
 by_cases h1 : k=m
 ·rw [if_pos h1,if_neg (by omega),if_pos rfl,h1]
 ·by_cases h2 : k=m+1
  ·rw [if_neg h1,if_pos h2,if_pos rfl,h2]
  ·rw [if_neg h1,if_neg h2,if_neg h1,if_neg h2]
theorem swN_lt {m k n : Nat} (hk : k < n) (hm : m+1 < n) : swN m k < n:=by
 unfold swN
 by_cases h1 : k=m
 ·rw [if_pos h1];exact hm
 ·rw [if_neg h1]
  by_cases h2 : k=m+1
  ·rw [if_pos h2];omega
  ·rw [if_neg h2];exact hk
theorem sumF_rec {n : Nat} {ys w : List Int} (hw : P5 n w) {m : Nat} (hm : m+1 < n) : ∀ {L : List (List Int)},(∀ u ∈ L,P5 n u) →
 sumF (fun u=>FW n ys u (sw m w)) L=sumF (fun u=>FW n ys u w) L+df ys w m * sumF (fun u=>FW n ys u w) (dwn m L)
 | [],_=>by simp [sumF,dwn]
 | x :: L,h=>by
   have ih:=sumF_rec (ys:=ys) hw hm (L:=L) fun u hu=>h u (List.mem_cons_of_mem _ hu)
   have hr:=FW_rec (ys:=ys) (h x List.mem_cons_self) hw hm
   rw [sumF_cons,sumF_cons,ih,hr]
   cases ha : ascB m x with
   | true =>
     have : dwn m (x :: L)=dwn m L:=by simp [dwn,ha]
     rw [this];simp;omega
   | false =>
     have : dwn m (x :: L)=sw m x :: dwn m L:=by simp [dwn,ha]
     rw [this,sumF_cons,Int.mul_add];simp;omega
theorem FW_id {n : Nat} {ys v : List Int} (hy : ys.length=n) (h1 : 1≤n) (hv : P5 n v) : FW n ys v (idL n)=if idL n=v then 1 else 0 :=
 sum_val hy h1 hv.le 0 [] v rfl hv (by simp)
theorem chev {n : Nat} {ys : List Int} (hy : ys.length=n) (h1 : 1≤n) : ∀ (t : Nat) (w : List Int),lnN w=t→P5 n w → ∀ (v : List Int) (k : Nat),P5 n v→k < n →
 yAt ys w k * FW n ys v w=yAt ys v k * FW n ys v w+sumF (fun u=>FW n ys u w) (cvUp v k) - sumF (fun u=>FW n ys u w) (cvDn v k):=by
 intro t
 induction t with
 | zero =>
   intro w ht hw v k hv hk
   obtain rfl:=id_of_len hw ht
   have hc:=chv_at hv hk
   have z : ∀ L : List (List Int),(∀ u ∈ L,P5 n u∧lnN u=lnN v+1)→sumF (fun u=>FW n ys u (idL n)) L=0:=fun L hL=>sumF_zero fun u hu=>by
    obtain ⟨a,b⟩:=hL u hu
    rw [FW_id hy h1 a,if_neg]
    intro e
    rw [← e,ht] at b
    omega
   rw [z _ hc.2.1,z _ hc.2.2,FW_id hy h1 hv]
   by_cases e : idL n=v
   ·rw [← e];omega
   ·rw [if_neg e];omega
 | succ t ih =>
   intro w ht hw v k hv hk
   obtain ⟨m,hm,hd⟩ : ∃ k,k+1 < n∧ascB k w=false:=((blid_at hw).2).resolve_left (by omega)
   have hl:=len_desc hw hm hd
   have hu:=hw.sw hm
   have ss : sw m (sw m w)=w:=sw_sw (by have:=hw.len;omega)
   obtain ⟨x,hx⟩ : ∃ x,x=sw m w:=⟨_,rfl⟩
   rw [← hx] at hl hu ss
   rw [← ss]
   have hc:=chv_at hv hk
   have hp:=sumF_perm (fun u=>FW n ys u x) (hc.1 m hm)
   have i1:=ih x (by omega) hu v k hv hk
   rw [yAt_sw (by have:=hu.len;omega),sumF_rec hu hm fun u h=>(hc.2.1 u h).1,sumF_rec hu hm fun u h=>(hc.2.2 u h).1,FW_rec hv hu hm]
   have hy1 : yAt ys x (swN m k)=yAt ys x k+(if k=m then df ys x m else if k=m+1 then - df ys x m else 0):=by
    unfold swN
    rw [df_y]
    by_cases e1 : k=m
    ·rw [if_pos e1,if_pos e1,e1];omega
    ·rw [if_neg e1,if_neg e1]
     by_cases e2 : k=m+1
     ·rw [if_pos e2,if_pos e2,e2];omega
     ·rw [if_neg e2,if_neg e2];omega
   unfold chA chB at hp
   rw [sumF_append,sumF_append,sumF_append,sumF_append] at hp
   obtain ⟨a,hda⟩ : ∃ a,a=df ys x m:=⟨_,rfl⟩
   obtain ⟨U,hU⟩ : ∃ U,U=sumF (fun u=>FW n ys u x) (cvUp v k):=⟨_,rfl⟩
   obtain ⟨D,hD⟩ : ∃ U,U=sumF (fun u=>FW n ys u x) (cvDn v k):=⟨_,rfl⟩
   obtain ⟨U',hU'⟩ : ∃ U,U=sumF (fun u=>FW n ys u x) (dwn m (cvUp v k)):=⟨_,rfl⟩
   obtain ⟨D',hD'⟩ : ∃ U,U=sumF (fun u=>FW n ys u x) (dwn m (cvDn v k)):=⟨_,rfl⟩
   obtain ⟨fv,hfv⟩ : ∃ U,U=FW n ys v x:=⟨_,rfl⟩
   obtain ⟨yk,hyk⟩ : ∃ U,U=yAt ys x k:=⟨_,rfl⟩
   obtain ⟨vk,hvk⟩ : ∃ U,U=yAt ys v k:=⟨_,rfl⟩
   rw [← hU,← hD,← hfv,← hyk,← hvk] at i1
   rw [← hU',← hD'] at hp
   rw [← hda,← hU,← hD,← hU',← hD',← hfv,← hvk]
   rw [← hyk,← hda] at hy1
   obtain ⟨e,he⟩ : ∃ e : Int,e=if k=m then 1 else if k=m+1 then -1 else 0:=⟨_,rfl⟩
   have hy2 : yAt ys x (swN m k)=yk+e * a:=by
    rw [hy1,he]
    by_cases e1 : k=m
    ·rw [if_pos e1,if_pos e1,Int.one_mul]
    ·rw [if_neg e1,if_neg e1]
     by_cases e2 : k=m+1
     ·rw [if_pos e2,if_pos e2];omega
     ·rw [if_neg e2,if_neg e2];omega
   have hE : sumF (fun u=>FW n ys u x) (if k=m then [v] else []) - sumF (fun u=>FW n ys u x) (if k=m+1 then [v] else [])=e * fv:=by
    rw [he,hfv]
    by_cases e1 : k=m
    ·rw [if_pos e1,if_pos e1,if_neg (by omega)];simp [sumF]
    ·rw [if_neg e1,if_neg e1]
     by_cases e2 : k=m+1
     ·rw [if_pos e2,if_pos e2];simp [sumF]
     ·rw [if_neg e2,if_neg e2];simp [sumF]
   obtain ⟨E1,hE1⟩ : ∃ U,U=sumF (fun u=>FW n ys u x) (if k=m then [v] else []):=⟨_,rfl⟩
   obtain ⟨E2,hE2⟩ : ∃ U,U=sumF (fun u=>FW n ys u x) (if k=m+1 then [v] else []):=⟨_,rfl⟩
   rw [← hE1,← hE2] at hp hE
   cases ha : ascB m v with
   | true =>
     rw [ha] at hp
     simp only [if_true,sumF_nil,Int.zero_add] at hp ⊢
     rw [hy2]
     have h3 : a * (E1+D')=a * (E2+U'):=by rw [hp]
     have h4 : E1=E2+e * fv:=by omega
     rw [h4] at h3
     clear hp hE
     grind
   | false =>
     rw [ha] at hp
     have hvs:=hv.sw hm
     have i2:=ih x (by omega) hu (sw m v) (swN m k) hvs (swN_lt hk hm)
     rw [yAt_sw (by have:=hv.len;omega),swN_swN,← hvk,hy2] at i2
     simp only [Bool.false_eq_true,if_false] at hp ⊢
     obtain ⟨U2,hU2⟩ : ∃ U,U=sumF (fun u=>FW n ys u x) (cvUp (sw m v) (swN m k)):=⟨_,rfl⟩
     obtain ⟨D2,hD2⟩ : ∃ U,U=sumF (fun u=>FW n ys u x) (cvDn (sw m v) (swN m k)):=⟨_,rfl⟩
     obtain ⟨fs,hfs⟩ : ∃ U,U=FW n ys (sw m v) x:=⟨_,rfl⟩
     rw [← hU2,← hD2,← hfs] at i2
     rw [← hU2,← hD2] at hp
     rw [← hfs,hy2]
     have h3 : a * (E1+(U2+D'))=a * (E2+(D2+U')):=by rw [hp]
     have h4 : E1=E2+e * fv:=by omega
     have h5 : a * ((yk+e * a) * fs)=a * (vk * fs+U2 - D2):=by rw [i2]
     rw [h4] at h3
     clear hp hE i2
     grind
def aLB (n : Nat) : Bool:=(permsL n).all (fun v=>permOk v && decide (v.length=n)) && decide (permsL n).Nodup && (List.range (n - 1)).all fun k=>((permsL n).map (sw k)).isPerm (permsL n)
theorem aL_all : ∀ n : Fin 4,aLB (n.val+1)=true:=by decide +kernel
structure AL (n : Nat) : Prop where
 mem : ∀ w,w ∈ permsL n ↔ P5 n w
 nodup : (permsL n).Nodup
 sw : ∀ k,k+1 < n→((permsL n).map (sw k)).Perm (permsL n)
theorem aL {n : Nat} (h1 : 1≤n) (h4 : n≤4) : AL n:=by
 have:=aL_all ⟨n - 1,by omega⟩
 rw [show (⟨n - 1,by omega⟩ : Fin 4).val+1=n by simp;omega] at this
 simp only [aLB,Bool.and_eq_true,List.all_eq_true,decide_eq_true_eq,List.mem_range] at this
 obtain ⟨⟨a,b⟩,c⟩:=this
 refine ⟨fun w=>⟨fun hw=>⟨(a w hw).1,(a w hw).2,by omega⟩,fun hw=> ?_⟩,b,fun k hk=>List.isPerm_iff.1 (c k (by omega))⟩
 have:=perm_mem hw.ok (by rw [hw.len];omega)
 rw [hw.len] at this
 exact this
theorem sumF_delta {v : List Int} (g : List Int→Int) : ∀ {L : List (List Int)},L.Nodup→v ∈ L→sumF (fun w=>if w=v then g w else 0) L=g v
 | [],_,h=>by cases h
 | x :: L,hn,h=>by
   rw [sumF_cons]
   have hn':=List.nodup_cons.1 hn
   by_cases e : x=v
   ·rw [if_pos e,sumF_zero fun y hy=>if_neg fun e2=>hn'.1 (by rw [e,← e2];exact hy),e,Int.add_zero]
   ·rw [if_neg e,sumF_delta g hn'.2 (by
     rcases List.mem_cons.1 h with h | h
     ·exact absurd h.symm e
     ·exact h),Int.zero_add]
theorem sumF_count (F : List Int→Int) {L : List (List Int)} (hn : L.Nodup) : ∀ {M : List (List Int)},(∀ x ∈ M,x ∈ L)→sumF F M=sumF (fun u=>((M.count u : Nat) : Int) * F u) L
 | [],_=>by rw [sumF_nil];exact (sumF_zero fun x _=>by simp).symm
 | x :: M,h=>by
   rw [sumF_cons,sumF_count F hn fun y hy=>h y (List.mem_cons_of_mem _ hy),← sumF_delta F hn (h x List.mem_cons_self),← sumF_add]
   refine sumF_congr fun u _=> ?_
   rw [List.count_cons]
   by_cases e : u=x
   ·rw [if_pos e,e];simp [Int.add_mul];omega
   ·rw [if_neg e]
    have : ¬ (x == u)=true:=by simp;exact fun h=>e h.symm
    rw [if_neg this];simp
def Ex (n : Nat) (ys : List Int) (f c : List Int→Int) : Prop:=∀ p,P5 n p→f p=sumF (fun w=>c w * FW n ys w p) (permsL n)
variable {n : Nat} {ys : List Int}
theorem Ex.zero : Ex n ys (fun _=>0) (fun _=>0):=fun p _=>(sumF_zero fun x _=>by simp).symm
theorem Ex.add {f g c d : List Int→Int} (h : Ex n ys f c) (h' : Ex n ys g d) : Ex n ys (fun p=>f p+g p) (fun w=>c w+d w):=fun p hp=>by
 dsimp only
 rw [h p hp,h' p hp,← sumF_add]
 exact sumF_congr fun u _=>by rw [Int.add_mul]
theorem Ex.smul {f c : List Int→Int} (a : Int) (h : Ex n ys f c) : Ex n ys (fun p=>a * f p) (fun w=>a * c w):=fun p hp=>by
 dsimp only
 rw [h p hp,← sumF_mul]
 exact sumF_congr fun u _=>by rw [Int.mul_assoc]
theorem Ex.sub {f g c d : List Int→Int} (h : Ex n ys f c) (h' : Ex n ys g d) : Ex n ys (fun p=>f p - g p) (fun w=>c w - d w):=fun p hp=>by
 dsimp only
 rw [h p hp,h' p hp,← sumF_sub]
 exact sumF_congr fun u _=>by rw [Int.sub_mul]
theorem Ex.congr {f g c : List Int→Int} (h : Ex n ys f c) (e : ∀ p,P5 n p→g p=f p) : Ex n ys g c:=fun p hp=>by rw [e p hp];exact h p hp
theorem Ex.one (h1 : 1≤n) (h4 : n≤4) {v : List Int} (hv : P5 n v) : Ex n ys (FW n ys v) (fun w=>if w=v then 1 else 0):=fun p hp=>by
 have A:=aL h1 h4
 have:=sumF_delta (v:=v) (fun w=>FW n ys w p) A.nodup ((A.mem v).2 hv)
 rw [← this]
 exact sumF_congr fun u _=>by by_cases e : u=v <;> simp [e]
def muC (n : Nat) (ys : List Int) (k : Nat) (c : List Int→Int) (u : List Int) : Int :=
 yAt ys u k * c u+sumF (fun w=>c w * (((cvUp w k).count u : Nat) : Int)) (permsL n) - sumF (fun w=>c w * (((cvDn w k).count u : Nat) : Int)) (permsL n)
theorem Ex.mu (hy : ys.length=n) (h1 : 1≤n) (h4 : n≤4) {f c : List Int→Int} (h : Ex n ys f c) {k : Nat} (hk : k < n) : Ex n ys (fun p=>yAt ys p k * f p) (muC n ys k c):=fun p hp=>by
 have A:=aL h1 h4
 show yAt ys p k * f p=_
 rw [h p hp,← sumF_mul]
 have e1 : ∀ w ∈ permsL n,yAt ys p k * (c w * FW n ys w p) =
  yAt ys w k * c w * FW n ys w p+(sumF (fun u=>c w * (((cvUp w k).count u : Nat) : Int) * FW n ys u p) (permsL n) - sumF (fun u=>c w * (((cvDn w k).count u : Nat) : Int) * FW n ys u p) (permsL n)):=fun w hw=>by
  have hw':=(A.mem w).1 hw
  have hc:=chv_at hw' hk
  have h0:=chev hy h1 _ p rfl hp w k hw' hk
  have u1 : sumF (fun u=>c w * (((cvUp w k).count u : Nat) : Int) * FW n ys u p) (permsL n)=c w * sumF (fun u=>FW n ys u p) (cvUp w k):=by
   rw [sumF_count _ A.nodup fun x hx=>(A.mem x).2 (hc.2.1 x hx).1,← sumF_mul]
   exact sumF_congr fun u _=>by rw [Int.mul_assoc]
  have u2 : sumF (fun u=>c w * (((cvDn w k).count u : Nat) : Int) * FW n ys u p) (permsL n)=c w * sumF (fun u=>FW n ys u p) (cvDn w k):=by
   rw [sumF_count _ A.nodup fun x hx=>(A.mem x).2 (hc.2.2 x hx).1,← sumF_mul]
   exact sumF_congr fun u _=>by rw [Int.mul_assoc]
  rw [u1,u2,Int.mul_left_comm,h0]
  grind
 rw [sumF_congr e1,sumF_add,sumF_sub]
 rw [sumF_swap (fun w u=>c w * (((cvUp w k).count u : Nat) : Int) * FW n ys u p),sumF_swap (fun w u=>c w * (((cvDn w k).count u : Nat) : Int) * FW n ys u p),← sumF_sub,← sumF_add]
 refine sumF_congr fun u _=> ?_
 have e2 : ∀ g : List Int→Int,sumF (fun w=>g w * FW n ys u p) (permsL n)=sumF g (permsL n) * FW n ys u p:=fun g=>by
  rw [Int.mul_comm,← sumF_mul]
  exact sumF_congr fun w _=>Int.mul_comm _ _
 rw [e2 fun w=>c w * (((cvUp w k).count u : Nat) : Int),e2 fun w=>c w * (((cvDn w k).count u : Nat) : Int)]
 unfold muC
 grind
theorem pick_y {p : List Int} (hp : P5 n p) (i : Nat) : (pickL p ys).getD i 0=if i < n then yAt ys p i else 0:=by
 by_cases h7 : i < 7
 ·rw [pickL_getD _ _ h7]
  unfold pick
  rw [hp.len]
  rfl
 ·have:=hp.le
  rw [if_neg (by omega),List.getD_eq_getElem?_getD,List.getElem?_eq_none (by rw [pickL_length];omega)];rfl
theorem Ex.pick (hy : ys.length=n) (h1 : 1≤n) (h4 : n≤4) {f c : List Int→Int} (h : Ex n ys f c) (i : Nat) : ∃ c',Ex n ys (fun p=>(pickL p ys).getD i 0 * f p) c':=by
 by_cases hi : i < n
 ·exact ⟨_,(h.mu hy h1 h4 hi).congr fun p hp=>by rw [pick_y hp,if_pos hi]⟩
 ·exact ⟨_,Ex.zero.congr fun p hp=>by rw [pick_y hp,if_neg hi,Int.zero_mul]⟩
theorem Ex.pow (hy : ys.length=n) (h1 : 1≤n) (h4 : n≤4) (i : Nat) : ∀ (t : Nat) {f c : List Int→Int},Ex n ys f c → ∃ c',Ex n ys (fun p=>(pickL p ys).getD i 0 ^ t * f p) c'
 | 0,f,c,h=>⟨c,h.congr fun p _=>by rw [Int.pow_zero,Int.one_mul]⟩
 | t+1,f,c,h=>by
   obtain ⟨c1,h1'⟩:=h.pick hy h1 h4 i
   obtain ⟨c2,h2⟩:=Ex.pow hy h1 h4 i t h1'
   exact ⟨c2,h2.congr fun p _=>by rw [Int.pow_succ,Int.mul_assoc]⟩
theorem Ex.mono (hy : ys.length=n) (h1 : 1≤n) (h4 : n≤4) (e : List Int) {f c : List Int→Int} (h : Ex n ys f c) : ∃ c',Ex n ys (fun p=>Go.Proofs.YtijadclebjcckaaGreat.mono (pickL p ys) e * f p) c':=by
 unfold Go.Proofs.YtijadclebjcckaaGreat.mono
 have : ∀ (m : Nat) {f c : List Int→Int},Ex n ys f c → ∃ c',Ex n ys (fun p=>monoK (pickL p ys) e m * f p) c':=fun m=>by
  induction m with
  | zero=>exact fun h=>⟨_,h.congr fun p _=>by rw [monoK,Int.one_mul]⟩
  | succ m ih =>
    intro f c h
    obtain ⟨c1,h1'⟩:=Ex.pow hy h1 h4 m (e.getD m 0).toNat h
    obtain ⟨c2,h2⟩:=ih h1'
    exact ⟨c2,h2.congr fun p _=>by rw [monoK,Int.mul_assoc]⟩
 exact this 7 h
theorem Ex.ev (hy : ys.length=n) (h1 : 1≤n) (h4 : n≤4) {f c : List Int→Int} (h : Ex n ys f c) : ∀ P : Pl,∃ c',Ex n ys (fun p=>Ev P (Go.Proofs.YtijadclebjcckaaGreat.mono (pickL p ys)) * f p) c'
 | []=>⟨_,Ex.zero.congr fun p _=>by simp [Ev]⟩
 | q :: P=>by
   obtain ⟨c1,h1'⟩:=Ex.ev hy h1 h4 h P
   obtain ⟨c2,h2⟩:=Ex.mono hy h1 h4 q.1 h
   exact ⟨_,((h2.smul q.2).add h1').congr fun p _=>by simp only [Ev];rw [Int.add_mul,Int.mul_assoc]⟩
theorem Ex.prod (hy : ys.length=n) (h1 : 1≤n) (h4 : n≤4) (u : List Int) {v : List Int} (hv : P5 n v) : ∃ c,Ex n ys (fun p=>FW n ys u p * FW n ys v p) c :=
 (Ex.one h1 h4 hv).ev hy h1 h4 (lowP 10 u (topI n ys n))
def invNB (v : List Int) : Bool:=(invs v).all fun p=>decide (0≤p.1∧p.1 < (v.length : Int)∧0≤p.2∧p.2 < (v.length : Int)∧p.1 ≠ p.2)
theorem invN_all : all5 invNB=true:=by decide +kernel
theorem prod_ne {v : List Int} (hv : P5 n v) (hd : DstY n ys) : prodP ys (invs v) ≠ 0:=by
 have:=all5_at invN_all hv.ok (by have:=hv.len;have:=hv.le;omega)
 simp only [invNB,List.all_eq_true,decide_eq_true_eq,hv.len] at this
 have key : ∀ L : List (Int × Int),(∀ p ∈ L,0≤p.1∧p.1 < (n : Int)∧0≤p.2∧p.2 < (n : Int)∧p.1 ≠ p.2)→prodP ys L ≠ 0:=fun L=>by
  induction L with
  | nil=>exact fun _=>by simp [prodP]
  | cons p L ih =>
    intro h
    rw [prodP]
    obtain ⟨a1,a2,b1,b2,hne⟩:=h p List.mem_cons_self
    have:=hd p.1.toNat p.2.toNat (by omega) (by omega) (by omega)
    exact Int.mul_ne_zero (by omega) (ih fun q hq=>h q (List.mem_cons_of_mem _ hq))
 exact key _ this
theorem FW_ne (hy : ys.length=n) {v : List Int} (hv : P5 n v) (hd : DstY n ys) : FW n ys v v ≠ 0:=by rw [FW_self hv hy];exact prod_ne hv hd
theorem sum_at (hy : ys.length=n) (h1 : 1≤n) (h4 : n≤4) {d : List Int→Int} {w : List Int} (hw : P5 n w) (h : ∀ u,P5 n u→lnN u < lnN w→d u=0) : sumF (fun u=>d u * FW n ys u w) (permsL n)=d w * FW n ys w w:=by
 have A:=aL h1 h4
 rw [← sumF_delta (v:=w) (fun u=>d u * FW n ys u w) A.nodup ((A.mem w).2 hw)]
 refine sumF_congr fun u hu=> ?_
 have hu':=(A.mem u).1 hu
 by_cases e : u=w
 ·rw [if_pos e]
 ·rw [if_neg e]
  by_cases hl : lnN u < lnN w
  ·rw [h u hu' hl,Int.zero_mul]
  ·have a:=(wrd_at hu').2.2.2
   have b:=(wrd_at hw).2.2.2
   rw [FW_zero hu' hw hy (by omega) (fun h=>e h.symm),Int.mul_zero]
theorem Ex.nil (hy : ys.length=n) (h1 : 1≤n) (h4 : n≤4) (hd : DstY n ys) {d : List Int→Int} (h : Ex n ys (fun _=>0) d) : ∀ (t : Nat) (w : List Int),lnN w=t→P5 n w→d w=0:=by
 intro t
 induction t using Nat.strongRecOn with
 | _ t ih =>
   intro w ht hw
   have:=h w hw
   rw [sum_at hy h1 h4 hw fun u hu hl=>ih (lnN u) (by omega) u rfl hu] at this
   exact (Int.mul_eq_zero.1 this.symm).resolve_right (FW_ne hy hw hd)
theorem Ex.uniq (hy : ys.length=n) (h1 : 1≤n) (h4 : n≤4) (hd : DstY n ys) {f c c' : List Int→Int} (h : Ex n ys f c) (h' : Ex n ys f c') {w : List Int} (hw : P5 n w) : c w=c' w:=by
 have:=Ex.nil hy h1 h4 hd ((h.sub h').congr fun p _=>by omega) _ w rfl hw
 omega
def dnC (k : Nat) (c : List Int→Int) (w : List Int) : Int:=if ascB k w then c (sw k w) else 0
theorem sumF_map (F : List Int→Int) (g : List Int→List Int) : ∀ L : List (List Int),sumF F (L.map g)=sumF (fun x=>F (g x)) L
 | []=>rfl
 | x :: L=>by rw [List.map_cons,sumF_cons,sumF_cons,sumF_map F g L]
theorem Ex.down (h1 : 1≤n) (h4 : n≤4) {f c : List Int→Int} (h : Ex n ys f c) {k : Nat} (hk : k+1 < n) {p : List Int} (hp : P5 n p) : f (sw k p) - f p=df ys p k * sumF (fun w=>dnC k c w * FW n ys w p) (permsL n):=by
 have A:=aL h1 h4
 rw [h p hp,h _ (hp.sw hk),← sumF_sub]
 have e : ∀ w ∈ permsL n,c w * FW n ys w (sw k p) - c w * FW n ys w p=(fun x=>df ys p k * (dnC k c x * FW n ys x p)) (sw k w):=fun w hw=>by
  have hw':=(A.mem w).1 hw
  rw [FW_rec hw' hp hk]
  unfold dnC
  dsimp only
  cases ha : ascB k w with
  | true=>rw [(hw'.asc hk ha).2];simp
  | false=>rw [(hw'.desc hk ha).2,sw_sw (by have:=hw'.len;omega)];simp;grind
 rw [sumF_congr e,← sumF_map (fun x=>df ys p k * (dnC k c x * FW n ys x p)),sumF_perm _ (A.sw k hk),sumF_mul]
theorem prod_step (hy : ys.length=n) (h1 : 1≤n) (h4 : n≤4) (hd : DstY n ys) {u v : List Int} (hu : P5 n u) (hv : P5 n v) {c : List Int→Int} (h : Ex n ys (fun p=>FW n ys u p * FW n ys v p) c)
 {k : Nat} (hk : k+1 < n) : ∃ c1 c2 c3,Ex n ys (fun p=>FW n ys (sw k u) p * FW n ys v p) c1∧Ex n ys (fun p=>FW n ys u p * FW n ys (sw k v) p) c2∧Ex n ys (fun p=>FW n ys (sw k u) p * FW n ys (sw k v) p) c3 ∧
   ∀ w,P5 n w→ascB k w=true→c (sw k w)=(if ascB k u then 0 else c1 w)+(if ascB k v then 0 else c2 w)+(if ascB k u then 0 else if ascB k v then 0 else muC n ys (k+1) c3 w - muC n ys k c3 w):=by
 obtain ⟨c1,e1⟩:=Ex.prod hy h1 h4 (sw k u) hv
 obtain ⟨c2,e2⟩:=Ex.prod hy h1 h4 u (hv.sw hk)
 obtain ⟨c3,e3⟩:=Ex.prod hy h1 h4 (sw k u) (hv.sw hk)
 refine ⟨c1,c2,c3,e1,e2,e3,fun w hw ha=> ?_⟩
 have q1 : Ex n ys (fun p=>if ascB k u then 0 else FW n ys (sw k u) p * FW n ys v p) (fun w=>if ascB k u then 0 else c1 w):=by
  cases ascB k u
  ·exact e1
  ·exact Ex.zero
 have q2 : Ex n ys (fun p=>if ascB k v then 0 else FW n ys u p * FW n ys (sw k v) p) (fun w=>if ascB k v then 0 else c2 w):=by
  cases ascB k v
  ·exact e2
  ·exact Ex.zero
 have q3 : Ex n ys (fun p=>if ascB k u then 0 else if ascB k v then 0 else yAt ys p (k+1) * (FW n ys (sw k u) p * FW n ys (sw k v) p) - yAt ys p k * (FW n ys (sw k u) p * FW n ys (sw k v) p))
  (fun w=>if ascB k u then 0 else if ascB k v then 0 else muC n ys (k+1) c3 w - muC n ys k c3 w):=by
  cases ascB k u
  ·cases ascB k v
   ·exact (e3.mu hy h1 h4 hk).sub (e3.mu hy h1 h4 (by omega))
   ·exact Ex.zero
  ·exact Ex.zero
 have q:=(q1.add q2).add q3
 have r : Ex n ys (fun p=>sumF (fun w=>dnC k c w * FW n ys w p) (permsL n)) (dnC k c):=fun p _=>rfl
 have r':=r.congr (g:=fun p=>(if ascB k u then 0 else FW n ys (sw k u) p * FW n ys v p)+(if ascB k v then 0 else FW n ys u p * FW n ys (sw k v) p)+(if ascB k u then 0 else if ascB k v then 0 else yAt ys p (k+1) * (FW n ys (sw k u) p * FW n ys (sw k v) p) - yAt ys p k * (FW n ys (sw k u) p * FW n ys (sw k v) p))) fun p hp=>by
  have hdn:=h.down h1 h4 hk hp
  rw [FW_rec hu hp hk,FW_rec hv hp hk] at hdn
  have hne:=df_ne hd hp hk
  obtain ⟨S,hS⟩ : ∃ S,S=sumF (fun w=>dnC k c w * FW n ys w p) (permsL n):=⟨_,rfl⟩
  rw [← hS] at hdn ⊢
  obtain ⟨a,ha'⟩ : ∃ a,a=df ys p k:=⟨_,rfl⟩
  have hy1 : yAt ys p (k+1)=yAt ys p k+a:=by rw [ha',df_y];omega
  rw [hy1]
  rw [← ha'] at hdn hne
  obtain ⟨Fu,hFu⟩ : ∃ a,a=FW n ys u p:=⟨_,rfl⟩
  obtain ⟨Fv,hFv⟩ : ∃ a,a=FW n ys v p:=⟨_,rfl⟩
  obtain ⟨Gu,hGu⟩ : ∃ a,a=FW n ys (sw k u) p:=⟨_,rfl⟩
  obtain ⟨Gv,hGv⟩ : ∃ a,a=FW n ys (sw k v) p:=⟨_,rfl⟩
  obtain ⟨y0,hy0⟩ : ∃ a,a=yAt ys p k:=⟨_,rfl⟩
  rw [← hFu,← hFv,← hGu,← hGv] at hdn ⊢
  rw [← hy0]
  have key : a * (((if ascB k u then 0 else Gu * Fv)+(if ascB k v then 0 else Fu * Gv)+(if ascB k u then 0 else if ascB k v then 0 else (y0+a) * (Gu * Gv) - y0 * (Gu * Gv))) - S)=0:=by
   rw [Int.mul_sub,← hdn]
   cases ascB k u <;> cases ascB k v <;> simp <;> grind
  have:=cancel hne key
  omega
 have:=r'.uniq hy h1 h4 hd q hw
 unfold dnC at this
 rw [if_pos ha] at this
 exact this
def muT (k : Nat) (w x : List Int) : Int:=(((cvUp x (k+1)).count w : Nat) : Int) - (((cvDn x (k+1)).count w : Nat) : Int) - ((((cvUp x k).count w : Nat) : Int) - (((cvDn x k).count w : Nat) : Int))
def muTB (n : Nat) : Bool:=(permsL n).all fun w=>(List.range (n - 1)).all fun k=>decide ((((permsL n).map fun x=>(muT k w x).natAbs).sum)≤8) && (permsL n).all fun x=>decide (muT k w x=0) || decide (lnN x < lnN w)
theorem muT_all : ∀ n : Fin 4,muTB (n.val+1)=true:=by decide +kernel
theorem muT_at (h1 : 1≤n) (h4 : n≤4) {w : List Int} (hw : P5 n w) {k : Nat} (hk : k+1 < n) :
 (((permsL n).map fun x=>(muT k w x).natAbs).sum≤8) ∧ ∀ x,P5 n x→muT k w x=0 ∨ lnN x < lnN w:=by
 have:=muT_all ⟨n - 1,by omega⟩
 rw [show (⟨n - 1,by omega⟩ : Fin 4).val+1=n by simp;omega] at this
 simp only [muTB,List.all_eq_true,Bool.and_eq_true,List.mem_range,decide_eq_true_eq,Bool.or_eq_true] at this
 obtain ⟨a,b⟩:=this w (((aL h1 h4).mem w).2 hw) k (by omega)
 exact ⟨a,fun x hx=>b x (((aL h1 h4).mem x).2 hx)⟩
theorem mu_diff {k : Nat} (c : List Int→Int) (w : List Int) : muC n ys (k+1) c w - muC n ys k c w=df ys w k * c w+sumF (fun x=>c x * muT k w x) (permsL n):=by
 unfold muC
 rw [df_y]
 have e : sumF (fun x=>c x * muT k w x) (permsL n)=sumF (fun x=>c x * (((cvUp x (k+1)).count w : Nat) : Int)) (permsL n) - sumF (fun x=>c x * (((cvDn x (k+1)).count w : Nat) : Int)) (permsL n) -
  (sumF (fun x=>c x * (((cvUp x k).count w : Nat) : Int)) (permsL n) - sumF (fun x=>c x * (((cvDn x k).count w : Nat) : Int)) (permsL n)):=by
  rw [← sumF_sub,← sumF_sub,← sumF_sub]
  refine sumF_congr fun x _=> ?_
  unfold muT
  grind
 rw [e]
 grind
theorem sumF_abs {c t : List Int→Int} {B : Nat} : ∀ {L : List (List Int)},(∀ x ∈ L,t x=0 ∨ (c x).natAbs≤B)→(sumF (fun x=>c x * t x) L).natAbs≤B * (L.map fun x=>(t x).natAbs).sum
 | [],_=>by simp [sumF]
 | x :: L,h=>by
   rw [sumF_cons,List.map_cons,List.sum_cons,Nat.mul_add]
   have ih:=sumF_abs (L:=L) fun y hy=>h y (List.mem_cons_of_mem _ hy)
   have : (c x * t x).natAbs≤B * (t x).natAbs:=by
    rw [Int.natAbs_mul]
    rcases h x List.mem_cons_self with h | h
    ·rw [h];simp
    ·exact Nat.mul_le_mul_right _ h
   omega
theorem df_abs {w : List Int} (hy9 : ∀ x ∈ ys,-9≤x∧x≤9) (k : Nat) : (df ys w k).natAbs≤18:=by
 have yr : ∀ i : Nat,-9≤ys.getD i 0∧ys.getD i 0≤9:=fun i=>by
  by_cases hi : i < ys.length
  ·exact hy9 _ (getD_mem hi)
  ·rw [List.getD_eq_getElem?_getD,List.getElem?_eq_none (by omega)];simp
 unfold df
 have a:=yr (w.getD (k+1) 0).toNat
 have b:=yr (w.getD k 0).toNat
 omega
theorem prod_bound (hy : ys.length=n) (h1 : 1≤n) (h4 : n≤4) (hd : DstY n ys) (hy9 : ∀ x ∈ ys,-9≤x∧x≤9) : ∀ (t : Nat) (w u v : List Int) (c : List Int→Int),lnN w=t→P5 n w→P5 n u→P5 n v →
 Ex n ys (fun p=>FW n ys u p * FW n ys v p) c→(c w).natAbs≤28 ^ t:=by
 intro t
 induction t using Nat.strongRecOn with
 | _ t ih =>
   intro w u v c ht hw hu hv h
   by_cases h0 : lnN w=0
   ·have hi:=id_of_len hw h0
    have : FW n ys u w * FW n ys v w=_:=h w hw
    rw [sum_at hy h1 h4 hw fun x _ hl=>by omega,hi,FW_id hy h1 hu,FW_id hy h1 hv,FW_id hy h1 (by rw [← hi];exact hw),if_pos rfl,← hi] at this
    have e : c w=(if w=u then 1 else 0) * (if w=v then 1 else 0):=by omega
    have : 1≤28 ^ t:=Nat.one_le_pow _ _ (by omega)
    rw [e]
    by_cases a : w=u <;> by_cases b : w=v <;> simp [a,b] <;> omega
   ·obtain ⟨k,hk,hdn⟩ : ∃ k,k+1 < n∧ascB k w=false:=((blid_at hw).2).resolve_left h0
    have hl:=len_desc hw hk hdn
    have hx:=hw.sw hk
    have hax:=(hw.desc hk hdn).2
    obtain ⟨c1,c2,c3,e1,e2,e3,hst⟩:=prod_step hy h1 h4 hd hu hv h hk
    have:=hst _ hx hax
    rw [sw_sw (by have:=hw.len;omega),mu_diff] at this
    have b1:=ih _ (by omega) _ _ _ _ rfl hx (hu.sw hk) hv e1
    have b2:=ih _ (by omega) _ _ _ _ rfl hx hu (hv.sw hk) e2
    have b3:=ih _ (by omega) _ _ _ _ rfl hx (hu.sw hk) (hv.sw hk) e3
    have m:=muT_at h1 h4 hx hk
    have b4:=sumF_abs (c:=c3) (t:=muT k (sw k w)) (B:=28 ^ lnN (sw k w)) (L:=permsL n) fun x hx'=>by
     have hx5:=((aL h1 h4).mem x).1 hx'
     rcases m.2 x hx5 with h | h
     ·exact .inl h
     ·exact .inr (Nat.le_trans (ih _ (by omega) _ _ _ _ rfl hx5 (hu.sw hk) (hv.sw hk) e3) (Nat.pow_le_pow_right (by omega) (by omega)))
    have b5 : 28 ^ lnN (sw k w) * ((permsL n).map fun x=>(muT k (sw k w) x).natAbs).sum≤28 ^ lnN (sw k w) * 8:=Nat.mul_le_mul_left _ m.1
    have d1:=df_abs (w:=sw k w) hy9 k
    have b6 : (df ys (sw k w) k * c3 (sw k w)).natAbs≤18 * 28 ^ lnN (sw k w):=by rw [Int.natAbs_mul];exact Nat.mul_le_mul d1 b3
    have hp : 28 ^ t=28 * 28 ^ lnN (sw k w):=by rw [← ht,← hl,Nat.pow_succ,Nat.mul_comm]
    rw [hp]
    obtain ⟨X,hX⟩ : ∃ X,X=28 ^ lnN (sw k w):=⟨_,rfl⟩
    rw [← hX] at b1 b2 b4 b5 b6 ⊢
    obtain ⟨S,hS⟩ : ∃ S,S=sumF (fun x=>c3 x * muT k (sw k w) x) (permsL n):=⟨_,rfl⟩
    obtain ⟨D,hD⟩ : ∃ D,D=df ys (sw k w) k * c3 (sw k w):=⟨_,rfl⟩
    rw [← hS] at b4 this
    rw [← hD] at b6 this
    cases ha : ascB k u <;> cases hb : ascB k v <;> simp only [ha,hb,if_true,if_false,Bool.false_eq_true] at this <;> omega
def subsW (v : List Int) : List Nat→List Int→List Int→List (List (Int × Int))
 | [],_,h=>if h=v then [[]] else []
 | k :: r,u,h=>subsW v r (sw k u) h ++ (if ascB k h then (subsW v r (sw k u) (sw k h)).map ((u.getD (k+1) 0,u.getD k 0) :: ·) else [])
def sumP (ys : List Int) : List (List (Int × Int))→Int
 | []=>0
 | l :: S=>prodP ys l+sumP ys S
theorem sumP_append (ys : List Int) : ∀ A B,sumP ys (A ++ B)=sumP ys A+sumP ys B
 | [],B=>by simp [sumP]
 | l :: A,B=>by rw [List.cons_append,sumP,sumP,sumP_append ys A B];omega
theorem sumP_map (ys : List Int) (p : Int × Int) : ∀ A,sumP ys (A.map (p :: ·))=(ys.getD p.1.toNat 0 - ys.getD p.2.toNat 0) * sumP ys A
 | []=>by simp [sumP]
 | l :: A=>by rw [List.map_cons,sumP,sumP,sumP_map ys p A,prodP,Int.mul_add]
theorem sumS_subs (v ys : List Int) : ∀ (r : List Nat) (u h : List Int),sumS v ys r u h=sumP ys (subsW v r u h)
 | [],u,h=>by
   rw [sumS,subsW]
   by_cases e : h=v
   ·rw [if_pos e,if_pos e];simp [sumP,prodP]
   ·rw [if_neg e,if_neg e];rfl
 | k :: r,u,h=>by
   rw [sumS,subsW,sumP_append,sumS_subs v ys r]
   congr 1
   cases ascB k h with
   | true=>rw [if_pos rfl,if_pos rfl,sumP_map,sumS_subs v ys r]
   | false=>rfl
def nd (ys : List Int) (p : Int × Int) : Nat:=(ys.getD p.1.toNat 0 - ys.getD p.2.toNat 0).natAbs
def prodN (ys : List Int) : List (Int × Int)→Nat
 | []=>1
 | p :: l=>nd ys p * prodN ys l
theorem prodP_abs (ys : List Int) : ∀ l,(prodP ys l).natAbs=prodN ys l
 | []=>rfl
 | p :: l=>by rw [prodP,prodN,Int.natAbs_mul,prodP_abs ys l];rfl
theorem prodN_perm (ys : List Int) {a b : List (Int × Int)} (h : a.Perm b) : prodN ys a=prodN ys b:=by
 induction h with
 | nil=>rfl
 | cons x _ ih=>rw [prodN,prodN,ih]
 | swap x y l=>simp only [prodN];rw [Nat.mul_left_comm]
 | trans _ _ a b=>exact a.trans b
def normP (p : Int × Int) : Int × Int:=if p.1≤p.2 then p else (p.2,p.1)
theorem prodN_norm (ys : List Int) : ∀ l,prodN ys (l.map normP)=prodN ys l
 | []=>rfl
 | p :: l=>by
   rw [List.map_cons,prodN,prodN,prodN_norm ys l]
   congr 1
   unfold normP nd
   split
   ·rfl
   ·dsimp only;omega
theorem prodN_small (ys : List Int) (hd : ∀ p,nd ys p≤18) : ∀ l,prodN ys l≤18 ^ l.length
 | []=>Nat.le_refl _
 | p :: l=>by rw [prodN,List.length_cons,Nat.pow_succ,Nat.mul_comm (18 ^ _)];exact Nat.mul_le_mul (hd p) (prodN_small ys hd l)
theorem sumP_abs (ys : List Int) (B : Nat) : ∀ S,(∀ l ∈ S,prodN ys l≤B)→(sumP ys S).natAbs≤S.length * B
 | [],_=>by simp [sumP]
 | l :: S,h=>by
   rw [sumP,List.length_cons,Nat.add_mul,Nat.one_mul]
   have a:=sumP_abs ys B S fun x hx=>h x (List.mem_cons_of_mem _ hx)
   have b:=h l List.mem_cons_self
   rw [← prodP_abs] at b
   omega
def six : List (Int × Int):=[(0,1),(1,2),(2,3),(0,2),(1,3),(0,3)]
def sixB (a b c : Nat) : Bool :=
 let d01:=if a≤18 then 18 - a else a - 18
 let d12:=if b≤18 then 18 - b else b - 18
 let d23:=if c≤18 then 18 - c else c - 18
 let d02:=if a+b≤36 then 36 - (a+b) else a+b - 36
 let d13:=if b+c≤36 then 36 - (b+c) else b+c - 36
 let d03:=if a+b+c≤54 then 54 - (a+b+c) else a+b+c - 54
 if 18 < d02 then true else if 18 < d13 then true else if 18 < d03 then true else
 Nat.ble (d01 * d12 * d23 * d02 * d13 * d03) 1000000 && (Nat.ble (d12 * d23 * d02 * d13 * d03) 500000 && (Nat.ble (d01 * d23 * d02 * d13 * d03) 500000 && (Nat.ble (d01 * d12 * d02 * d13 * d03) 500000 && (Nat.ble (d01 * d12 * d23 * d13 * d03) 500000 && (Nat.ble (d01 * d12 * d23 * d02 * d03) 500000 && Nat.ble (d01 * d12 * d23 * d02 * d13) 500000)))))
def sixAll : Bool:=(List.range 37).all fun a=>(List.range 37).all fun b=>(List.range 37).all fun c=>sixB a b c
theorem six_all : sixAll=true:=by decide +kernel
theorem six_at {ys : List Int} (hy9 : ∀ i : Nat,-9≤ys.getD i 0∧ys.getD i 0≤9) : prodN ys six≤1000000 ∧ ∀ i : Fin 6,prodN ys (six.eraseIdx i.val)≤500000:=by
 have h0:=hy9 0
 have h1:=hy9 1
 have h2:=hy9 2
 have h3:=hy9 3
 obtain ⟨y0,e0⟩ : ∃ y,y=ys.getD 0 0:=⟨_,rfl⟩
 obtain ⟨y1,e1⟩ : ∃ y,y=ys.getD 1 0:=⟨_,rfl⟩
 obtain ⟨y2,e2⟩ : ∃ y,y=ys.getD 2 0:=⟨_,rfl⟩
 obtain ⟨y3,e3⟩ : ∃ y,y=ys.getD 3 0:=⟨_,rfl⟩
 rw [← e0] at h0
 rw [← e1] at h1
 rw [← e2] at h2
 rw [← e3] at h3
 have hs:=six_all
 unfold sixAll at hs
 simp only [List.all_eq_true,List.mem_range] at hs
 have hs:=hs (y1 - y0+18).toNat (by omega) (y2 - y1+18).toNat (by omega) (y3 - y2+18).toNat (by omega)
 obtain ⟨d01,g01⟩ : ∃ d,d=(y0 - y1).natAbs:=⟨_,rfl⟩
 obtain ⟨d12,g12⟩ : ∃ d,d=(y1 - y2).natAbs:=⟨_,rfl⟩
 obtain ⟨d23,g23⟩ : ∃ d,d=(y2 - y3).natAbs:=⟨_,rfl⟩
 obtain ⟨d02,g02⟩ : ∃ d,d=(y0 - y2).natAbs:=⟨_,rfl⟩
 obtain ⟨d13,g13⟩ : ∃ d,d=(y1 - y3).natAbs:=⟨_,rfl⟩
 obtain ⟨d03,g03⟩ : ∃ d,d=(y0 - y3).natAbs:=⟨_,rfl⟩
 unfold sixB at hs
 have r01 : (if (y1 - y0+18).toNat≤18 then 18 - (y1 - y0+18).toNat else (y1 - y0+18).toNat - 18)=d01:=by split <;> omega
 have r12 : (if (y2 - y1+18).toNat≤18 then 18 - (y2 - y1+18).toNat else (y2 - y1+18).toNat - 18)=d12:=by split <;> omega
 have r23 : (if (y3 - y2+18).toNat≤18 then 18 - (y3 - y2+18).toNat else (y3 - y2+18).toNat - 18)=d23:=by split <;> omega
 have r02 : (if (y1 - y0+18).toNat+(y2 - y1+18).toNat≤36 then 36 - ((y1 - y0+18).toNat+(y2 - y1+18).toNat) else (y1 - y0+18).toNat+(y2 - y1+18).toNat - 36)=d02:=by split <;> omega
 have r13 : (if (y2 - y1+18).toNat+(y3 - y2+18).toNat≤36 then 36 - ((y2 - y1+18).toNat+(y3 - y2+18).toNat) else (y2 - y1+18).toNat+(y3 - y2+18).toNat - 36)=d13:=by split <;> omega
 have r03 : (if (y1 - y0+18).toNat+(y2 - y1+18).toNat+(y3 - y2+18).toNat≤54 then 54 - ((y1 - y0+18).toNat+(y2 - y1+18).toNat+(y3 - y2+18).toNat) else (y1 - y0+18).toNat+(y2 - y1+18).toNat+(y3 - y2+18).toNat - 54)=d03:=by split <;> omega
 rw [r01,r12,r23,r02,r13,r03] at hs
 rw [if_neg (by omega),if_neg (by omega),if_neg (by omega)] at hs
 simp only [Bool.and_eq_true,Nat.ble_eq] at hs
 have n01 : nd ys (0,1)=d01:=by rw [g01,e0,e1];rfl
 have n12 : nd ys (1,2)=d12:=by rw [g12,e1,e2];rfl
 have n23 : nd ys (2,3)=d23:=by rw [g23,e2,e3];rfl
 have n02 : nd ys (0,2)=d02:=by rw [g02,e0,e2];rfl
 have n13 : nd ys (1,3)=d13:=by rw [g13,e1,e3];rfl
 have n03 : nd ys (0,3)=d03:=by rw [g03,e0,e3];rfl
 obtain ⟨s0,s1,s2,s3,s4,s5,s6⟩:=hs
 refine ⟨?_,fun i=> ?_⟩
 ·simp only [six,prodN,n01,n12,n23,n02,n13,n03,Nat.mul_one]
  simpa only [Nat.mul_assoc] using s0
 ·match i with
  | ⟨0,_⟩=>simp only [six,List.eraseIdx,prodN,n01,n12,n23,n02,n13,n03,Nat.mul_one];simpa only [Nat.mul_assoc] using s1
  | ⟨1,_⟩=>simp only [six,List.eraseIdx,prodN,n01,n12,n23,n02,n13,n03,Nat.mul_one];simpa only [Nat.mul_assoc] using s2
  | ⟨2,_⟩=>simp only [six,List.eraseIdx,prodN,n01,n12,n23,n02,n13,n03,Nat.mul_one];simpa only [Nat.mul_assoc] using s3
  | ⟨3,_⟩=>simp only [six,List.eraseIdx,prodN,n01,n12,n23,n02,n13,n03,Nat.mul_one];simpa only [Nat.mul_assoc] using s4
  | ⟨4,_⟩=>simp only [six,List.eraseIdx,prodN,n01,n12,n23,n02,n13,n03,Nat.mul_one];simpa only [Nat.mul_assoc] using s5
  | ⟨5,_⟩=>simp only [six,List.eraseIdx,prodN,n01,n12,n23,n02,n13,n03,Nat.mul_one];simpa only [Nat.mul_assoc] using s6
  | ⟨k+6,h⟩=>omega
def bndS (S : List (List (Int × Int))) : Bool :=
 (decide (S.length≤9) && S.all fun l=>decide (l.length≤4)) || (decide (S.length≤2) && S.all fun l=>(List.range 6).any fun i=>(l.map normP).isPerm (six.eraseIdx i)) || (decide (S.length≤1) && S.all fun l=>(l.map normP).isPerm six)
def bndB (v w : List Int) : Bool:=bndS (subsW v (fstL w) (idL w.length) (idL w.length))
theorem bnd_all : pair4 bndB=true:=by decide +kernel
theorem FW_bound {n : Nat} {ys v w : List Int} (hy : ys.length=n) (h1 : 1≤n) (h4 : n≤4) (hy9 : ∀ x ∈ ys,-9≤x∧x≤9) (hv : P5 n v) (hw : P5 n w) : (FW n ys v w).natAbs≤1000000:=by
 have hb:=pair4_at bnd_all hv hw h4
 have hwd:=wrd_at hw
 have hval:=sum_val hy h1 (by omega) _ (fstL w) v rfl hv hwd.2.1
 rw [hwd.1,sumS_subs] at hval
 rw [hval]
 unfold bndB at hb
 rw [hw.len] at hb
 obtain ⟨S,hS⟩ : ∃ S,S=subsW v (fstL w) (idL n) (idL n):=⟨_,rfl⟩
 rw [← hS] at hb ⊢
 have yr : ∀ i : Nat,-9≤ys.getD i 0∧ys.getD i 0≤9:=fun i=>by
  by_cases hi : i < ys.length
  ·exact hy9 _ (getD_mem hi)
  ·rw [List.getD_eq_getElem?_getD,List.getElem?_eq_none (by omega)];simp
 have hd : ∀ p,nd ys p≤18:=fun p=>by
  have a:=yr p.1.toNat
  have b:=yr p.2.toNat
  unfold nd
  omega
 have h6:=six_at yr
 unfold bndS at hb
 simp only [Bool.or_eq_true,Bool.and_eq_true,List.all_eq_true,decide_eq_true_eq,List.any_eq_true,List.mem_range] at hb
 rcases hb with (⟨a,b⟩ | ⟨a,b⟩) | ⟨a,b⟩
 ·have:=sumP_abs ys (18 ^ 4) S fun l hl=>Nat.le_trans (prodN_small ys hd l) (Nat.pow_le_pow_right (by omega) (b l hl))
  have:=Nat.mul_le_mul_right (18 ^ 4) a
  omega
 ·have:=sumP_abs ys 500000 S fun l hl=>by
   obtain ⟨i,hi,hp⟩:=b l hl
   rw [← prodN_norm,prodN_perm ys (List.isPerm_iff.1 hp)]
   exact h6.2 ⟨i,hi⟩
  have:=Nat.mul_le_mul_right 500000 a
  omega
 ·have:=sumP_abs ys 1000000 S fun l hl=>by
   rw [← prodN_norm,prodN_perm ys (List.isPerm_iff.1 (b l hl))]
   exact h6.1
  have:=Nat.mul_le_mul_right 1000000 a
  omega
theorem pickL_swap {n : Nat} {p ys : List Int} (hp : P5 n p) {i j : Nat} (hi : i < n) (hj : j < n) (t : Nat) : Mg (yAt ys p i - yAt ys p j) ((pickL p ys).getD t 0) ((pickL (swapL p i j) ys).getD t 0):=by
 have h5:=hp.le
 have hl:=hp.len
 by_cases h7 : t < 7
 ·rw [pickL_getD _ _ h7,pickL_getD _ _ h7]
  unfold pick
  rw [swapL_length]
  by_cases ht : t < p.length
  ·rw [if_pos ht,if_pos ht,swapL_getD (by omega) (by omega)]
   by_cases h1 : t=j
   ·rw [if_pos h1,h1]
    show Mg _ (yAt ys p j) (yAt ys p i)
    exact ⟨-1,by omega⟩
   ·rw [if_neg h1]
    by_cases h2 : t=i
    ·rw [if_pos h2,h2]
     show Mg _ (yAt ys p i) (yAt ys p j)
     exact ⟨1,by omega⟩
    ·rw [if_neg h2];exact Mg.refl _ _
  ·rw [if_neg ht,if_neg ht];exact Mg.refl _ _
 ·have a : ∀ y,(pickL y ys).getD t 0=0:=fun y=>by rw [List.getD_eq_getElem?_getD,List.getElem?_eq_none (by rw [pickL_length];omega)];rfl
  rw [a,a];exact Mg.refl _ _
theorem FW_swap {n : Nat} {p ys : List Int} (hp : P5 n p) {i j : Nat} (hi : i < n) (hj : j < n) (v : List Int) : Mg (yAt ys p i - yAt ys p j) (FW n ys v p) (FW n ys v (swapL p i j)) :=
 EV_mg (pickL_swap hp hi hj)
theorem Mg.tmod {N a b : Int} (h : Mg N a b) : (a - b).tmod N=0:=by
 obtain ⟨m,rfl⟩:=h
 have : b+N * m - b=N * m:=by omega
 rw [this]
 exact Int.mul_tmod_right N m
def wz (r : List Nat) : List Int:=r.map fun (k : Nat)=>(k : Int)
theorem sliceEq_any (v1 v2 : Value) (xs ys : List Int) (w : World) (h1 : Ints w v1 xs) (h2 : Ints w v2 ys) :
 Calls Tryz.prog 39 #[v1,v2] w fun e w'=>e=.returned (.bool (decide (xs=ys)))∧Qt w w':=by
 obtain ⟨p,cap,rfl,⟨hx1,hx⟩,hxc⟩:=h1
 obtain ⟨q,cap',rfl,⟨hy1,hy⟩,hyc⟩:=h2
 unfold maxLen at hx hy
 by_cases hl : xs.length=ys.length
 ·have e1 : ((xs.length : Int) != (ys.length : Int))=false:=by simp [hl]
  have Hl:=Lib.hid hl
  clear hl
  go_enter Tryz.func39,Tryz.ntmps39
  go_wp2
  clear e1
  go_loopg [5,13] xs.length (fun g s5 i wr=> ∃ k : Nat,k≤xs.length∧g=xs.length - k∧i=.int .i64 k∧Qt w wr∧Hid (∀ j,j < k→xs.getD j 0=ys.getD j 0))
  case atStart=>exact ⟨0,Nat.zero_le _,rfl,rfl,Qt.refl _,fun j hj=>absurd hj (Nat.not_lt_zero _)⟩
  case round =>
   obtain ⟨k,hk,rfl,rfl,hq,hp⟩:=hrel
   by_cases hlt : k < xs.length
   ·obtain ⟨b,off,rfl,hc⟩:=hxc (by omega)
    have hl:=Hl.out
    obtain ⟨b',off',rfl,hc'⟩:=hyc (by omega)
    have c1:=hq.cell (hc k hlt)
    have c2:=hq.cell (hc' k (by omega))
    have hk2 : k < ys.length:=by omega
    unfold iv at c1 c2
    clear hl hxc hyc hc hc'
    go_wp2
    go_quiet (fail)
    go_wp2
    ·have ht : (xs[k] != ys[k])=true:=by assumption
     go_ret
     refine ⟨ret_bool ?_,hq.drewN _⟩
     symm
     simp only [decide_eq_false_iff_not]
     intro e
     subst e
     simp at ht
    ·have ht : (xs[k] != ys[k])=false:=by assumption
     go_roundg (xs.length - (k+1))
     case measure=>omega
     case rel =>
      refine ⟨k+1,by omega,rfl,by go_num,hq.drewN _,eq_snoc hp.out ?_⟩
      have:=by simpa using ht
      simpa [List.getD_eq_getElem?_getD,hlt,hk2] using this
   ·go_wp2
    go_ret
    refine ⟨ret_bool ?_,hq⟩
    symm
    simp only [decide_eq_true_eq]
    exact getD_eq_list Hl.out fun j hj=>hp.out j (by omega)
 ·have e1 : ((xs.length : Int) != (ys.length : Int))=true:=by simp;omega
  go_enter Tryz.func39,Tryz.ntmps39
  go_wp2
  go_ret
  refine ⟨ret_bool ?_,Qt.refl _⟩
  symm
  simp only [decide_eq_false_iff_not]
  intro e
  exact hl (by rw [e])
def Apart (v u : Value) : Prop:=∀ b off l k,v=.slice (some ⟨b,off,none⟩) l k→u.ownBlock ≠ some b
theorem Ints.grown {w w' : World} {v u : Value} {xs : List Int} (h : Ints w v xs) (hg : w.grownBy w' u.ownBlock) (hn : Apart v u) : Ints w' v xs:=by
 obtain ⟨p,cap,rfl,h1,hc⟩:=h
 refine ⟨p,cap,rfl,h1,fun h0=> ?_⟩
 obtain ⟨b,off,rfl,hc2⟩:=hc h0
 refine ⟨b,off,rfl,fun j hj=> ?_⟩
 have hc0:=hc2 j hj
 rw [← hc0]
 exact World.cell?_of_block (hg.block b (World.block_lt_of_cell? _ _ hc0) (fun e=>hn b off _ _ rfl e.symm))
theorem Ints.apart {w : World} {v u : Value} {xs : List Int} (h : Ints w v xs) (h0 : 0 < xs.length) {lo : Nat} (hlo : w.heap.size≤lo) (hu : ∀ k,u.ownBlock=some k→lo≤k) : Apart v u:=by
 obtain ⟨p,cap,rfl,h1,hc⟩:=h
 obtain ⟨b,off,rfl,hc2⟩:=hc h0
 intro b' off' l k e hb
 injection e with e
 injection e with e
 injection e with e1
 subst e1
 have : b < w.heap.size:=World.block_lt_of_cell? _ _ (hc2 0 h0)
 have:=hu _ hb
 omega
def PlcOk (n : Nat) (u : List Int) : Prop:=u.length=n ∧ ∀ j,j < n → ∃ m : Nat,u.getD j 0=(m : Int)∧m < n
theorem PlcOk.sw {n : Nat} {u : List Int} (h : PlcOk n u) {k : Nat} (hk : k+1 < n) : PlcOk n (sw k u):=by
 refine ⟨by rw [sw_length];exact h.1,fun j hj=> ?_⟩
 rw [Go.Proofs.YtijadclebjcckaaGreat.sw,swapL_getD (by rw [h.1];omega) (by rw [h.1];omega)]
 split
 ·exact h.2 k (by omega)
 ·split
  ·exact h.2 (k+1) hk
  ·exact h.2 j hj
end
section
open Go.RowKit Go.Maps Go.WideMaps Go.WideElems Go.MapKept Go.ChangeMaps Go.ChangeShapes
def topS (n : Nat) : Nat→Nat
 | 0=>0
 | i+1=>topS n i+(n - 1 - i)
theorem topS_le {n i j : Nat} (hn : n≤5) (hi : i < n) (hj : j≤n - 1 - i) : topS n i+j≤10:=by
 have h : ∀ n : Fin 6,∀ i : Fin 6,(i : Nat) < n→topS n i+(n - 1 - i)≤10:=by decide
 have:=h ⟨n,by omega⟩ ⟨i,by omega⟩ hi
 simp only at this
 omega
theorem topS_end {n : Nat} (hn : n≤5) : topS n n≤10:=by
 have h : ∀ n : Fin 6,topS n n≤10:=by decide
 exact h ⟨n,by omega⟩
theorem double_any (vw vy : Value) (xs ys : List Int) (w : World) (hw : Ints w vw xs) (hy : Ints w vy ys) (h1 : 1≤xs.length) (h5 : xs.length≤5) (hyl : ys.length=xs.length) (hb : ∀ x ∈ ys,-9≤x∧x≤9) (hok : lowOk 10 xs=true) :
 Calls Tryz.prog 106 #[vw,vy] w fun e w'=> ∃ u',e=.returned u'∧PolV w' u' 10 10240000000000 (dblP xs ys)∧Below w.heap.size w w':=by
 have Hw:=Lib.hid hw
 have Hy:=Lib.hid hy
 obtain ⟨pw,cw,rfl,⟨hw1,hw2⟩,hwc⟩:=hw
 obtain ⟨py,cy,rfl,⟨hy1,hy2⟩,hyc⟩:=hy
 unfold maxLen at hw2 hy2
 have Hyc:=Lib.hid hyc
 have hmm:=@run_makeMap Tryz.prog
 have hbd:=buildE
 have hkey : keyOf Tryz.prog 107 (.agg #[.int .i64 0,.int .i64 0,.int .i64 0,.int .i64 0,.int .i64 0,.int .i64 0,.int .i64 0])=some (kl [0,0,0,0,0,0,0]):=keyOf_kv (e:=[0,0,0,0,0,0,0]) (d:=0) ⟨rfl,by simp⟩ (by omega)
 have hown0:=World.ownsMap_made (H:=Unit) w Tryz.prog 107 (plainElem Tryz.prog 3)
 clear hwc hyc
 go_enter Tryz.func106,Tryz.ntmps106
 go_wp2_with (first
  | (refine wpList_insert_own rfl _ _ _ rfl w.heap.size 0 _ rfl hown0 (by omega) _ _ 1 rfl rfl hkey (by decide) ?_;intro w0 hown1 hg0;go_frame)
  | fail)
 have hp0 : PolV w0 (.map (some w.heap.size)) 0 1 (topI xs.length ys 0):=⟨_,_,rfl,hown1,by
  have:=(PolM.empty 0).putNew (e:=[0,0,0,0,0,0,0]) (c:=1) (by omega) ⟨rfl,by simp⟩ rfl (by decide)
  exact this⟩
 have Hp0:=Lib.hid hp0
 have Hb0:=Lib.hid (show Below w.heap.size w w0 from ((Below.refl _ _).alloc (Nat.le_refl _) _).grown hg0 (by simp) (fun j hj=>by cases hj;exact Nat.le_refl _))
 obtain ⟨n,hn⟩ : ∃ n,n=xs.length:=⟨_,rfl⟩
 have hn5 : n≤5:=by omega
 have hn1 : 1≤n:=by omega
 obtain ⟨B,hB⟩ : ∃ B,B=w.heap.size:=⟨_,rfl⟩
 rw [hyl] at hy1 ⊢
 rw [← hn] at hyl hw1 hy1 Hp0 ⊢
 have hb0:=Lib.hid hb
 clear hown1 hp0 hg0 hown0 hkey hbd hmm hb
 have Hn:=Lib.hid hn
 have HB:=Lib.hid hB
 rw [← hB] at Hb0 Hp0 ⊢
 clear hn hB
 go_loopg [6,7,8,15] n (fun g s6 s7 s8 s15 wr=> ∃ (i b : Nat),i≤n∧g=n - i∧s15=.int .i64 (i : Int)∧s6=.map (some b)∧Hid (PolV wr (.map (some b)) (topS n i) (2 ^ topS n i) (topI n ys i))∧Hid (Below B w wr))
 case atStart=>exact ⟨0,B,Nat.zero_le _,rfl,rfl,rfl,Hp0,Hb0⟩
 case round =>
  obtain ⟨i,b,hi,rfl,rfl,rfl,hp,hb⟩:=hrel
  obtain ⟨wx,rfl⟩ : ∃ x : World,x=wr:=⟨_,rfl⟩
  by_cases hin : i < n
  ·have hini : (i : Int) < (n : Int):=by omega
   have hbnd : (n : Int) - 1 - (i : Int)=((n - 1 - i : Nat) : Int):=by omega
   have Hp:=Lib.hid hp.out
   have Hb:=Lib.hid hb.out
   clear hp hb
   go_wp2_with fail
   go_loopg [6,8,22] (n - 1 - i) (fun g s6 s8 s22 wr=> ∃ (j b : Nat),j≤n - 1 - i∧g=n - 1 - i - j∧s22=.int .i64 (j : Int)∧s6=.map (some b)∧Hid (PolV wr (.map (some b)) (topS n i+j) (2 ^ (topS n i+j)) (topJ i ys j (topI n ys i)))∧Hid (Below B w wr))
   case atStart=>exact ⟨0,b,Nat.zero_le _,rfl,rfl,rfl,Hp,Hb⟩
   case round =>
    obtain ⟨j,b2,hj,rfl,rfl,rfl,hp,hb⟩:=hrel
    obtain ⟨wy,rfl⟩ : ∃ x : World,x=wr:=⟨_,rfl⟩
    by_cases hjn : j < n - 1 - i
    ·have hjni : (j : Int) < (n : Int) - 1 - (i : Int):=by omega
     have hjn2 : (j : Int) < (n : Int):=by omega
     obtain ⟨bY,oy,rfl,hcy⟩:=Hyc.out (by omega)
     have c0:=hcy j (by omega)
     unfold iv at c0
     obtain ⟨y,hyj⟩ : ∃ y,y=ys.getD j 0:=⟨_,rfl⟩
     have hyb:=hb0.out y (by rw [hyj];exact getD_mem (by omega))
     rw [← hyj] at c0
     have c1 : wy.cell? ⟨bY,oy+j,none⟩=some (.int .i64 y):=cell_below (HB.out ▸ hb.out) c0
     have Hyj:=Lib.hid hyj
     have hs:=topS_le hn5 hin (j:=j+1) (by omega)
     have hpow : 2 ^ (topS n i+j)≤1024:=Nat.le_trans (Nat.pow_le_pow_right (by omega) (show topS n i+j≤10 by omega)) (by decide)
     have hp2:=PolV.below (w':=wy.drew) hp.out (Below.refl _ _).drew
     obtain ⟨N,hN⟩ : ∃ N,N=2 ^ (topS n i+j):=⟨_,rfl⟩
     obtain ⟨d0,hd0⟩ : ∃ d0,d0=topS n i+j:=⟨_,rfl⟩
     obtain ⟨T,hT⟩ : ∃ T,T=topJ i ys j (topI n ys i):=⟨_,rfl⟩
     have hd10 : d0+1≤10:=by omega
     rw [← hN,← hT,← hd0] at hp2
     rw [← hN] at hpow
     have Hp2:=Lib.hid hp2
     have HN:=Lib.hid hN
     have HT:=Lib.hid hT
     have Hd0:=Lib.hid hd0
     have Hb2:=Lib.hid (show Below B w wy.drew from hb.out.drew)
     have hwn : IntKind.i64.wrap (-y) = -y:=k64 (by omega) (by omega)
     have c1' : wy.drew.cell? ⟨bY,oy+j,none⟩=some (.int .i64 y):=c1
     clear hcy c0 hyj hs hp2 hN hT hd0 hp hb
     go_wp2_with fail
     go_region_held3 (fun w'=>w'.cell? ⟨bY,oy+j,none⟩=some (.int .i64 y))
      (first | with_reducible assumption | (trace_state;fail))
      (first
        | (go_at_call 127;refine (raised_any _ i d0 N T _ Hp2.out (by omega) (by omega) (by omega)).mono ?_;rintro e w1 ⟨u1,rfl,hp1,hb1⟩;have Hp1:=Lib.hid hp1;obtain ⟨b1,D1,rfl,_,_⟩:=hp1;have c2:=cell_below hb1 c1';have Hb1:=Lib.hid hb1)
        | (go_at_call 73;refine (plus_any _ _ (-y) (d0+1) N N (rsP i T) T _ Hp1.out ((Hp2.out.below Hb1.out).mono (Nat.le_succ _) (Nat.le_refl _)) (by omega) (by omega)).mono ?_;rintro e w2 ⟨u2,rfl,hp3,hb3⟩;have Hp3:=Lib.hid hp3;obtain ⟨b3,D3,rfl,_,_⟩:=hp3;have c3:=cell_below hb3 c2;have Hb3:=Lib.hid hb3))
     clear hwn
     go_wp2_with fail
     go_roundg (n - 1 - i - (j+1))
     case measure=>omega
     case rel =>
      refine ⟨j+1,b3,by omega,rfl,by go_num,rfl,Lib.hid ?_,Lib.hid ((Hb2.out.trans (Hb1.out.mono (Nat.le_trans (Nat.le_of_eq HB.out) Hb2.out.size))).trans (Hb3.out.mono (Nat.le_trans (Nat.le_of_eq HB.out) (Nat.le_trans Hb2.out.size Hb1.out.size))))⟩
      have:=Hp3.out
      rw [Hd0.out,HN.out,HT.out,Hyj.out] at this
      rw [topJ,← Nat.add_assoc,Nat.pow_succ,Nat.mul_two]
      exact this
    ·have hjni : ¬ (j : Int) < (n : Int) - 1 - (i : Int):=by omega
     obtain rfl : j=n - 1 - i:=by omega
     go_wp2_with fail
     go_roundg (n - (i+1))
     case measure=>omega
     case rel=>exact ⟨i+1,b2,by omega,rfl,by go_num,rfl,hp,hb⟩
  ·have hini : ¬ (i : Int) < (n : Int):=by omega
   have hie : n=i:=by omega
   subst hie
   have h0:=topS_end hn5
   have hpow : 2 ^ topS n n≤1024:=Nat.le_trans (Nat.pow_le_pow_right (by omega) h0) (by decide)
   have hp1:=hp.out.mono h0 hpow
   have Hp1:=Lib.hid hp1
   have Hb1:=Lib.hid hb.out
   have Hok:=Lib.hid hok
   have Hw2 : Hid (Ints w (.slice pw n cw) xs):=by rw [Hn.out];exact Hw
   clear hp hb hp1 hpow h0 hok
   go_wp2_with fail
   refine (lowered_any 10 (topI n ys n) (by omega) (by omega) 10 xs _ _ 1024 _ Hok.out h5 Hp1.out (by decide) (Hw2.out.below (HB.out ▸ Hb1.out))).mono ?_
   rintro e w1 ⟨u1,rfl,hp2,hb2⟩
   have Hp2:=Lib.hid hp2
   have Hb2:=Lib.hid (Hb1.out.trans (hb2.mono (Nat.le_trans (Nat.le_of_eq HB.out) Hb1.out.size)))
   obtain ⟨b1,D1,rfl,_,_⟩:=hp2
   clear hb2
   go_wp2_with fail
   go_ret
   refine ⟨_,rfl,?_,HB.out ▸ Hb2.out⟩
   rw [dblP,← Hn.out]
   exact Hp2.out
end
section
open Go.RowKit
theorem shiftsOk_any (N : Int) (v : Value) (y : List Int) (w : World) (h : Ints w v y) :
 Calls Tryz.prog 77 #[v,.int .i64 N] w fun e w'=>e=.returned (.bool (shiftB N y))∧w=w':=by
 obtain ⟨p,cap,rfl,⟨hx1,hx⟩,hxc⟩:=h
 unfold maxLen at hx
 go_enter Tryz.func77,Tryz.ntmps77
 go_wp2_with fail
 go_loopg [6,9] y.length (fun g s6 s9 wr=> ∃ k : Nat,k≤y.length∧g=y.length - k∧s9=.int .i64 k∧w=wr∧Hid (∀ j,j < k → -9≤y.getD j 0∧y.getD j 0≤9))
 case atStart=>exact ⟨0,Nat.zero_le _,rfl,rfl,rfl,Lib.hid fun j hj=>absurd hj (Nat.not_lt_zero _)⟩
 case round =>
  obtain ⟨k,hk,rfl,rfl,rfl,hp⟩:=hrel
  by_cases hlt : k < y.length
  ·obtain ⟨b,off,rfl,hc⟩:=hxc (by omega)
   obtain ⟨x,hx'⟩ : ∃ x,x=y.getD k 0:=⟨_,rfl⟩
   have c1:=hc k hlt
   unfold iv at c1
   rw [← hx'] at c1
   have Hx:=Lib.hid hx'
   have hk1 : (k : Int) < (y.length : Int):=by omega
   clear hx' hc hxc
   have bad : ¬ (-9≤x∧x≤9)→shiftB N y=false:=fun hr=>by
    unfold shiftB
    rw [decide_eq_false (show ¬ ∀ x ∈ y,-9≤x∧x≤9 from fun e=>hr (by rw [Hx.out];exact e _ (getD_mem hlt))),Bool.and_false]
   have Bad:=Lib.hid bad
   clear bad
   by_cases h1 : x < -9
   ·go_wp2_with fail
    go_ret
    exact ⟨ret_bool (Bad.out (by omega)).symm,rfl⟩
   by_cases h2 : 9 < x
   ·go_wp2_with fail
    go_ret
    exact ⟨ret_bool (Bad.out (by omega)).symm,rfl⟩
   go_wp2_with fail
   go_roundg (y.length - (k+1))
   case measure=>omega
   case rel =>
    refine ⟨k+1,by omega,rfl,by go_num,rfl,Lib.hid fun j hj=> ?_⟩
    by_cases e : j=k
    ·subst e;rw [← Hx.out];omega
    ·exact hp.out j (by omega)
  ·have hk1 : ¬ (k : Int) < (y.length : Int):=by omega
   have ha : decide (∀ x ∈ y,-9≤x∧x≤9)=true:=decide_eq_true (all_of_getD fun j hj=>hp.out j (by omega))
   have Ha:=Lib.hid ha
   clear ha
   by_cases hN : (y.length : Int)=N
   ·go_wp2_with fail
    go_ret
    exact ⟨ret_bool (by unfold shiftB;rw [Ha.out,decide_eq_true hN];rfl),rfl⟩
   ·go_wp2_with fail
    go_ret
    exact ⟨ret_bool (by unfold shiftB;simp [hN]),rfl⟩
theorem nm_shift {N : Int} {y : List Int} (h1 : 1≤N) (h2 : N≤5) : nmOk N y=shiftB N y:=by
 unfold nmOk shiftB
 rw [decide_eq_true h1,decide_eq_true h2];simp
theorem weightsOk_any (N : Int) (v : Value) (y : List Int) (w : World) (h : Ints w v y) :
 Calls Tryz.prog 36 #[.int .i64 N,v] w fun e w'=>e=.returned (.bool (apOk N y))∧Qt w w':=by
 have Hh:=Lib.hid h
 obtain ⟨p,cap,rfl,⟨hx1,hx⟩,hxc⟩:=h
 unfold maxLen at hx
 go_enter Tryz.func36,Tryz.ntmps36
 by_cases hN1 : N < 1
 ·go_wp2_with fail
  go_ret
  exact ⟨ret_bool (ap_no1 (nm_no1 (by omega))).symm,Qt.refl _⟩
 by_cases hN4 : 4 < N
 ·go_wp2_with fail
  go_ret
  exact ⟨ret_bool (ap_no2 (by omega)).symm,Qt.refl _⟩
 go_wp2_with fail
 refine (shiftsOk_any N _ y _ Hh.out).mono ?_
 rintro e w1 ⟨rfl,rfl⟩
 cases hs : shiftB N y with
 | false =>
   go_wp2_with fail
   go_ret
   exact ⟨ret_bool (ap_no1 (by rw [nm_shift (by omega) (by omega),hs])).symm,Qt.refl _⟩
 | true =>
 have hn : nmOk N y=true:=by rw [nm_shift (by omega) (by omega),hs]
 obtain ⟨n,rfl,hn1,hn5,hyl,_⟩:=nm_facts hn
 have Hn:=Lib.hid hn
 have Hyl:=Lib.hid hyl
 have hle : n≤cap:=by omega
 rw [hyl] at Hh hxc ⊢
 clear hn hyl hs
 go_wp2_with fail
 go_loopg [5,6,21] n (fun g s5 s6 s21 wr=> ∃ k : Nat,k≤n∧g=n - k∧s21=.int .i64 k∧Qt w wr∧Hid (∀ j,j < k → ¬ y.getD j 0 ∈ y.take j))
 case atStart=>exact ⟨0,Nat.zero_le _,rfl,rfl,Qt.refl _,Lib.hid fun j hj=>absurd hj (Nat.not_lt_zero _)⟩
 case round =>
  obtain ⟨k,hk,rfl,rfl,hq,hp⟩:=hrel
  by_cases hlt : k < n
  ·obtain ⟨b,off,rfl,hc⟩:=hxc (by omega)
   obtain ⟨x,hx'⟩ : ∃ x,x=y.getD k 0:=⟨_,rfl⟩
   have c1:=hq.cell (hc k hlt)
   unfold iv at c1
   rw [← hx'] at c1
   have Hx:=Lib.hid hx'
   have hk1 : (k : Int) < (n : Int):=by omega
   have hk2 : (k : Int)≤(cap : Int):=by omega
   have HI:=Lib.hid (show Ints wr (.slice (some ⟨b,off,none⟩) k cap) (y.take k) by
    have:=Hh.out
    rw [← Hyl.out] at this
    exact (ints_takeP2 this (by rw [Hyl.out];omega)).qt hq)
   obtain ⟨bb,hbb⟩ : ∃ bb,bb=decide (x ∈ y.take k):=⟨_,rfl⟩
   have Hbb:=Lib.hid hbb
   clear hx' hc hxc hbb
   go_wp2_with fail
   refine (contains_any _ (y.take k) x _ HI.out).mono ?_
   rintro e w2 ⟨rfl,hq2⟩
   rw [← Hbb.out]
   have Hq2:=Lib.hid (hq.trans hq2)
   clear hq2 hq
   cases bb with
   | true =>
     go_wp2_with fail
     go_ret
     exact ⟨ret_bool (ap_no3 (k:=k) (by rw [Hyl.out];exact hlt) (by rw [← Hx.out];exact of_decide_eq_true Hbb.out.symm)).symm,Hq2.out⟩
   | false =>
     go_wp2_with fail
     go_roundg (n - (k+1))
     case measure=>omega
     case rel =>
      refine ⟨k+1,by omega,rfl,by go_num,Hq2.out,Lib.hid fun j hj=> ?_⟩
      by_cases e : j=k
      ·subst e;rw [← Hx.out];exact of_decide_eq_false Hbb.out.symm
      ·exact hp.out j (by omega)
  ·have hk1 : ¬ (k : Int) < (n : Int):=by omega
   go_wp2_with fail
   go_ret
   exact ⟨ret_bool (ap_yes Hn.out (by omega) fun j hj=>hp.out j (by have:=Hyl.out;omega)).symm,hq⟩
structure LocIs (n : Nat) (vs ws ys : List Int) : Prop where
 v : P5 n vs
 w : P5 n ws
 y : ys.length=n
 one : 1≤n
 y9 : ∀ x ∈ ys,-9≤x∧x≤9
theorem own_nil (T : TypeId) (w : World) (lo hi : Nat) : OwnI T w lo hi (.slice none 0 0) []:=⟨World.ownsRow_nil _ _ _ _,fun k hk=>by simp [Value.ownBlock] at hk⟩
end
end Go.Proofs.YtijadclebjcckaaGreat
