/-
  A part of the proof of FnSessions (texts of one proof, joined).
-/
import Derived.Test.YtincaodpjdeoeaaGreatDoorJ16
namespace Go.Proofs.YtincaodpjdeoeaaGreatDoor
set_option linter.all false
set_option maxRecDepth 100000
set_option maxHeartbeats 16000000
section
open Go.RowKit
theorem l1SumC_any (v : Value) (xs : List Int) (w : World) (h : Ints w v (cdL xs)) (hl : xs.length≤10) :
 Calls Tryz.prog 85 #[v] w fun e w'=>e=.returned (.int .i64 (lnN xs : Nat))∧Qt w w':=by
 obtain ⟨p,cap,rfl,⟨hx1,hx2⟩,hxc⟩:=h
 unfold maxLen at hx2
 rw [cdL_length] at hx1 hxc ⊢
 go_enter Tryz.func85,Tryz.ntmps85
 go_wp2_with fail
 go_loopg [3,4] xs.length (fun g s3 s4 wr=> ∃ k : Nat,k≤xs.length∧g=xs.length - k∧s4=.int .i64 k∧s3=.int .i64 (lnK xs k : Nat)∧Qt w wr)
 case atStart=>exact ⟨0,Nat.zero_le _,rfl,rfl,rfl,Qt.refl _⟩
 case round =>
  obtain ⟨k,hk,rfl,rfl,rfl,hq⟩:=hrel
  have hr:=lnK_le xs hl k hk
  obtain ⟨z,hz⟩ : ∃ z,z=lnK xs k:=⟨_,rfl⟩
  rw [← hz] at hr ⊢
  have Hz:=Lib.hid hz
  by_cases hlt : k < xs.length
  ·obtain ⟨b,off,rfl,hc⟩:=hxc (by omega)
   have c1:=hq.cell (hc k hlt)
   unfold iv at c1
   rw [cdL_getD hlt] at c1
   obtain ⟨x,hx⟩ : ∃ x,x=cdA xs k:=⟨_,rfl⟩
   rw [← hx] at c1
   have hx2 : x≤10:=by rw [hx];unfold cdA;have:=cdK_le xs k (xs.length - (k+1));omega
   have Hn:=Lib.hid (show lnK xs (k+1)=z+x by rw [lnK,hz,hx])
   have hk1 : (k : Int) < (xs.length : Int):=by omega
   clear hx hc hxc hz
   go_wp2_with fail
   go_roundg (xs.length - (k+1))
   case measure=>omega
   case rel=>exact ⟨k+1,by omega,rfl,by go_num,by rw [Hn.out];go_num,hq⟩
  ·obtain rfl : k=xs.length:=by omega
   have hk1 : ¬ (xs.length : Int) < (xs.length : Int):=by omega
   clear hz
   go_wp2_with fail
   go_ret
   exact ⟨by rw [Hz.out];rfl,hq⟩
theorem l1Length_any (v : Value) (xs : List Int) (w : World) (h : Ints w v xs) (hl : xs.length≤10) :
 Calls Tryz.prog 49 #[v] w fun e w'=>e=.returned (.int .i64 (lnN xs : Nat))∧Below w.heap.size w w':=by
 have Hh:=Lib.hid h
 obtain ⟨p,cap,rfl,⟨hx1,hx2⟩,hxc⟩:=h
 unfold maxLen at hx2
 clear hxc
 go_enter Tryz.func49,Tryz.ntmps49
 go_wp2_with fail
 refine (l1Code_any _ xs _ Hh.out hl).mono ?_
 rintro e w1 ⟨u,rfl,ho,hb⟩
 have Ho:=Lib.hid ho.ints
 have Hb:=Lib.hid hb
 obtain ⟨pu,ku,rfl,_,_⟩:=ho.shape
 clear ho hb
 go_wp2_with fail
 refine (l1SumC_any _ xs _ Ho.out hl).mono ?_
 rintro e w2 ⟨rfl,hq⟩
 have Hq:=Lib.hid hq
 clear hq
 go_wp2_with fail
 go_ret
 exact ⟨rfl,Hb.out.trans (Hq.out.below _)⟩
def wz (r : List Nat) : List Int:=r.map fun (k : Nat)=>(k : Int)
theorem wz_length (r : List Nat) : (wz r).length=r.length:=by simp [wz]
theorem wz_getD {r : List Nat} {j : Nat} (h : j < r.length) : (wz r).getD j 0=(r.getD j 0 : Nat):=by simp [wz,List.getD_eq_getElem?_getD,h]
theorem wz_snoc (r : List Nat) (k : Nat) : wz (r ++ [k])=wz r ++ [(k : Int)]:=by simp [wz]
def Apart (v u : Value) : Prop:=∀ b off l k,v=.slice (some ⟨b,off,none⟩) l k→u.ownBlock ≠ some b
theorem Ints.grown {w w' : World} {v u : Value} {xs : List Int} (h : Ints w v xs) (hg : w.grownBy w' u.ownBlock) (hn : Apart v u) : Ints w' v xs:=by
 obtain ⟨p,cap,rfl,h1,hc⟩:=h
 refine ⟨p,cap,rfl,h1,fun h0=> ?_⟩
 obtain ⟨b,off,rfl,hc2⟩:=hc h0
 refine ⟨b,off,rfl,fun j hj=> ?_⟩
 have hc0:=hc2 j hj
 rw [← hc0]
 exact World.cell?_of_block (hg.block b (World.block_lt_of_cell? _ _ hc0) (fun e=>hn b off _ _ rfl e.symm))
theorem Ints.apart {w : World} {v u : Value} {xs : List Int} (h : Ints w v xs) (h0 : 0 < xs.length) {lo : Nat} (hlo : w.heap.size≤lo) (hu : ∀ k,u.ownBlock=some k→lo≤k) : Apart v u:=by
 obtain ⟨p,cap,rfl,h1,hc⟩:=h
 obtain ⟨b,off,rfl,hc2⟩:=hc h0
 intro b' off' l k e hb
 injection e with e
 injection e with e
 injection e with e1
 subst e1
 have : b < w.heap.size:=World.block_lt_of_cell? _ _ (hc2 0 h0)
 have:=hu _ hb
 omega
def PlcOk (n : Nat) (u : List Int) : Prop:=u.length=n ∧ ∀ j,j < n → ∃ m : Nat,u.getD j 0=(m : Int)∧m < n
theorem PlcOk.sw {n : Nat} {u : List Int} (h : PlcOk n u) {k : Nat} (hk : k+1 < n) : PlcOk n (sw k u):=by
 refine ⟨by rw [sw_length];exact h.1,fun j hj=> ?_⟩
 rw [Go.Proofs.YtincaodpjdeoeaaGreatDoor.sw,swapL_getD (by rw [h.1];omega) (by rw [h.1];omega)]
 split
 ·exact h.2 k (by omega)
 ·split
  ·exact h.2 (k+1) hk
  ·exact h.2 j hj
structure LocIs (n : Nat) (vs ws ys : List Int) : Prop where
 v : P5 n vs
 w : P5 n ws
 y : ys.length=n
 one : 1≤n
 y9 : ∀ x ∈ ys,-9≤x∧x≤9
def tabV (vs ys ws : List Int) : Int:=wrap64 (Ev (dblP vs ys) (mono (pickL ws ys)))
def tabL (vs ys : List Int) : List Int:=(permsL vs.length).map (tabV vs ys)
theorem permsL_length (n : Nat) : (permsL n).length=fact n:=by simp [permsL]
def prmB (n : Nat) : Bool:=(permsL n).all fun w=>permOk w && decide (w.length=n)
theorem prm_all : ∀ n : Fin 6,1≤(n : Nat)→prmB n=true:=by decide +kernel
theorem prm_p5 {n : Nat} (h1 : 1≤n) (h5 : n≤5) {x : Nat} (hx : x < fact n) : P5 n ((permsL n).getD x []):=by
 have:=prm_all ⟨n,by omega⟩ h1
 unfold prmB at this
 rw [List.all_eq_true] at this
 have hm : (permsL n).getD x [] ∈ permsL n:=by
  rw [List.getD_eq_getElem?_getD,List.getElem?_eq_getElem (by rw [permsL_length];exact hx)]
  exact List.getElem_mem _
 have:=this _ hm
 rw [Bool.and_eq_true,decide_eq_true_eq] at this
 exact ⟨this.1,this.2,h5⟩
theorem tab_getD {vs ys : List Int} {n x : Nat} (hn : vs.length=n) (hx : x < fact n) : (tabL vs ys).getD x 0=tabV vs ys ((permsL n).getD x []):=by
 unfold tabL
 rw [hn,List.getD_eq_getElem?_getD,List.getElem?_map,List.getD_eq_getElem?_getD,List.getElem?_eq_getElem (by rw [permsL_length];exact hx)]
 rfl
def pmA (n x : Nat) : List Int:=(permsL n).getD x []
def tbA (n : Nat) (ys : List Int) (x : Nat) : List Int:=tabL (pmA n x) ys
structure YOk (n : Nat) (ys : List Int) : Prop where
 one : 1≤n
 four : n≤4
 len : ys.length=n
 nine : ∀ x ∈ ys,-9≤x∧x≤9
 dst : DstY n ys
section
variable {n : Nat} {ys : List Int}
theorem pm_p5 (hy : YOk n ys) {x : Nat} (hx : x < fact n) : P5 n (pmA n x):=prm_p5 hy.one (by have:=hy.four;omega) hx
theorem wrap_of {a : Int} (h : a.natAbs≤1000000000000000000) : wrap64 a=a:=by unfold wrap64;omega
theorem tb_at (hy : YOk n ys) {x i : Nat} (hx : x < fact n) (hi : i < fact n) : (tbA n ys x).getD i 0=FW n ys (pmA n x) (pmA n i):=by
 have hp:=pm_p5 hy hx
 unfold tbA
 rw [tab_getD hp.len hi]
 have hb:=FW_bound hy.len hy.one hy.four hy.nine hp (pm_p5 hy hi)
 unfold tabV
 have e : Ev (dblP (pmA n x) ys) (mono (pickL ((permsL n).getD i []) ys))=FW n ys (pmA n x) (pmA n i):=by
  unfold FW EV dblP
  rw [hp.len];rfl
 rw [e]
 exact wrap_of (by omega)
theorem tb_bound (hy : YOk n ys) {x i : Nat} (hx : x < fact n) (hi : i < fact n) : ((tbA n ys x).getD i 0).natAbs≤1000000:=by
 rw [tb_at hy hx hi]
 exact FW_bound hy.len hy.one hy.four hy.nine (pm_p5 hy hx) (pm_p5 hy hi)
end
def subL (rest : List Int) (c : Int) (t : List Int) : List Int:=(List.range rest.length).map fun i=>rest.getD i 0 - c * t.getD i 0
theorem subL_length (rest : List Int) (c : Int) (t : List Int) : (subL rest c t).length=rest.length:=by simp [subL]
theorem subL_getD {rest t : List Int} {c : Int} {i : Nat} (h : i < rest.length) : (subL rest c t).getD i 0=rest.getD i 0 - c * t.getD i 0:=by simp [subL,List.getD_eq_getElem?_getD,h]
def qoA (n : Nat) (ys rest : List Int) (x : Nat) : Int:=(rest.getD x 0).tdiv ((tbA n ys x).getD x 0)
def badA (n : Nat) (ys rest : List Int) (x : Nat) : Prop:=qoA n ys rest x * (tbA n ys x).getD x 0 ≠ rest.getD x 0 ∨ qoA n ys rest x < -1000000000 ∨ 1000000000 < qoA n ys rest x
instance (n : Nat) (ys rest : List Int) (x : Nat) : Decidable (badA n ys rest x):=by unfold badA;exact inferInstance
def RestOk (n k : Nat) (rest : List Int) : Prop:=rest.length=fact n ∧ ∀ i,i < fact n→(rest.getD i 0).natAbs≤1000000000000+k * 1000000000000000
theorem RestOk.mono {n k : Nat} {rest : List Int} (h : RestOk n k rest) : RestOk n (k+1) rest:=⟨h.1,fun i hi=>Nat.le_trans (h.2 i hi) (Nat.add_le_add_left (Nat.mul_le_mul_right _ (Nat.le_succ k)) _)⟩
theorem abs_mul2 {a b : Int} {A B : Nat} (h1 : a.natAbs≤A) (h2 : b.natAbs≤B) : (a * b).natAbs≤A * B:=by rw [Int.natAbs_mul];exact Nat.mul_le_mul h1 h2
theorem RestOk.sub {n k : Nat} {rest ys : List Int} (hy : YOk n ys) {x : Nat} (hx : x < fact n) {c : Int} (hc : c.natAbs≤1000000000) (h : RestOk n k rest) : RestOk n (k+1) (subL rest c (tbA n ys x)):=by
 refine ⟨by rw [subL_length];exact h.1,fun i hi=> ?_⟩
 rw [subL_getD (by rw [h.1];exact hi)]
 have a:=h.2 i hi
 have b:=abs_mul2 hc (tb_bound hy hx hi)
 have e : (k+1) * 1000000000000000=k * 1000000000000000+1000000000 * 1000000:=Nat.succ_mul _ _
 rw [e]
 obtain ⟨X,hX⟩ : ∃ X,X=k * 1000000000000000:=⟨_,rfl⟩
 rw [← hX] at a ⊢
 obtain ⟨Y,hY⟩ : ∃ Y,Y=1000000000 * 1000000:=⟨_,rfl⟩
 rw [← hY] at b ⊢
 clear hX hY e
 omega
def trimB (n : Nat) : Bool:=decide (((List.range (fact n)).map fun x=>trimL (pmA n x)).Nodup)
theorem trim_all : ∀ n : Fin 4,trimB (n.val+1)=true:=by decide +kernel
theorem trim_nodup {n : Nat} (h1 : 1≤n) (h4 : n≤4) : ((List.range (fact n)).map fun x=>trimL (pmA n x)).Nodup:=by
 have:=trim_all ⟨n - 1,by omega⟩
 rw [show (⟨n - 1,by omega⟩ : Fin 4).val+1=n by simp;omega] at this
 exact of_decide_eq_true this
def OutOk (n : Nat) (done : List Nat) (out : List Cls) : Prop:=(out.map (·.1)).Sublist (done.map fun x=>trimL (pmA n x))
theorem OutOk.snoc {n : Nat} {done : List Nat} {out : List Cls} (h : OutOk n done out) (x : Nat) (c : Int) : OutOk n (done ++ [x]) (out ++ [(trimL (pmA n x),c)]):=by
 unfold OutOk at *
 rw [List.map_append,List.map_append]
 exact h.append (List.Sublist.refl _)
theorem OutOk.nodup {n : Nat} (h1 : 1≤n) (h4 : n≤4) {done l : List Nat} {out : List Cls} (h : OutOk n done out) (hp : (done ++ l).Perm (List.range (fact n))) : (out.map (·.1)).Nodup:=by
 refine List.Nodup.sublist h ?_
 have a : ((done ++ l).map fun x=>trimL (pmA n x)).Nodup:=(List.Perm.nodup_iff (hp.map _)).2 (trim_nodup h1 h4)
 rw [List.map_append] at a
 exact (List.nodup_append.1 a).1
theorem OutOk.length {n : Nat} {done l : List Nat} {out : List Cls} (h : OutOk n done out) (hp : (done ++ l).Perm (List.range (fact n))) : out.length≤fact n:=by
 have a:=h.length_le
 have b:=hp.length_eq
 rw [List.length_map,List.length_map] at a
 rw [List.length_append,List.length_range] at b
 omega
end
section
open Go.RowKit Go.Shelf Go.Sort Go.Lib
variable {α : Type} [Inhabited α]
variable {α : Type} [Inhabited α]
variable {α : Type} [Inhabited α]
end
section
open Go.RowKit Go.Sort
def lenAt (n x : Nat) : Nat:=lnN ((permsL n).getD (x % fact n) [])
def cmpN (n x y : Nat) : Int:=(lenAt n x : Int) - (lenAt n y : Int)
def ordL (n : Nat) : List Nat:=(List.range (n * (n - 1) / 2+1)).flatMap fun s=>(List.range (fact n)).filter fun x=>decide (lnN ((permsL n).getD x [])=s)
structure OrdIs (n : Nat) : Prop where
 srt : (stbS (ltOf (cmpN n)) (Array.range (fact n))).toList=ordL n
 perm : (ordL n).Perm (List.range (fact n))
 asc : (ordL n).Pairwise fun x y=>lnN ((permsL n).getD x [])≤lnN ((permsL n).getD y [])
 len : ∀ v ∈ permsL n,lenP v=lnN v
theorem OrdIs.length {n : Nat} (h : OrdIs n) : (ordL n).length=fact n:=by rw [h.perm.length_eq];simp
theorem OrdIs.at_ {n : Nat} (h : OrdIs n) {i : Nat} (hi : i < fact n) : (ordL n).getD i 0 < fact n:=by
 have hm : (ordL n).getD i 0 ∈ ordL n:=by
  rw [List.getD_eq_getElem?_getD,List.getElem?_eq_getElem (by rw [h.length];exact hi)]
  exact List.getElem_mem _
 simpa using h.perm.mem_iff.1 hm
end
section
open Go.RowKit
def OwnCe (w : World) (lo1 lo0 hi : Nat) (v : Value) (cs : List Cls) : Prop :=
 ∃ g,OwnS w lo1 hi 42 2 v cs.length (clF cs g) ∧ ∀ i,i < cs.length→OwnI 3 w lo0 hi (g i) (cs.getD i clD).1
theorem OwnCe.below {w w' : World} {lo1 lo0 hi : Nat} {v : Value} {cs : List Cls} (h : OwnCe w lo1 lo0 hi v cs) (hb : Below w.heap.size w w') : OwnCe w' lo1 lo0 hi v cs:=by
 obtain ⟨g,h1,h2⟩:=h
 exact ⟨g,h1.below hb,fun i hi=>(h2 i hi).below hb⟩
theorem OwnCe.cl {w : World} {lo1 lo0 hi : Nat} {v : Value} {cs : List Cls} (h : OwnCe w lo1 lo0 hi v cs) (hl : lo0≤lo1) : OwnCl w lo0 hi v cs:=by
 obtain ⟨g,h1,h2⟩:=h
 exact ⟨g,h1.mono hl (Nat.le_refl _),h2⟩
theorem OwnCe.snoc {w w' : World} {lo1 lo0 mid : Nat} {v v' x : Value} {cs : List Cls} {m : Cls} {f : Nat→Value} {n : Nat} (hn : n=cs.length) (g1 : OwnS w lo1 mid 42 2 v n (clF cs f)) (g2 : ∀ i,i < cs.length→OwnI 3 w lo0 mid (f i) (cs.getD i clD).1)
 (hx : OwnI 3 w lo0 mid x m.1) (hg : w.grownBy w' v.ownBlock) (hsz : mid≤w'.heap.size)
 (hv : OwnS w' lo1 w'.heap.size 42 2 v' (n+1) (fun i=>if i < n then clF cs f i else fun j=>match j with | 0=>x | _=>.int .i64 m.2)) : OwnCe w' lo1 lo0 w'.heap.size v' (cs ++ [m]):=by
 subst hn
 have hrow : ∀ (y : Value) (ys : List Int) (lo1 hi1 : Nat),OwnI 3 w lo1 hi1 y ys→OwnI 3 w' lo1 hi1 y ys:=fun y ys lo1 hi1 hy =>
  ⟨ownsRow_of_block hy.1 fun k hk=>hg.block k (Own.block hy hk).2.2 fun e=>ne_of_kinds (g1.kind k e.symm) (OwnI.kind hy k hk) (by decide),hy.2⟩
 refine ⟨fun i=>if i < cs.length then f i else x,by
  rw [List.length_append]
  refine hv.congr fun i hi j hj=> ?_
  by_cases h : i < cs.length
  ·rw [if_pos h]
   unfold clF
   rw [OwnCd.getD_snoc,if_pos h]
   have : j=0 ∨ j=1:=by omega
   rcases this with rfl | rfl
   ·show f i=if i < cs.length then f i else x
    rw [if_pos h]
   ·rfl
  ·have e : i=cs.length:=by omega
   rw [if_neg h]
   unfold clF
   rw [OwnCd.getD_snoc,if_neg h,if_pos e]
   have : j=0 ∨ j=1:=by omega
   rcases this with rfl | rfl
   ·show x=if i < cs.length then f i else x
    rw [if_neg h]
   ·rfl,fun i hi=> ?_⟩
 rw [List.length_append] at hi
 simp only [List.length_singleton] at hi
 rw [OwnCd.getD_snoc]
 by_cases h : i < cs.length
 ·simp only [h,if_true]
  exact (hrow _ _ _ _ (g2 i h)).mono (Nat.le_refl _) hsz
 ·have : i=cs.length:=by omega
  simp only [h,if_false]
  rw [if_pos this]
  exact (hrow _ _ _ _ hx).mono (Nat.le_refl _) hsz
theorem OwnCl.frm {w w' : World} {lo hi lo' hi' : Nat} {v : Value} {cs : List Cls} (h : OwnCl w lo hi v cs) (hb : Frm lo' hi' w w') (ho : hi≤lo' ∨ hi'≤lo) : OwnCl w' lo hi v cs:=by
 obtain ⟨g,h1,h2⟩:=h
 exact ⟨g,h1.frm hb ho,fun i hi=>(h2 i hi).frm hb ho⟩
section
variable {n : Nat} {ys : List Int}
end
structure EqIs (n : Nat) (us vs ys : List Int) : Prop where
 y : YOk n ys
 u : P5 n us
 v : P5 n vs
section
variable {n : Nat} {ys : List Int}
end
def cvK (v : List Int) (k : Nat) : List (List Int):=(List.range (k+1)).flatMap fun a=>((List.range v.length).filter fun b=>decide (k < b) && decide (lnN (swapL v a b)=lnN v+1)).map fun b=>swapL v a b
def upK (v : List Int) (k : Nat) : List (List Int):=(List.range (k+1)).flatMap fun i=>cvUp v i
def dnK (v : List Int) (k : Nat) : List (List Int):=(List.range (k+1)).flatMap fun i=>cvDn v i
structure CvIs (n : Nat) (v : List Int) (k : Nat) : Prop where
 perm : (upK v k).Perm (dnK v k ++ cvK v k)
 nodup : (cvK v k).Nodup
 p5 : ∀ u ∈ cvK v k,P5 n u∧u ≠ v
 id : cvK (idL n) k=[Go.Proofs.YtincaodpjdeoeaaGreatDoor.sw k (idL n)]
section
variable {n : Nat} {ys : List Int}
theorem count_one : ∀ {l : List (List Int)} {a : List Int},l.Nodup→a ∈ l→l.count a=1
 | [],_,_,h=>by cases h
 | x :: l,a,hn,h=>by
   rw [List.nodup_cons] at hn
   rw [List.count_cons]
   by_cases e : x=a
   ·rw [List.count_eq_zero_of_not_mem (by rw [← e];exact hn.1),if_pos (by simpa using e)]
   ·rw [count_one hn.2 ((List.mem_cons.1 h).resolve_left fun e2=>e e2.symm),if_neg (by simpa using e)]
end
section
variable {n : Nat} {ys : List Int}
end
def blkL (k n : Nat) : List Int:=if n=k then [] else List.replicate k ((n - k : Nat) : Int)
end
section
open Go.RowKit Go.Lib
theorem mul64_small (k : Nat) (hk : k≤7) (w : World) : Calls Tryz.prog 141 #[.int .u64 1,.int .u64 (k : Int)] w fun e w'=>e=.returned (.tuple #[.int .u64 0,.int .u64 (k : Int)])∧w'=w:=by
 rcases (show k=0 ∨ k=1 ∨ k=2 ∨ k=3 ∨ k=4 ∨ k=5 ∨ k=6 ∨ k=7 by omega) with rfl | rfl | rfl | rfl | rfl | rfl | rfl | rfl
 all_goals
  go_enter Tryz.func141,Tryz.ntmps141
  go_wp2_with fail
  go_ret2
  exact ⟨rfl,rfl⟩
theorem mul_small (k : Nat) (hk : k≤7) (w : World) : Calls Tryz.prog 115 #[.int .u64 1,.int .u64 (k : Int)] w fun e w'=>e=.returned (.tuple #[.int .u64 0,.int .u64 (k : Int)])∧w'=w:=by
 have H:=Lib.hid (mul64_small k hk w)
 go_enter Tryz.func115,Tryz.ntmps115
 go_wp2_with fail
 refine H.out.mono ?_
 rintro e w1 ⟨rfl,rfl⟩
 go_wp2_with fail
 go_ret2
 exact ⟨rfl,rfl⟩
theorem one_two (x : Int) (k c m : Nat) (hm : m=min c (k - c)) (h1 : 1≤c) (hc : c < k) :
 ((ivs (List.replicate c x ++ List.replicate (k - c) 0)).take c ++ List.replicate m (Value.int .i64 x) ++ (ivs (List.replicate c x ++ List.replicate (k - c) 0)).drop (c+m))=ivs (List.replicate (c+m) x ++ List.replicate (k - (c+m)) 0):=by
 unfold ivs
 simp only [List.map_append,List.map_replicate]
 rw [List.take_append_of_le_length (by simp),List.take_of_length_le (by simp),List.drop_append,List.drop_eq_nil_of_le (by simp),List.nil_append]
 simp only [List.length_replicate,List.drop_replicate]
 rw [← List.replicate_append_replicate]
 congr 2
 omega
theorem Repeat_any (v : Value) (x : Int) (k : Nat) (hk : k≤7) (w : World) (hv : Ints w v [x]) :
 Calls Tryz.prog 83 #[v,.int .i64 (k : Int)] w fun e w'=> ∃ u,e=.returned u∧Ints w' u (List.replicate k x)∧Below w.heap.size w w':=by
 obtain ⟨p,cap,rfl,hx1,hxc⟩:=hv
 obtain ⟨b,off,rfl,hc⟩:=hxc (show 0 < [x].length from Nat.zero_lt_one)
 have c0:=hc 0 (show 0 < [x].length from Nat.zero_lt_one)
 have hi : iv [x] 0=.int .i64 x:=rfl
 rw [hi] at c0
 simp only [Nat.add_zero] at c0
 rw [show [x].length=1 from rfl]
 have HM:=Lib.hid (mul_small k hk w)
 obtain ⟨O,hO⟩ : ∃ O : Obj,O=.cells (madeCells #[Value.int .i64 0] k) 3:=⟨_,rfl⟩
 have hmk:=run_make_row' (P:=Tryz.prog) 24 3 (.int .i64 0) 8 Tryz.underlying24 info_int rfl .i64 .i64 k (by omega) (by omega)
 rw [← hO] at hmk
 have hOz : O=.cells (ivs (List.replicate k 0)).toArray 3:=by rw [hO,madeF_zeros]
 have HO:=Lib.hid hOz
 have hk0 : (0 : Int)≤(k : Int):=by omega
 have hk7 : (k : Int)≤7:=by omega
 have hu1 : IntKind.u64.wrap (k : Int)=(k : Int):=by
  rcases (show k=0 ∨ k=1 ∨ k=2 ∨ k=3 ∨ k=4 ∨ k=5 ∨ k=6 ∨ k=7 by omega) with rfl | rfl | rfl | rfl | rfl | rfl | rfl | rfl <;> decide
 have hu2 : IntKind.i64.wrap (k : Int)=(k : Int):=k64 (by omega) (by omega)
 have hsz1 : (Tryz.prog.info? 3).map (·.size)=some 1:=by
  have h:=info_int
  cases hq : Tryz.prog.info? 3 with
  | none=>rw [hq] at h;cases h
  | some i=>rw [hq] at h;simp at h;simp [h.2.1]
 obtain ⟨c1,hc1⟩ : ∃ c1,c1=min 1 k:=⟨_,rfl⟩
 obtain ⟨g,hg⟩ : ∃ g,g=w.heap.size:=⟨_,rfl⟩
 have hz : Arr (w.alloc O) g (List.replicate k 0):=by rw [hg,hOz];exact heap_alloc_top _ _
 have hbO:=below_alloc w O
 have hcp1 : ∀ ty,(Builtin.copy_ #[24,24] ty #[.slice (some ⟨g,0,none⟩) k k,.slice (some ⟨b,off,none⟩) 1 cap]).run Tryz.prog (w.alloc O)=.ok (goInt ((c1 : Nat) : Int)) ((w.alloc O).setRow g (ivs (List.replicate c1 x ++ List.replicate (k - c1) 0)).toArray):=fun ty=>by
  have h:=run_copy_z (P:=Tryz.prog) (w.alloc O) 24 24 ty 3 g 0 k k ⟨b,off,none⟩ 1 cap 1 c1 (ivs (List.replicate k 0)).toArray 3 (List.replicate c1 (.int .i64 x)) Tryz.underlying24 hsz1 hz (by rw [hc1];try rfl) (by simp) (fun j u hj=>by
   have hj2 : j < c1:=by
    have:=(List.getElem?_eq_some_iff.1 hj).1
    simpa using this
   obtain rfl : j=0:=by omega
   rw [List.getElem?_replicate,if_pos hj2] at hj
   injection hj with hj
   rw [← hj,addr_add,Nat.add_zero]
   exact cell_below hbO c0) (by simp [ivs] <;> omega) (fun u hu=>by rw [List.eq_of_mem_replicate hu];rfl)
  have e : ((ivs (List.replicate k 0)).toArray.toList.take 0 ++ List.replicate c1 (Value.int .i64 x) ++ (ivs (List.replicate k 0)).toArray.toList.drop (0+(List.replicate c1 (Value.int .i64 x)).length))=ivs (List.replicate c1 x ++ List.replicate (k - c1) 0):=by
   simp [ivs]
  rw [e] at h
  exact h
 have hcpN : ∀ (wo : World) (c m : Nat),m=min c (k - c)→1≤c→c < k→Arr wo g (List.replicate c x ++ List.replicate (k - c) 0) → ∀ ty,(Builtin.copy_ #[24,24] ty #[.slice (some ⟨g,c,none⟩) (k - c) (k - c),.slice (some ⟨g,0,none⟩) c k]).run Tryz.prog wo.drew=.ok (goInt ((m : Nat) : Int)) (wo.drew.setRow g (ivs (List.replicate (c+m) x ++ List.replicate (k - (c+m)) 0)).toArray):=fun wo c m hm h1 hck ha ty=>by
  have h:=run_copy_z (P:=Tryz.prog) wo.drew 24 24 ty 3 g c (k - c) (k - c) ⟨g,0,none⟩ c k 1 m (ivs (List.replicate c x ++ List.replicate (k - c) 0)).toArray 3 (List.replicate m (.int .i64 x)) Tryz.underlying24 hsz1 ha (by rw [hm];try rfl) (by simp) (fun j u hj=>by
   have hj2 : j < m:=by
    have:=(List.getElem?_eq_some_iff.1 hj).1
    simpa using this
   rw [List.getElem?_replicate,if_pos hj2] at hj
   injection hj with hj
   rw [← hj,addr_add,Nat.zero_add]
   have:=ha.cell (j:=j) (by simp;omega)
   have e2 : (List.replicate c x ++ List.replicate (k - c) 0).getD j 0=x:=by
    rw [List.getD_eq_getElem?_getD,List.getElem?_append_left (by simp;omega),List.getElem?_replicate,if_pos (by omega)]
    rfl
   rw [e2] at this
   exact this) (by simp [ivs] <;> omega) (fun u hu=>by rw [List.eq_of_mem_replicate hu];rfl)
  have e:=one_two x k c m hm h1 hck
  rw [List.length_replicate] at h
  rw [← e]
  exact h
 have HN:=Lib.hid hcpN
 have Hz:=Lib.hid hz
 have HbO:=Lib.hid hbO
 have Hg:=Lib.hid hg
 have Hc1:=Lib.hid hc1
 rw [hg] at hcp1
 have HC:=Lib.hid hcp1
 clear hc hi hO hOz hx1 hxc hsz1 hz hbO hcp1 hcpN hg hc1 c0
 go_enter Tryz.func83,Tryz.ntmps83
 go_wp2_with fail
 refine HM.out.mono ?_
 rintro e w1 ⟨rfl,rfl⟩
 have hcpx:=HC.out 3
 go_wp2_with fail
 rw [← Hg.out]
 have HA:=Lib.hid (show Arr ((w1.alloc O).setRow g (ivs (List.replicate c1 x ++ List.replicate (k - c1) 0)).toArray) g (List.replicate c1 x ++ List.replicate (k - c1) 0) from setRow_heap _ _ _ _ _ _ Hz.out)
 have HB1:=Lib.hid (show Below w1.heap.size w1 ((w1.alloc O).setRow g (ivs (List.replicate c1 x ++ List.replicate (k - c1) 0)).toArray) from
  ⟨HbO.out.os,HbO.out.tape,HbO.out.output,by rw [size_setRow];exact HbO.out.size,fun j hj=>(setRow_other _ _ _ _ (by have:=Hg.out;omega)).trans (HbO.out.block j hj)⟩)
 go_wp2_with fail
 go_loopg [8] (k - c1) (fun gg s8 wr=> ∃ c : Nat,c≤k∧(1≤c ∨ k=0)∧gg=k - c∧s8=.int .i64 (c : Int)∧Hid (Below w1.heap.size w1 wr)∧Hid (Arr wr g (List.replicate c x ++ List.replicate (k - c) 0)))
 case atStart=>exact ⟨c1,by have:=Hc1.out;omega,by have:=Hc1.out;omega,rfl,rfl,HB1,HA⟩
 case round =>
  obtain ⟨c,hck,hc1,rfl,rfl,hb,ha⟩:=hrel
  obtain ⟨wo,rfl⟩ : ∃ x : World,x=wr:=⟨_,rfl⟩
  by_cases hlt : c < k
  ·have hlti : (c : Int) < (k : Int):=by omega
   have hci : (c : Int)≤(k : Int):=by omega
   have hcne : k - c ≠ 0:=by omega
   have hce : (k : Int) - (c : Int)=((k - c : Nat) : Int):=by omega
   obtain ⟨m,hm⟩ : ∃ m,m=min c (k - c):=⟨_,rfl⟩
   have HNc:=Lib.hid (HN.out wo c m hm (by omega) hlt ha.out)
   have HA2:=Lib.hid (show Arr (wo.drew.setRow g (ivs (List.replicate (c+m) x ++ List.replicate (k - (c+m)) 0)).toArray) g (List.replicate (c+m) x ++ List.replicate (k - (c+m)) 0) from setRow_heap _ _ _ _ _ _ ha.out)
   have HB2:=Lib.hid (show Below w1.heap.size w1 (wo.drew.setRow g (ivs (List.replicate (c+m) x ++ List.replicate (k - (c+m)) 0)).toArray) from
    ⟨hb.out.os,hb.out.tape,hb.out.output,by rw [size_setRow];exact hb.out.size,fun j hj=>(setRow_other _ _ _ _ (by have:=Hg.out;omega)).trans (hb.out.block j hj)⟩)
   have Hm:=Lib.hid hm
   have Hw:=Lib.hid (show wrap64 ((c : Int)+(m : Int))=((c+m : Nat) : Int) by rw [w64 (by omega) (by omega)];omega)
   have Hw2:=Lib.hid (show IntKind.i64.wrap ((c : Int)+(m : Int))=((c+m : Nat) : Int) by rw [k64 (by omega) (by omega)];omega)
   have hm7 : (m : Int)≤7:=by omega
   have hcm7 : (c : Int)+(m : Int)≤7:=by omega
   have hkc : ¬ k=c:=by omega
   have hck' : ¬ c=k:=by omega
   clear ha hb hm
   go_wp2_with fail
   go_region_law (refine step_copy_z rfl (.tmp 41) (.tmp 44) 24 24 rfl (.slice (some ⟨g,c,none⟩) (k - c) (k - c)) (.slice (some ⟨g,0,none⟩) c k) (by simp [Act.eval,Act.put]) (by simp [Act.eval,Act.put]) (HNc.out _) ?_)
   all_goals
    go_wp2_with fail
    go_roundg (k - (c+m))
    case measure=>have:=Hm.out;omega
    case rel=>exact ⟨c+m,by have:=Hm.out;omega,by have:=Hm.out;omega,rfl,by first | rfl | (rw [Hw2.out]) | (rw [Hw.out]) | go_num,HB2,HA2⟩
  ·obtain rfl : c=k:=by omega
   go_wp2_with fail
   go_ret
   have ha:=ha.out
   rw [Nat.sub_self,List.replicate_zero,List.append_nil] at ha
   have h:=ha.ints (by rw [List.length_replicate];unfold maxLen;omega)
   rw [List.length_replicate] at h
   exact ⟨_,rfl,h,hb.out⟩
theorem block_any (k n : Nat) (hk : k≤n) (hn : n≤7) (w : World) : Calls Tryz.prog 45 #[.int .i64 (k : Int),.int .i64 (n : Int)] w fun e w'=> ∃ u,e=.returned u∧Ints w' u (blkL k n)∧Below w.heap.size w w':=by
 unfold blkL
 by_cases e : n=k
 ·subst e
  rw [if_pos rfl]
  go_enter Tryz.func45,Tryz.ntmps45
  go_wp2_with fail
  go_ret
  exact ⟨_,rfl,⟨none,0,rfl,⟨Nat.le_refl _,Nat.zero_le _⟩,fun h=>absurd h (Nat.lt_irrefl _)⟩,Below.refl _ _⟩
 ·rw [if_neg e]
  have hne : ((n : Int) == (k : Int))=false:=by simp;omega
  have hkn : (k : Int)≤(n : Int):=by omega
  have hn7 : (n : Int)≤7:=by omega
  have hsub : (n : Int) - (k : Int)=((n - k : Nat) : Int):=by omega
  have hb:=below_alloc w (.cells #[.int .i64 ((n - k : Nat) : Int)] 3)
  have HR:=Lib.hid (Repeat_any (.slice (some ⟨w.heap.size,0,none⟩) 1 1) ((n - k : Nat) : Int) k (by omega) (w.alloc (.cells #[.int .i64 ((n - k : Nat) : Int)] 3)) ⟨_,_,rfl,⟨Nat.le_refl _,by unfold maxLen;simp⟩,fun _=>⟨w.heap.size,0,rfl,fun j hj=>by
   have : j=0:=by simp at hj;exact hj
   subst this
   exact cell_of_blk (heap_alloc_top _ _) (j:=0) rfl⟩⟩)
  have Hb:=Lib.hid hb
  clear hb e
  go_enter Tryz.func45,Tryz.ntmps45
  go_wp2_with fail
  refine HR.out.mono ?_
  rintro e w1 ⟨u,rfl,hi,hb1⟩
  have Hi:=Lib.hid hi
  have Hb1:=Lib.hid hb1
  clear hi hb1
  go_wp2_with fail
  go_ret
  exact ⟨_,rfl,Hi.out,Hb.out.trans (Hb1.out.mono Hb.out.size)⟩
end
section
open Go.RowKit
def facZ : Nat→Int
 | 0=>1
 | k+1=>facZ k * ((k+1 : Nat) : Int)
theorem facZ_rng : ∀ m,m < 13→1≤facZ m∧facZ m≤479001600:=by decide
def hkN (k c r j : Nat) : Nat:=(c - j)+(k - r) - 1
def divR (k c r : Nat) : Nat→Int→Int
 | 0,z=>z
 | j+1,z=>(divR k c r j z).tdiv (hkN k c r j : Int)
def rowD (k c : Nat) : Nat→Int→Int
 | 0,z=>z
 | r+1,z=>divR k c r c (rowD k c r z)
def stdZ (k c : Nat) : Int:=rowD k c k (facZ (max 1 (k * c)))
theorem tdiv_rng {z : Int} {d : Nat} (h : 0≤z∧z≤479001600) : 0≤z.tdiv (d : Int)∧z.tdiv (d : Int)≤479001600:=by
 obtain ⟨m,rfl⟩ : ∃ m : Nat,z=m:=⟨z.toNat,by omega⟩
 rw [Int.tdiv_eq_ediv_of_nonneg (by omega),← Int.natCast_ediv]
 have:=Nat.div_le_self m d
 obtain ⟨q,hq⟩ : ∃ q,q=m / d:=⟨_,rfl⟩
 rw [← hq] at this ⊢
 omega
theorem divR_rng (k c r : Nat) : ∀ (j : Nat) (z : Int),0≤z∧z≤479001600→0≤divR k c r j z∧divR k c r j z≤479001600
 | 0,z,h=>h
 | j+1,z,h=>by rw [divR];exact tdiv_rng (divR_rng k c r j z h)
theorem rowD_rng (k c : Nat) : ∀ (r : Nat) (z : Int),0≤z∧z≤479001600→0≤rowD k c r z∧rowD k c r z≤479001600
 | 0,z,h=>h
 | r+1,z,h=>by rw [rowD];exact divR_rng k c r c _ (rowD_rng k c r z h)
theorem stdZ_rng {k c : Nat} (h : k+c≤7) : 0≤stdZ k c∧stdZ k c≤479001600:=by
 refine rowD_rng _ _ _ _ ?_
 have hk : k * c≤12:=by
  have : ∀ k,k < 8 → ∀ c,c < 8→k+c≤7→k * c≤12:=by decide
  exact this k (by omega) c (by omega) h
 have:=facZ_rng (max 1 (k * c)) (by omega)
 omega
theorem rect_facts {k c : Nat} (hk : k≤7) (hc : 1≤c) (hc7 : c≤7) : shOk (List.replicate k (c : Int))=true∧sumI (List.replicate k (c : Int))=((k * c : Nat) : Int):=by
 have : ∀ k,k < 8 → ∀ c,c < 8→1≤c→shOk (List.replicate k ((c : Nat) : Int))=true∧sumI (List.replicate k ((c : Nat) : Int))=((k * c : Nat) : Int):=by decide +kernel
 exact this k (by omega) c (by omega) hc
theorem Conj_rect (v : Value) (k c : Nat) (w : World) (h : Ints w v (List.replicate k (c : Int))) (hk0 : 1≤k) (hk : k≤7) (hc0 : 1≤c) (hc7 : c≤7) :
 Calls Tryz.prog 82 #[v] w fun e w'=> ∃ u,e=.returned u∧Ints w' u (List.replicate c (k : Int))∧Below w.heap.size w w':=by
 have hok:=(rect_facts hk hc0 hc7).1
 have HSh:=Lib.hid (fun W (hb : Below w.heap.size w W)=>implIsShape_any v _ W (h.below hb))
 rw [hok] at HSh
 obtain ⟨p,cap,rfl,⟨hx1,hx2⟩,hxc⟩:=h
 rw [List.length_replicate] at hx1 hxc HSh ⊢
 obtain ⟨b,off,rfl,hcell⟩:=hxc (by omega)
 have Hc:=Lib.hid (show ∀ j,j < k→w.cell? ⟨b,off+j,none⟩=some (.int .i64 (c : Int)) from fun j hj=>by
  have:=hcell j hj
  unfold iv at this
  rw [List.getD_eq_getElem?_getD,List.getElem?_replicate,if_pos hj] at this
  exact this)
 have Ho:=Lib.hid (OwnF.made0 w 3 (iv []))
 clear hcell hxc hx2 hok
 go_enter Tryz.func82,Tryz.ntmps82
 go_wp2_with fail
 have hba:=below_alloc w (.cells #[] 3)
 refine (HSh.out _ hba).mono ?_
 rintro e w1 ⟨rfl,hq1⟩
 have HB1:=Lib.hid (hba.trans ((hq1.below _).mono (Nat.le_refl _)))
 have hs1 : w1.heap.size=w.heap.size+1:=by rw [hq1.size,size_alloc]
 have HO1:=Lib.hid (Ho.out.below (hq1.below _))
 have Hk:=Lib.hid (show ∀ j,j < k→w1.cell? ⟨b,off+j,none⟩=some (.int .i64 (c : Int)) from fun j hj=>cell_below HB1.out (Hc.out j hj))
 have c0:=Hk.out 0 (by omega)
 rw [Nat.add_zero] at c0
 have hkz : (0 : Int) < (k : Int):=by omega
 have hk0' : ((k : Int) == 0)=false:=by simp;omega
 clear hba hq1
 go_wp2_with fail
 go_loopg [3,4,5,19] c (fun g s3 s4 s5 s19 wr=> ∃ j : Nat,j≤c∧g=c - j∧s19=.int .i64 (j : Int)∧Hid (OwnI 3 wr w.heap.size wr.heap.size s3 (List.replicate j (k : Int)))∧Hid (Below w.heap.size w wr)∧w1.heap.size≤wr.heap.size)
 case atStart=>exact ⟨0,Nat.zero_le _,rfl,rfl,(OwnF.ints (xs:=[]) HO1.out).mono (Nat.le_refl _) (by omega),HB1.out,Nat.le_refl _⟩
 case round =>
  obtain ⟨j,hj,rfl,rfl,hO,hB,hszr⟩:=hrel
  obtain ⟨wo,rfl⟩ : ∃ x : World,x=wr:=⟨_,rfl⟩
  have HO:=Lib.hid hO.out
  have HB:=Lib.hid hB.out
  have Hk:=Lib.hid (show ∀ j,j < k→wo.cell? ⟨b,off+j,none⟩=some (.int .i64 (c : Int)) from fun j hj=>cell_below HB.out (Hc.out j hj))
  clear hO hB
  obtain ⟨p3,k3,e3,_,_⟩:=HO.out.shape
  subst e3
  rw [List.length_replicate] at HO ⊢
  by_cases hlt : j < c
  ·have hjc : (j : Int) < (c : Int):=by omega
   have Hof:=Lib.hid (show OwnF wo w.heap.size wo.heap.size 3 (.slice p3 j k3) j (iv (List.replicate j (k : Int))) by
    have:=HO.out.fn
    rw [List.length_replicate] at this
    exact this)
   go_wp2_with fail
   go_loopg [5] k (fun g s5 wr=> ∃ n : Nat,n≤k∧g=k - n∧s5=.int .i64 (n : Int)∧wr=wo)
   case atStart=>exact ⟨0,Nat.zero_le _,rfl,rfl,rfl⟩
   case round =>
    obtain ⟨n,hn,rfl,rfl,rfl⟩:=hrel
    by_cases hlt2 : n < k
    ·have cn:=Hk.out n hlt2
     have hnk : (n : Int) < (k : Int):=by omega
     go_wp2_with fail
     go_roundg (k - (n+1))
     case measure=>omega
     case rel=>exact ⟨n+1,by omega,rfl,by go_num,rfl⟩
    ·obtain rfl : n=k:=by omega
     have hnn : ¬ (n : Int) < (n : Int):=by omega
     go_wp2_with (at_builtin;go_must (refine wpList_append_G rfl (.tmp 36) (.tmp 38) 24 rfl 3 (.int .i64 0) 8 Tryz.underlying24 info_int rfl w.heap.size wr.heap.size _ j (iv (List.replicate j (n : Int))) rfl (Hof.out.below (below_alloc wr _)) (by rw [size_alloc];omega) (by rw [size_alloc];omega) _ 1 _ rfl (rd_one _ _ _ rfl) (fun j _=>rfl) (by unfold maxLen;omega) (by omega) ?_;intro v2 w4 ho2 hg2 hv2))
     have hbB : Below w.heap.size (wr.alloc (.cells #[.int .i64 (n : Int)] 3)) w4:=grownBy_below hg2 Hof.out.blocks (Nat.le_refl _) (by rw [size_alloc];omega)
     have HO2:=Lib.hid (show OwnI 3 w4 w.heap.size w4.heap.size v2 (List.replicate j (n : Int) ++ [(n : Int)]) from OwnI.snoc1 (by rw [List.length_replicate];exact ho2))
     rw [← List.replicate_succ'] at HO2
     have HB2:=Lib.hid ((HB.out.trans ((below_alloc wr (.cells #[.int .i64 (n : Int)] 3)).mono HB.out.size)).trans hbB)
     have hs2:=hbB.size
     rw [size_alloc] at hs2
     clear ho2 hg2 hbB hv2
     go_wp2_with fail
     go_roundg (c - (j+1))
     case measure=>omega
     case rel=>exact ⟨j+1,by omega,rfl,by go_num,HO2.out,HB2.out,by omega⟩
  ·obtain rfl : j=c:=by omega
   go_wp2_with fail
   go_ret
   exact ⟨_,rfl,HO.out.ints,HB.out⟩
theorem StandardCount_rect (v : Value) (k c : Nat) (w : World) (h : Ints w v (List.replicate k (c : Int))) (hk0 : 1≤k) (hc0 : 1≤c) (hkc : k+c≤7) :
 Calls Tryz.prog 44 #[v] w fun e w'=>e=.returned (.int .i64 (stdZ k c))∧Below w.heap.size w w':=by
 have hr:=rect_facts (k:=k) (c:=c) (by omega) hc0 (by omega)
 have hso : sumOk (List.replicate k (c : Int)):=⟨by rw [List.length_replicate];omega,fun j hj=>by
  rw [List.length_replicate] at hj
  rw [List.getD_eq_getElem?_getD,List.getElem?_replicate,if_pos hj]
  simp only [Option.getD_some]
  omega⟩
 have HSh:=Lib.hid (fun W (hb : Below w.heap.size w W)=>implIsShape_any v _ W (h.below hb))
 rw [hr.1] at HSh
 have HSu:=Lib.hid (fun W (hb : Below w.heap.size w W)=>sumInts_any v _ W (h.below hb) hso)
 rw [hr.2] at HSu
 have HCo:=Lib.hid (fun W (hb : Below w.heap.size w W)=>Conj_rect v k c W (h.below hb) hk0 (by omega) hc0 (by omega))
 have hs12 : k * c≤12:=by
  have : ∀ k,k < 8 → ∀ c,c < 8→k+c≤7→k * c≤12:=by decide
  exact this k (by omega) c (by omega) hkc
 have hs1 : 1≤k * c:=Nat.mul_pos hk0 hc0
 obtain ⟨p,cap,rfl,⟨hx1,hx2⟩,hxc⟩:=h
 rw [List.length_replicate] at hx1 hxc HSh HSu HCo ⊢
 obtain ⟨b,off,rfl,hcell⟩:=hxc (by omega)
 have Hc:=Lib.hid (show ∀ j,j < k→w.cell? ⟨b,off+j,none⟩=some (.int .i64 (c : Int)) from fun j hj=>by
  have:=hcell j hj
  unfold iv at this
  rw [List.getD_eq_getElem?_getD,List.getElem?_replicate,if_pos hj] at this
  exact this)
 obtain ⟨s,hs⟩ : ∃ s,s=k * c:=⟨_,rfl⟩
 have Hst:=Lib.hid (show stdZ k c=rowD k c k (facZ s) by unfold stdZ;rw [← hs];congr 1;congr 1;omega)
 rw [← hs] at HSu hs12 hs1
 have hs20 : ¬ (20 : Int) < (s : Int):=by omega
 clear hcell hxc hx2 hr hso hs
 go_enter Tryz.func44,Tryz.ntmps44
 go_wp2_with fail
 refine (HSh.out _ (Below.refl _ _)).mono ?_
 rintro e w1 ⟨rfl,hq1⟩
 go_wp2_with fail
 refine (HSu.out _ (hq1.below _)).mono ?_
 rintro e w2 ⟨rfl,hq2⟩
 have hq:=hq1.trans hq2
 go_wp2_with fail
 clear hq1 hq2
 go_loopg [3,4] (s - 1) (fun g s3 s4 wr=> ∃ i : Nat,1≤i∧i≤s∧g=s - i∧s4=.int .i64 ((i+1 : Nat) : Int)∧s3=.int .i64 (facZ i)∧Hid (Qt w wr))
 case atStart=>exact ⟨1,Nat.le_refl _,hs1,rfl,rfl,rfl,hq⟩
 case round =>
  obtain ⟨i,hi1,his,rfl,rfl,rfl,hqr⟩:=hrel
  obtain ⟨wo,rfl⟩ : ∃ x : World,x=wr:=⟨_,rfl⟩
  have HQ:=Lib.hid hqr.out
  clear hqr
  obtain ⟨z,hz⟩ : ∃ z,z=facZ i:=⟨_,rfl⟩
  have hzr:=facZ_rng i (by omega)
  rw [← hz] at hzr ⊢
  have Hz:=Lib.hid hz
  clear hz
  go_wp2_with fail
  refine (HSu.out _ (HQ.out.below _)).mono ?_
  rintro e w2 ⟨rfl,hq2⟩
  have HQ2:=Lib.hid (HQ.out.trans hq2)
  clear hq2
  by_cases hlt : i < s
  ·have hle : (i : Int)+1≤(s : Int):=by omega
   have hmul : z * ((i : Int)+1)≤479001600 * 13:=Int.mul_le_mul hzr.2 (by omega) (by omega) (by omega)
   have hmul0 : 0≤z * ((i : Int)+1):=Int.mul_nonneg (by omega) (by omega)
   have hi64 : IntKind.i64.wrap (z * ((i : Int)+1))=z * ((i : Int)+1):=k64 (by omega) (by omega)
   go_wp2_with fail
   go_roundg (s - (i+1))
   case measure=>omega
   case rel=>exact ⟨i+1,by omega,by omega,rfl,by go_num,by rw [facZ,← Hz.out];try rfl,HQ2.out⟩
  ·obtain rfl : i=s:=by omega
   have hle : ¬ (i : Int)+1≤(i : Int):=by omega
   go_wp2_with fail
   refine (HCo.out _ (HQ2.out.below _)).mono ?_
   rintro e w3 ⟨uc,rfl,hIc,hb3⟩
   have HB3:=Lib.hid ((HQ2.out.below _).trans (hb3.mono (by rw [HQ2.out.size];exact Nat.le_refl _)))
   have Hk:=Lib.hid (show ∀ j,j < k→w3.cell? ⟨b,off+j,none⟩=some (.int .i64 (c : Int)) from fun j hj=>cell_below HB3.out (Hc.out j hj))
   obtain ⟨pc,cc,rfl,⟨hc1,_⟩,hcx⟩:=hIc
   rw [List.length_replicate] at hc1 hcx ⊢
   obtain ⟨bc,oc,rfl,hcc⟩:=hcx (by omega)
   have Hcol:=Lib.hid (show ∀ j,j < c→w3.cell? ⟨bc,oc+j,none⟩=some (.int .i64 (k : Int)) from fun j hj=>by
    have:=hcc j hj
    unfold iv at this
    rw [List.getD_eq_getElem?_getD,List.getElem?_replicate,if_pos hj] at this
    exact this)
   have Hz0:=Lib.hid (show 0≤facZ i∧facZ i≤479001600 by rw [← Hz.out];omega)
   clear hcc hcx hb3 hzr
   have hle:=hle
   go_wp2_with fail
   go_loopg [3,6,7,8,30,36] k (fun g s3 s6 s7 s8 s30 s36 wr=> ∃ r : Nat,r≤k∧g=k - r∧s30=.int .i64 (r : Int)∧s3=.int .i64 (rowD k c r (facZ i))∧wr=w3)
   case atStart=>exact ⟨0,Nat.zero_le _,rfl,rfl,by rw [rowD,← Hz.out],rfl⟩
   case round =>
    obtain ⟨r,hr,rfl,rfl,rfl,rfl⟩:=hrel
    by_cases hlt2 : r < k
    ·have hrk : (r : Int) < (k : Int):=by omega
     have ck:=Hk.out r hlt2
     go_wp2_with fail
     go_loopg [3,8,36] c (fun g s3 s8 s36 wr2=> ∃ j : Nat,j≤c∧g=c - j∧s36=.int .i64 (j : Int)∧s3=.int .i64 (divR k c r j (rowD k c r (facZ i)))∧wr2=wr)
     case atStart=>exact ⟨0,Nat.zero_le _,rfl,rfl,by rw [divR],rfl⟩
     case round =>
      obtain ⟨j,hj,rfl,rfl,rfl,rfl⟩:=hrel
      by_cases hlt3 : j < c
      ·have hjc : (j : Int) < (c : Int):=by omega
       have cj:=Hcol.out j hlt3
       obtain ⟨y,hy⟩ : ∃ y,y=divR k c r j (rowD k c r (facZ i)):=⟨_,rfl⟩
       have hyr:=divR_rng k c r j _ (rowD_rng k c r _ Hz0.out)
       rw [← hy] at hyr ⊢
       obtain ⟨d,hd⟩ : ∃ d,d=hkN k c r j:=⟨_,rfl⟩
       have hd1 : (c : Int) - (j : Int)+(k : Int) - (r : Int) - 1=(d : Int):=by rw [hd];unfold hkN;omega
       have hd0 : 1≤d:=by rw [hd];unfold hkN;omega
       have hyd:=tdiv_rng (d:=d) hyr
       have Hn:=Lib.hid (show divR k c r (j+1) (rowD k c r (facZ i))=y.tdiv (d : Int) by rw [divR,← hy,← hd])
       obtain ⟨z2,hz2⟩ : ∃ z2,z2=y.tdiv (d : Int):=⟨_,rfl⟩
       rw [← hz2] at hyd Hn
       have hz2':=hz2.symm
       clear hz2 hy hd
       have hdn : (d : Int) ≠ 0:=by omega
       have hdf : ((d : Int) == 0)=false:=by simp;omega
       go_wp2_with fail
       go_roundg (c - (j+1))
       case measure=>omega
       case rel=>exact ⟨j+1,by omega,rfl,by go_num,by rw [Hn.out],rfl⟩
      ·obtain rfl : j=c:=by omega
       go_wp2_with fail
       go_roundg (k - (r+1))
       case measure=>omega
       case rel=>exact ⟨r+1,by omega,rfl,by go_num,by rw [rowD],rfl⟩
    ·obtain rfl : r=k:=by omega
     go_wp2_with fail
     go_ret
     exact ⟨by rw [Hst.out];rfl,HB3.out⟩
theorem Conj_nil (v : Value) (w : World) (h : Ints w v []) :
 Calls Tryz.prog 82 #[v] w fun e w'=> ∃ u,e=.returned u∧Below w.heap.size w w':=by
 have HSh:=Lib.hid (fun W (hb : Below w.heap.size w W)=>implIsShape_any v _ W (h.below hb))
 rw [show shOk []=true by decide] at HSh
 obtain ⟨p,cap,rfl,_,_⟩:=h
 rw [List.length_nil] at HSh ⊢
 go_enter Tryz.func82,Tryz.ntmps82
 go_wp2_with fail
 have hba:=below_alloc w (.cells #[] 3)
 refine (HSh.out _ hba).mono ?_
 rintro e w1 ⟨rfl,hq1⟩
 go_wp2_with fail
 go_ret
 exact ⟨_,rfl,hba.trans ((hq1.below _).mono (Nat.le_refl _))⟩
theorem StandardCount_nil (v : Value) (w : World) (h : Ints w v []) :
 Calls Tryz.prog 44 #[v] w fun e w'=>e=.returned (.int .i64 1)∧Below w.heap.size w w':=by
 have HSh:=Lib.hid (fun W (hb : Below w.heap.size w W)=>implIsShape_any v _ W (h.below hb))
 rw [show shOk []=true by decide] at HSh
 have HSu:=Lib.hid (fun W (hb : Below w.heap.size w W)=>sumInts_any v _ W (h.below hb) ⟨Nat.zero_le _,fun k hk=>absurd hk (Nat.not_lt_zero _)⟩)
 rw [show sumI []=0 from rfl] at HSu
 have HCo:=Lib.hid (fun W (hb : Below w.heap.size w W)=>Conj_nil v W (h.below hb))
 obtain ⟨p,cap,rfl,_,_⟩:=h
 rw [List.length_nil] at HSh HSu HCo ⊢
 go_enter Tryz.func44,Tryz.ntmps44
 go_wp2_with fail
 refine (HSh.out _ (Below.refl _ _)).mono ?_
 rintro e w1 ⟨rfl,hq1⟩
 go_wp2_with fail
 refine (HSu.out _ (hq1.below _)).mono ?_
 rintro e w2 ⟨rfl,hq2⟩
 have hq:=hq1.trans hq2
 go_wp2_with fail
 clear hq1 hq2
 go_loopg [3,4] 0 (fun g s3 s4 wr=>g=0∧s4=.int .i64 2∧s3=.int .i64 1∧Hid (Qt w wr))
 case atStart=>exact ⟨rfl,rfl,rfl,hq⟩
 case round =>
  obtain ⟨rfl,rfl,rfl,hqr⟩:=hrel
  obtain ⟨wo,rfl⟩ : ∃ x : World,x=wr:=⟨_,rfl⟩
  have HQ:=Lib.hid hqr.out
  clear hqr
  go_wp2_with fail
  refine (HSu.out _ (HQ.out.below _)).mono ?_
  rintro e w2 ⟨rfl,hq2⟩
  have HQ2:=Lib.hid (HQ.out.trans hq2)
  clear hq2
  go_wp2_with fail
  refine (HCo.out _ (HQ2.out.below _)).mono ?_
  rintro e w3 ⟨uc,rfl,hb3⟩
  have HB3:=Lib.hid ((HQ2.out.below w.heap.size).trans (hb3.mono (by rw [HQ2.out.size];exact Nat.le_refl _)))
  clear hb3
  go_wp2_with fail
  go_loopg [3,6,7,8,30,36] 0 (fun g s3 s6 s7 s8 s30 s36 wr=>g=0∧s30=.int .i64 0∧s3=.int .i64 1∧wr=w3)
  case atStart=>exact ⟨rfl,rfl,rfl,rfl⟩
  case round =>
   obtain ⟨rfl,rfl,rfl,rfl⟩:=hrel
   go_wp2_with fail
   go_ret
   exact ⟨rfl,HB3.out⟩
theorem stdZ_zero (c : Nat) : stdZ 0 c=1:=by
 unfold stdZ
 rw [Nat.zero_mul]
 rfl
theorem rowD_zero (k : Nat) (z : Int) : ∀ r,rowD k 0 r z=z
 | 0=>rfl
 | r+1=>by rw [rowD,divR,rowD_zero k z r]
theorem stdZ_flat (k : Nat) : stdZ k 0=1:=by
 unfold stdZ
 rw [rowD_zero,Nat.mul_zero]
 rfl
theorem DegreeOfGr_any (k n : Nat) (w : World) (hk : k≤n) (hn : 1≤n) (hn7 : n≤7) :
 Calls Tryz.prog 19 #[.int .i64 (k : Int),.int .i64 (n : Int)] w fun e w'=>e=.returned (.int .i64 (stdZ k (n - k)))∧Below w.heap.size w w':=by
 have HB:=Lib.hid (fun w=>isBox_yes k n w hk hn hn7)
 have HK:=Lib.hid (fun w=>block_any k n hk hn7 w)
 have HS:=Lib.hid (fun (v : Value) (W : World) (h : Ints W v (blkL k n))=>show Calls Tryz.prog 44 #[v] W fun e w'=>e=.returned (.int .i64 (stdZ k (n - k)))∧Below W.heap.size W w' from by
  unfold blkL at h
  by_cases hnk : n=k
  ·rw [if_pos hnk] at h
   rw [show n - k=0 by omega,stdZ_flat]
   exact StandardCount_nil v W h
  ·rw [if_neg hnk] at h
   rcases Nat.eq_zero_or_pos k with h0 | h0
   ·subst h0
    rw [stdZ_zero]
    exact StandardCount_nil v W h
   ·exact StandardCount_rect v k (n - k) W h h0 (by omega) (by omega))
 go_enter Tryz.func19,Tryz.ntmps19
 go_wp2_with fail
 refine (HB.out _).mono ?_
 rintro e w1 ⟨rfl,rfl⟩
 go_wp2_with fail
 refine (HK.out _).mono ?_
 rintro e w1 ⟨u,rfl,hi,hb⟩
 have Hb:=Lib.hid hb
 have HS2:=Lib.hid (HS.out u w1 hi)
 clear hb hi
 go_wp2_with fail
 refine HS2.out.mono ?_
 rintro e w2 ⟨rfl,hb2⟩
 have Hb2:=Lib.hid hb2
 clear hb2
 go_wp2_with fail
 go_ret
 exact ⟨rfl,Hb.out.trans (Hb2.out.mono Hb.out.size)⟩
end
section
open Go.RowKit Go.Lib
theorem bx_shape {xs : List Int} {r c : Nat} (h : bxOk xs r c=true) : xs.length≤16∧xs.length≤r ∧ ∀ i,i < xs.length→0≤xs.getD i 0∧xs.getD i 0≤1000:=by
 unfold bxOk shOk at h
 simp only [Bool.and_eq_true,decide_eq_true_eq] at h
 refine ⟨h.1.1.1,h.1.2,fun i hi=> ?_⟩
 have:=h.1.1.2 i hi
 unfold shAt at this
 omega
theorem filP_of {a b : List Int} {k n : Nat} (ha : bxOk a k n=true) (hb : bxOk b k n=true) (hk : k≤n) (hn : n≤7) : FilP a b k ((n - k : Nat) : Int):=by
 obtain ⟨a1,a2,a3⟩:=bx_shape ha
 obtain ⟨b1,b2,b3⟩:=bx_shape hb
 exact ⟨by omega,a2,b1,a3,b3,by omega⟩
theorem GrProduct_any (va vb : Value) (a b : List Int) (k n : Nat) (w : World) (ha : Ints w va a) (hb : Ints w vb b) (hxa : bxOk a k n=true) (hxb : bxOk b k n=true) (hk : k≤n) (h1 : 1≤n) (h7 : n≤7) (hm : (fsL a b k ((n - k : Nat) : Int)).length < 1000) :
 Calls Tryz.prog 17 #[va,vb,.int .i64 (k : Int),.int .i64 (n : Int)] w fun e w' =>
  ∃ u lo2,e=.returned (.tuple #[u,.bool true])∧w.heap.size≤lo2∧OwnP2 w' w.heap.size lo2 w'.heap.size u (filL a b k ((n - k : Nat) : Int))∧AscP (filL a b k ((n - k : Nat) : Int))∧BdP (filL a b k ((n - k : Nat) : Int)) (fsL a b k ((n - k : Nat) : Int)).length∧Below w.heap.size w w':=by
 have HA:=Lib.hid ha
 have HB:=Lib.hid hb
 have HXa:=Lib.hid (show ∀ wx,Qt w wx→Calls Tryz.prog 40 #[va,.int .i64 (k : Int),.int .i64 (n : Int)] wx fun e w'=>e=.returned (.bool true)∧Qt wx w' from fun wx hq=>hxa ▸ IsInBox_any va a k n wx (ha.qt hq) hk h1 h7)
 have HXb:=Lib.hid (show ∀ wx,Qt w wx→Calls Tryz.prog 40 #[vb,.int .i64 (k : Int),.int .i64 (n : Int)] wx fun e w'=>e=.returned (.bool true)∧Qt wx w' from fun wx hq=>hxb ▸ IsInBox_any vb b k n wx (hb.qt hq) hk h1 h7)
 have HF:=Lib.hid (show ∀ wx,Qt w wx→Calls Tryz.prog 41 #[va,vb,.int .i64 (k : Int),.int .i64 ((n : Int) - (k : Int))] wx fun e w' =>
  ∃ u lo2,e=.returned u∧w.heap.size≤lo2∧OwnP2 w' w.heap.size lo2 w'.heap.size u (filL a b k ((n - k : Nat) : Int))∧AscP (filL a b k ((n - k : Nat) : Int))∧BdP (filL a b k ((n - k : Nat) : Int)) (fsL a b k ((n - k : Nat) : Int)).length∧Below w.heap.size w w' from fun wx hq=>by
  rw [show (n : Int) - (k : Int)=((n - k : Nat) : Int) by omega]
  refine (fillings_any va vb a b k ((n - k : Nat) : Int) wx (ha.qt hq) (hb.qt hq) (filP_of hxa hxb hk h7) hm).mono ?_
  rintro e w' ⟨u,lo2,he,h1,h2,h3,h4,h5⟩
  rw [hq.size] at h1 h2 h5
  exact ⟨u,lo2,he,h1,h2,h3,h4,(hq.below _).trans h5⟩)
 have hkn : (k : Int)≤(n : Int):=by omega
 have hnn : (n : Int)≤7:=by omega
 clear ha hb hxa hxb hm
 go_enter Tryz.func17,Tryz.ntmps17
 go_wp2_with fail
 refine (HXa.out _ (Qt.refl _)).mono ?_
 rintro e w1 ⟨rfl,hq1⟩
 go_wp2_with fail
 refine (HXb.out _ hq1).mono ?_
 rintro e w2 ⟨rfl,hq2⟩
 have Hq2:=Lib.hid (hq1.trans hq2)
 clear hq1 hq2
 go_wp2_with fail
 refine (HF.out _ Hq2.out).mono ?_
 rintro e w3 ⟨u,lo2,rfl,q1,q2,q3,q4,q5⟩
 have Q:=Lib.hid (And.intro q1 (And.intro q2 (And.intro q3 (And.intro q4 q5))))
 clear q1 q2 q3 q4 q5
 go_wp2_with fail
 go_ret2
 exact ⟨u,lo2,rfl,Q.out⟩
end
end Go.Proofs.YtincaodpjdeoeaaGreatDoor
