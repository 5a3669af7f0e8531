/-
  A part of the proof of FnTop (texts of one proof, joined).
-/
import Derived.Test.YtijadclebjcckaaGreatJ16
namespace Go.Proofs.YtijadclebjcckaaGreat
set_option linter.all false
set_option maxRecDepth 100000
set_option maxHeartbeats 16000000
section
open Go.RowKit
def qF (cs : List Cls) (g : Nat→Value) (i j : Nat) : Value :=
 match j with
 | 0=>.int .i64 ((cs.getD i clD).1.getD 0 0)
 | 1=>g i
 | _=>.int .i64 (cs.getD i clD).2
def RdQ (w : World) (v : Value) (cs : List Cls) : Prop:=∃ f,RdS w 3 v cs.length (qF cs f) ∧ ∀ i,i < cs.length→Ints w (f i) ((cs.getD i clD).1.drop 1)
def OwnQ (w : World) (lo lo2 hi : Nat) (v : Value) (cs : List Cls) : Prop :=
 ∃ g,OwnS w lo hi 83 3 v cs.length (qF cs g) ∧ ∀ i,i < cs.length→OwnI 3 w lo2 hi (g i) ((cs.getD i clD).1.drop 1)
theorem OwnQ.rd {w : World} {lo lo2 hi : Nat} {v : Value} {cs : List Cls} (h : OwnQ w lo lo2 hi v cs) : RdQ w v cs:=by
 obtain ⟨g,h1,h2⟩:=h
 exact ⟨g,h1.rd,fun i hi=>(h2 i hi).ints⟩
theorem OwnQ.below {w w' : World} {lo lo2 hi : Nat} {v : Value} {cs : List Cls} (h : OwnQ w lo lo2 hi v cs) (hb : Below w.heap.size w w') : OwnQ w' lo lo2 hi v cs:=by
 obtain ⟨g,h1,h2⟩:=h
 exact ⟨g,h1.below hb,fun i hi=>(h2 i hi).below hb⟩
theorem OwnQ.mono {w : World} {lo lo2 hi lo' hi' : Nat} {v : Value} {cs : List Cls} (h : OwnQ w lo lo2 hi v cs) (hl : lo'≤lo) (hh : hi≤hi') : OwnQ w lo' lo2 hi' v cs:=by
 obtain ⟨g,h1,h2⟩:=h
 exact ⟨g,h1.mono hl hh,fun i hi=>(h2 i hi).mono (Nat.le_refl _) hh⟩
theorem OwnQ.shape {w : World} {lo lo2 hi : Nat} {v : Value} {cs : List Cls} (h : OwnQ w lo lo2 hi v cs) : ∃ p cap,v=.slice p cs.length cap∧cs.length≤cap∧cap≤maxLen:=by
 obtain ⟨g,h1,_⟩:=h
 obtain ⟨p,cap,e,a,b,_⟩:=h1.shape
 exact ⟨p,cap,e,a,b⟩
theorem RdQ.below {w w' : World} {v : Value} {cs : List Cls} (h : RdQ w v cs) (hb : Below w.heap.size w w') : RdQ w' v cs:=by
 obtain ⟨f,h1,h2⟩:=h
 exact ⟨f,RdS.below h1 hb,fun i hi=>(h2 i hi).below hb⟩
theorem RdS.three {w : World} {v : Value} {cs : List Cls} {f : Nat→Value} (h : RdS w 3 v cs.length (qF cs f)) : ∃ p cap,v=.slice p cs.length cap∧(cs.length≤cap∧cap≤maxLen) ∧
 (0 < cs.length → ∃ b,p=some ⟨b,0,none⟩ ∧ ∀ i,i < cs.length→w.cell? ⟨b,i * 3,none⟩=some (.int .i64 ((cs.getD i clD).1.getD 0 0))∧w.cell? ⟨b,i * 3+1,none⟩=some (f i)∧w.cell? ⟨b,i * 3+2,none⟩=some (.int .i64 (cs.getD i clD).2)):=by
 obtain ⟨p,cap,e,h1,h2⟩:=h
 refine ⟨p,cap,e,h1,fun h0=> ?_⟩
 obtain ⟨b,hb,hc⟩:=h2 h0
 exact ⟨b,hb,fun i hi=>⟨hc i hi 0 (by omega),hc i hi 1 (by omega),hc i hi 2 (by omega)⟩⟩
theorem key_lt (p q : Int) (s t : List Int) (c : Int) (h1 : p ≠ q→c=p - q) (h2 : p=q→c=cmpB s t) : (c < 0 ↔ ltB (p :: s) (q :: t)=true)∧(c=0 ↔ (p :: s)=(q :: t)):=by
 have hc:=cmpB_lt s t
 have hz:=cmpB_zero s t
 by_cases e : p=q
 ·have h:=h2 e
  subst e
  rw [h]
  refine ⟨?_,by rw [hz];simp⟩
  unfold ltB
  rw [if_neg (Int.lt_irrefl p),if_neg (Int.lt_irrefl p)]
  cases hl : ltB s t with
  | true=>rw [hl] at hc;simp at hc;simp;omega
  | false=>rw [hl] at hc;simp at hc;simp;omega
 ·have h:=h1 e
  rw [h]
  refine ⟨?_,⟨fun h=>absurd (show p=q by omega) e,fun h=>absurd (by injection h) e⟩⟩
  unfold ltB
  by_cases e2 : p < q
  ·rw [if_pos e2];simp;omega
  ·rw [if_neg e2,if_pos (by omega)]
   simp;omega
theorem byQ_any (p q c d : Int) (z s : Value) (xs ys : List Int) (w : World) (hz : Ints w z xs) (hs : Ints w s ys) (hp : -1000000≤p∧p≤1000000) (hq : -1000000≤q∧q≤1000000) :
 Calls Tryz.prog 85 #[.agg #[.int .i64 p,z,.int .i64 c],.agg #[.int .i64 q,s,.int .i64 d]] w fun e w'=> ∃ r : Int,e=.returned (.int .i64 r)∧((r < 0 ↔ ltB (p :: xs) (q :: ys)=true)∧(r=0 ↔ (p :: xs)=(q :: ys)))∧Below w.heap.size w w':=by
 have Hz:=Lib.hid hz
 have Hs:=Lib.hid hs
 obtain ⟨pz,kz,rfl,_,_⟩:=hz
 obtain ⟨qs,ks,rfl,_,_⟩:=hs
 obtain ⟨nx,hnx⟩ : ∃ n,n=xs.length:=⟨_,rfl⟩
 obtain ⟨ny,hny⟩ : ∃ n,n=ys.length:=⟨_,rfl⟩
 rw [← hnx] at Hz ⊢
 rw [← hny] at Hs ⊢
 obtain ⟨W,hW⟩ : ∃ W,W=(w.alloc (.cells #[.int .i64 p,.slice pz nx kz,.int .i64 c] 83)).alloc (.cells #[.int .i64 q,.slice qs ny ks,.int .i64 d] 83):=⟨_,rfl⟩
 have hb : Below w.heap.size w W:=by rw [hW];exact below_alloc2 _ _ _
 have HC:=Lib.hid (compare_any _ _ xs ys W (Hz.out.below hb) (Hs.out.below hb))
 have Hb:=Lib.hid hb
 have HW:=Lib.hid hW
 clear hb hnx hny hW
 by_cases e : p=q
 ·have hne : (p == q)=true:=by simp [e]
  have He:=Lib.hid e
  subst e
  go_enter Tryz.func85,Tryz.ntmps85
  go_wp2_with fail
  rw [← HW.out]
  refine HC.out.mono ?_
  rintro e w' ⟨rfl,rfl⟩
  go_wp2_with fail
  go_ret
  exact ⟨_,rfl,key_lt _ _ _ _ _ (fun h=>absurd rfl h) (fun _=>rfl),Hb.out⟩
 ·have hne : (p == q)=false:=by simp [e]
  have hne2 : (p == q)=false:=hne
  have He:=Lib.hid e
  clear e
  go_enter Tryz.func85,Tryz.ntmps85
  go_wp2_with fail
  rw [← HW.out]
  go_ret
  exact ⟨_,rfl,key_lt _ _ _ _ _ (fun _=>rfl) (fun h=>absurd h He.out),Hb.out⟩
theorem below_of_drewQ {w w' : World} (h : Below w.drew.heap.size w.drew w') : Below w.heap.size w w':=⟨h.os,h.tape,h.output,h.size,h.block⟩
theorem keep6 {a0 a1 a2 a3 a4 a5 : Addr} {v0 v1 v2 v3 v4 v5 : Value} {w w' : World} (hb : Below w.heap.size w w') (h : w.cell? a0=some v0∧w.cell? a1=some v1∧w.cell? a2=some v2∧w.cell? a3=some v3∧w.cell? a4=some v4∧w.cell? a5=some v5) :
 w'.cell? a0=some v0∧w'.cell? a1=some v1∧w'.cell? a2=some v2∧w'.cell? a3=some v3∧w'.cell? a4=some v4∧w'.cell? a5=some v5 :=
 ⟨cell_below hb h.1,cell_below hb h.2.1,cell_below hb h.2.2.1,cell_below hb h.2.2.2.1,cell_below hb h.2.2.2.2.1,cell_below hb h.2.2.2.2.2⟩
theorem searchQ_any (v u : Value) (cs : List Cls) (tp td : Int) (t : List Int) (k : Nat) (w : World) (h : RdQ w v cs) (hu : Ints w u t) (hl : cs.length≤1000) (hk : k≤cs.length)
 (ho : ∀ a,a < cs.length→ltB (cs.getD a clD).1 (tp :: t)=decide (a < k)) (hko : ∀ a,a < cs.length→(cs.getD a clD).1=(cs.getD a clD).1.getD 0 0 :: (cs.getD a clD).1.drop 1 ∧ -1000000≤(cs.getD a clD).1.getD 0 0∧(cs.getD a clD).1.getD 0 0≤1000000) (htp : -1000000≤tp∧tp≤1000000) :
 Calls Tryz.prog 84 #[v,.agg #[.int .i64 tp,u,.int .i64 td],.func (.func 85) #[] #[]] w fun e w' =>
  e=.returned (.tuple #[.int .i64 (k : Int),.bool (decide (k < cs.length∧(cs.getD k clD).1=tp :: t))])∧Below w.heap.size w w':=by
 obtain ⟨f,h1,hf⟩:=h
 obtain ⟨p,cap,rfl,⟨hx1,hx⟩,hxc⟩:=h1.three
 unfold maxLen at hx
 obtain ⟨n,hn⟩ : ∃ n,n=cs.length:=⟨_,rfl⟩
 rw [← hn] at hx1 hxc hf hk ho hl hko ⊢
 have Hc:=Lib.hid hxc
 have Hf:=Lib.hid hf
 have Ho:=Lib.hid ho
 have Hko:=Lib.hid hko
 have Htp:=Lib.hid htp
 have Hu:=Lib.hid hu
 obtain ⟨pu,ku,rfl,_,_⟩:=hu
 obtain ⟨nt,hnt⟩ : ∃ n,n=t.length:=⟨_,rfl⟩
 rw [← hnt] at Hu ⊢
 clear h1 hxc hf ho hn hnt hko htp
 obtain ⟨W0,hW0⟩ : ∃ W0,W0=w.alloc (.cells #[.int .i64 tp,.slice pu nt ku,.int .i64 td] 83):=⟨_,rfl⟩
 have hb00 : Below w.heap.size w W0:=by rw [hW0];exact below_alloc _ _
 have hz0 : W0.heap[w.heap.size]?=some (.cells #[.int .i64 tp,.slice pu nt ku,.int .i64 td] 83 (0,0)):=by rw [hW0];exact heap_alloc_top _ _
 have HW0:=Lib.hid hW0
 have Hb00:=Lib.hid hb00
 have Hz0:=Lib.hid hz0
 clear hW0 hb00 hz0
 go_enter Tryz.func84,Tryz.ntmps84
 go_wp2_with fail
 rw [← HW0.out]
 go_loopg [9,10,11] n (fun g s9 s10 s11 wr=> ∃ i j : Nat,i≤k∧k≤j∧j≤n∧g=j - i∧s9=.int .i64 (i : Int)∧s10=.int .i64 (j : Int)∧Hid (Below W0.heap.size W0 wr))
 case atStart=>exact ⟨0,n,Nat.zero_le _,hk,Nat.le_refl _,rfl,rfl,rfl,Below.refl _ _⟩
 case round =>
  obtain ⟨i,j,hik,hkj,hjn,rfl,rfl,rfl,hb⟩:=hrel
  obtain ⟨wo,rfl⟩ : ∃ x : World,x=wr:=⟨_,rfl⟩
  have hbw:=Lib.hid (Hb00.out.trans (hb.out.mono Hb00.out.size))
  have zt:=blk_later Hz0.out hb.out
  have t0:=cell_of_blk zt (j:=0) rfl
  have t1:=cell_of_blk zt (j:=1) rfl
  have t2:=cell_of_blk zt (j:=2) rfl
  clear zt
  by_cases hij : i < j
  ·have hiji : (i : Int) < (j : Int):=by omega
   obtain ⟨m,hm⟩ : ∃ m : Nat,m=(i+j) / 2:=⟨_,rfl⟩
   have hmn : m < n:=by omega
   have hmi : (m : Int) < (n : Int):=by omega
   obtain ⟨bx,rfl,hcc⟩:=Hc.out (by omega)
   obtain ⟨d0,d1,d2⟩:=hcc m hmn
   have d0:=cell_below hbw.out d0
   have d1:=cell_below hbw.out d1
   have d2:=cell_below hbw.out d2
   have Hm:=Lib.hid hm
   obtain ⟨ek,ek2⟩:=Hko.out m hmn
   obtain ⟨p0,hp0⟩ : ∃ p0,p0=(cs.getD m clD).1.getD 0 0:=⟨_,rfl⟩
   obtain ⟨s0,hs0⟩ : ∃ s0,s0=(cs.getD m clD).1.drop 1:=⟨_,rfl⟩
   obtain ⟨c0,hc0⟩ : ∃ c,c=(cs.getD m clD).2:=⟨_,rfl⟩
   have hom:=Ho.out m hmn
   have hfm:=Hf.out m hmn
   rw [← hp0,← hs0] at ek
   rw [← hp0] at ek2 d0
   rw [← hs0] at hfm
   rw [← hc0] at d2
   rw [ek] at hom
   have HS:=Lib.hid (show ∀ wx,Below wo.heap.size wo wx→Calls Tryz.prog 85 #[.agg #[.int .i64 p0,f m,.int .i64 c0],.agg #[.int .i64 tp,.slice pu nt ku,.int .i64 td]] wx fun e w'=> ∃ r : Int,e=.returned (.int .i64 r)∧((r < 0 ↔ ltB (p0 :: s0) (tp :: t)=true)∧(r=0 ↔ (p0 :: s0)=(tp :: t)))∧Below wx.heap.size wx w' from fun wx hx=>byQ_any p0 tp c0 td (f m) (.slice pu nt ku) s0 t wx ((hfm.below hbw.out).below hx) ((Hu.out.below hbw.out).below hx) ek2 Htp.out)
   obtain ⟨pz,kz,ez,_,_⟩:=hfm
   obtain ⟨nz,hnz⟩ : ∃ c,c=s0.length:=⟨_,rfl⟩
   rw [← hnz] at ez
   rw [ez] at HS
   rw [ez] at d1
   rw [hm] at d0 d1 d2
   have Hom:=Lib.hid hom
   have hmi2 : ((i : Int)+(j : Int)) / 2 < (n : Int):=by omega
   have hmi3 : (0 : Int)≤((i : Int)+(j : Int)) / 2:=by omega
   have hmi4 : (((i : Int)+(j : Int)) / 2).toNat=(i+j) / 2:=by omega
   clear hm hcc hc0 hnz hs0 hp0 ek ek2 ez hom
   go_wp2_with fail
   go_region_held3 (fun w'=>w'.cell? ⟨bx,(i+j) / 2 * 3,none⟩=some (.int .i64 p0)∧w'.cell? ⟨bx,(i+j) / 2 * 3+1,none⟩=some (.slice pz nz kz)∧w'.cell? ⟨bx,(i+j) / 2 * 3+2,none⟩=some (.int .i64 c0)∧w'.cell? ⟨w.heap.size,0,none⟩=some (.int .i64 tp)∧w'.cell? ⟨w.heap.size,1,none⟩=some (.slice pu nt ku)∧w'.cell? ⟨w.heap.size,2,none⟩=some (.int .i64 td))
    (first | with_reducible assumption | exact ⟨d0,d1,d2,t0,t1,t2⟩ | exact keep6 hb' (by assumption))
    ((go_at_call 85;with_reducible refine Calls.mono (HS.out _ (Below.drew (Below.refl _ _))) ?_;rintro e w' ⟨c,rfl,hc9,hb'⟩;have Hc9:=Lib.hid hc9;clear hc9))
   have hcl : c < 0 ↔ m < k:=by rw [Hc9.out.1,Hom.out];simp
   have Hb':=Lib.hid (hb.out.trans ((below_of_drewQ hb').mono hb.out.size))
   have Hcl:=Lib.hid hcl
   clear hb' HS hcl
   by_cases h2 : m < k
   ·have h3 : c < 0:=Hcl.out.2 h2
    have hd : decide (c < 0)=true:=decide_eq_true h3
    go_wp2_with fail
    go_roundg (j - (m+1))
    case measure=>have:=Hm.out;omega
    case rel=>exact ⟨m+1,j,by have:=Hm.out;omega,hkj,hjn,rfl,by have:=Hm.out;go_num,rfl,Hb'.out⟩
   ·have h3 : ¬ c < 0:=fun h=>h2 (Hcl.out.1 h)
    have hd : decide (c < 0)=false:=decide_eq_false h3
    go_wp2_with fail
    go_roundg (m - i)
    case measure=>have:=Hm.out;omega
    case rel=>exact ⟨i,m,hik,by omega,by have:=Hm.out;omega,rfl,rfl,by have:=Hm.out;congr 1;omega,Hb'.out⟩
  ·have hiji : ¬ (i : Int) < (j : Int):=by omega
   obtain rfl : i=k:=by omega
   by_cases hin : i < n
   ·have hini : (i : Int) < (n : Int):=by omega
    obtain ⟨bx,rfl,hcc⟩:=Hc.out (by omega)
    obtain ⟨d0,d1,d2⟩:=hcc i hin
    have d0:=cell_below hbw.out d0
    have d1:=cell_below hbw.out d1
    have d2:=cell_below hbw.out d2
    obtain ⟨ek,ek2⟩:=Hko.out i hin
    obtain ⟨p0,hp0⟩ : ∃ p0,p0=(cs.getD i clD).1.getD 0 0:=⟨_,rfl⟩
    obtain ⟨s0,hs0⟩ : ∃ s0,s0=(cs.getD i clD).1.drop 1:=⟨_,rfl⟩
    obtain ⟨c0,hc0⟩ : ∃ c,c=(cs.getD i clD).2:=⟨_,rfl⟩
    have hfm:=Hf.out i hin
    rw [← hp0,← hs0] at ek
    rw [← hp0] at ek2 d0
    rw [← hs0] at hfm
    rw [← hc0] at d2
    have HS:=Lib.hid (show ∀ wx,Below wo.heap.size wo wx→Calls Tryz.prog 85 #[.agg #[.int .i64 p0,f i,.int .i64 c0],.agg #[.int .i64 tp,.slice pu nt ku,.int .i64 td]] wx fun e w'=> ∃ r : Int,e=.returned (.int .i64 r)∧((r < 0 ↔ ltB (p0 :: s0) (tp :: t)=true)∧(r=0 ↔ (p0 :: s0)=(tp :: t)))∧Below wx.heap.size wx w' from fun wx hx=>byQ_any p0 tp c0 td (f i) (.slice pu nt ku) s0 t wx ((hfm.below hbw.out).below hx) ((Hu.out.below hbw.out).below hx) ek2 Htp.out)
    obtain ⟨pz,kz,ez,_,_⟩:=hfm
    obtain ⟨nz,hnz⟩ : ∃ c,c=s0.length:=⟨_,rfl⟩
    rw [← hnz] at ez
    rw [ez] at HS
    rw [ez] at d1
    have Hek:=Lib.hid ek
    clear hcc hc0 hnz hs0 hp0 ek ek2 ez
    go_wp2_with fail
    go_region_held3 (fun w'=>w'.cell? ⟨bx,i * 3,none⟩=some (.int .i64 p0)∧w'.cell? ⟨bx,i * 3+1,none⟩=some (.slice pz nz kz)∧w'.cell? ⟨bx,i * 3+2,none⟩=some (.int .i64 c0)∧w'.cell? ⟨w.heap.size,0,none⟩=some (.int .i64 tp)∧w'.cell? ⟨w.heap.size,1,none⟩=some (.slice pu nt ku)∧w'.cell? ⟨w.heap.size,2,none⟩=some (.int .i64 td))
     (first | with_reducible assumption | exact ⟨d0,d1,d2,t0,t1,t2⟩ | exact keep6 hb' (by assumption))
     ((go_at_call 85;with_reducible refine Calls.mono (HS.out _ (Below.drew (Below.refl _ _))) ?_;rintro e w' ⟨c,rfl,hc9,hb'⟩;have Hc9:=Lib.hid hc9;clear hc9))
    have Hc2:=Lib.hid Hc9.out.2
    have Hb':=Lib.hid (hb.out.trans ((below_of_drewQ hb').mono hb.out.size))
    clear hb' HS
    by_cases hc00 : c=0
    ·have hk0 : (cs.getD i clD).1=tp :: t:=by rw [Hek.out];exact Hc2.out.1 hc00
     have Hk0:=Lib.hid hk0
     subst hc00
     clear hk0
     go_wp2_with fail
     go_ret2
     exact ⟨by have e:=Hk0.out;rw [List.getD_eq_getElem?_getD] at e;rw [decide_eq_true e] <;> rfl,Hb00.out.trans (Hb'.out.mono Hb00.out.size)⟩
    ·have hk0 : ¬ (cs.getD i clD).1=tp :: t:=fun h=>hc00 (Hc2.out.2 (by rw [← Hek.out];exact h))
     have Hk0:=Lib.hid hk0
     have hcb : (c == 0)=false:=by simp [hc00]
     clear hk0
     go_wp2_with fail
     go_ret2
     exact ⟨by rw [decide_eq_false (fun h=>Hk0.out h.2)];first | rfl | (simp [hcb];done),Hb00.out.trans (Hb'.out.mono Hb00.out.size)⟩
   ·have hini : ¬ ((i : Int) < (n : Int)):=by omega
    go_wp2_with fail
    go_quiet (fail)
    go_wp2_with fail
    go_ret2
    exact ⟨by first | rfl | (rw [decide_eq_false (fun h=>hin h.1)];rfl) | simp,hbw.out.trans (((Qt.refl wo).drewN nq).below _)⟩
def insQ (xs : List Value) (i : Nat) (a b c : Value) : List Value:=xs.take (i * 3) ++ [a,b,c] ++ xs.drop (i * 3)
theorem info_qrtI : (Tryz.prog.info? 83).map (fun i=>(i.zero,i.size,i.bytes))=some (some (.agg #[.int .i64 0,.slice none 0 0,.int .i64 0]),3,40):=by kernel_rfl
theorem insertQ_end (v : Value) (n lo hi vb vc : Nat) (xs : List Value) (a b c : Value) (w : World) (ho : Own w lo hi 83 3 v n xs) (hlo : lo≤w.heap.size) (hn : n≤1000000)
 (h0 : w.cell? ⟨vb,0,none⟩=some a) (h1 : w.cell? ⟨vb,1,none⟩=some b) (h2 : w.cell? ⟨vb,2,none⟩=some c) (o0 : a.oneCell'=true) (o1 : b.oneCell'=true) (o2 : c.oneCell'=true) :
 Calls Tryz.prog 86 #[v,.int .i64 (n : Int),.slice (some ⟨vb,0,none⟩) 1 vc] w fun e w' =>
  ∃ u,e=.returned u∧Own w' lo w'.heap.size 83 3 u (n+1) (insQ xs n a b c)∧w.grownBy w' v.ownBlock∧(u.ownBlock=v.ownBlock ∨ u.ownBlock=some w.heap.size):=by
 obtain ⟨i,hi',hz,hsz,hby⟩:=info_partsS info_qrtI
 have Hi:=Lib.hid hi'
 have Hz:=Lib.hid hz
 have Hsz:=Lib.hid hsz
 have Hby:=Lib.hid hby
 have Ho:=Lib.hid ho
 have hxl:=ho.len
 have Hxl:=Lib.hid hxl
 obtain ⟨p,cap,rfl,hnc,hcm⟩ : ∃ p cap,v=.slice p n cap∧n≤cap∧cap≤maxLen:=by
  rcases ho.1.2 with ⟨rfl,rfl⟩ | ⟨g,cap,cur,rfl,_,_,h1,h2,_⟩
  ·exact ⟨none,0,rfl,Nat.le_refl _,Nat.zero_le _⟩
  ·exact ⟨_,cap,rfl,h1,h2⟩
 have hpn : p=none→n=0∧cap=0:=fun e=>by
  subst e
  rcases ho.1.2 with ⟨e,rfl⟩ | ⟨g,cap',cur,e,_⟩
  ·injection e with _ _ e;exact ⟨rfl,e⟩
  ·injection e with e;cases e
 have hnn : ((n : Int) == (n : Int))=true:=by simp
 have hn0 : (n : Int)≤(n : Int):=Int.le_refl _
 have Hnews:=Lib.hid (show ∀ (j : Nat) (u : Value),[a,b,c][j]?=some u→w.cell? ((⟨vb,0,none⟩ : Addr).add j)=some u from fun j u hj=>by
  have hadd : (⟨vb,0,none⟩ : Addr).add j=⟨vb,0+j,none⟩:=by unfold Addr.add;split <;> simp_all
  rw [hadd,Nat.zero_add]
  match j,hj with
  | 0,hj=>simp at hj;subst hj;exact h0
  | 1,hj=>simp at hj;subst hj;exact h1
  | 2,hj=>simp at hj;subst hj;exact h2
  | j+3,hj=>simp at hj)
 have Hone:=Lib.hid (show ∀ u ∈ [a,b,c],u.oneCell'=true from fun u hu=>by
  simp only [List.mem_cons,List.not_mem_nil,or_false] at hu
  rcases hu with rfl | rfl | rfl
  ·exact o0
  ·exact o1
  ·exact o2)
 have Hb1:=Lib.hid (show n+1≤maxLen by unfold maxLen;omega)
 have Hb2:=Lib.hid (show (n+1) * 40≤140737488355328 by omega)
 have Hins:=Lib.hid (show xs ++ [a,b,c]=insQ xs n a b c by
  unfold insQ
  rw [List.take_of_length_le (by omega),List.drop_eq_nil_of_le (by omega),List.append_nil])
 have Hx:=Lib.hid (show ∀ v' w',w'.ownsRow lo 83 3 v' (n+1) (xs ++ [a,b,c])→Own w' lo w'.heap.size 83 3 v' (n+1) (insQ xs n a b c) from fun v' w' h=>by rw [← Hins.out];exact Own.of_row h)
 unfold maxLen at hcm
 clear hi' hz hsz hby ho h0 h1 h2 o0 o1 o2 hxl
 cases p with
 | none =>
   obtain ⟨rfl,rfl⟩:=hpn rfl
   go_enter Tryz.func86,Tryz.ntmps86
   go_wp2_with (at_builtin;go_must (refine wpList_append_own_at _ rfl (.tmp 23) (.tmp 24) 79 rfl lo 83 i _ 3 40 Tryz.underlying79 Hi.out Hz.out Hsz.out Hby.out rfl (by omega) _ 0 xs rfl Ho.out.1 ⟨vb,0,none⟩ 1 vc [a,b,c] rfl rfl Hnews.out Hone.out Hb1.out Hb2.out hlo ?_;intro v' w' h2' h3 _ h4))
   go_ret
   exact ⟨_,rfl,Hx.out _ _ h2',h3,h4⟩
 | some g =>
   clear hpn
   go_enter Tryz.func86,Tryz.ntmps86
   go_wp2_with (at_builtin;go_must (refine wpList_append_own_at _ rfl (.tmp 23) (.tmp 24) 79 rfl lo 83 i _ 3 40 Tryz.underlying79 Hi.out Hz.out Hsz.out Hby.out rfl (by omega) _ n xs rfl Ho.out.1 ⟨vb,0,none⟩ 1 vc [a,b,c] rfl rfl Hnews.out Hone.out Hb1.out Hb2.out hlo ?_;intro v' w' h2' h3 _ h4))
   all_goals
    go_ret
    exact ⟨_,rfl,Hx.out _ _ h2',h3,h4⟩
theorem insertQ_room (n lo hi g cap i vb vc : Nat) (xs : List Value) (a b c : Value) (w : World) (ho : Own w lo hi 83 3 (.slice (some ⟨g,0,none⟩) n cap) n xs) (hi' : i < n) (hroom : n+1≤cap) (hn : n≤1000000)
 (hvb : w.heap[vb]?=some (.cells #[a,b,c] 83 (0,0))) (hne : vb ≠ g) (ox : ∀ u ∈ xs,u.oneCell'=true) (o0 : a.oneCell'=true) (o1 : b.oneCell'=true) (o2 : c.oneCell'=true) :
 Calls Tryz.prog 86 #[.slice (some ⟨g,0,none⟩) n cap,.int .i64 (i : Int),.slice (some ⟨vb,0,none⟩) 1 vc] w fun e w' =>
  ∃ u,e=.returned u∧Own w' lo w'.heap.size 83 3 u (n+1) (insQ xs i a b c)∧w.grownBy w' (some g)∧(u.ownBlock=some g ∨ u.ownBlock=some w.heap.size):=by
 obtain ⟨iM,hiM,hz,hsz,hby⟩:=info_partsS info_qrtI
 have hs2 : (Tryz.prog.info? 83).map (·.size)=some 3:=by rw [hiM];simp [hsz]
 have hxl:=ho.len
 obtain ⟨cur,hlg,hg,hcm,hcs,htake⟩ : ∃ cur,lo≤g∧w.heap[g]?=some (.cells cur 83 (0,0))∧cap≤maxLen∧cur.size=cap * 3∧cur.toList.take (n * 3)=xs:=by
  rcases ho.1.2 with ⟨e,_⟩ | ⟨g',cap',cur,e,q1,q2,_,q4,q5,q6⟩
  ·injection e with e;cases e
  ·injection e with e1 _ e3
   injection e1 with e1
   injection e1 with e1
   subst e1 e3
   exact ⟨cur,q1,q2,q4,q5,q6⟩
 have hgw : g < w.heap.size:=(ho.1.lt g rfl).2
 unfold maxLen at hcm
 have hcl : cur.toList.length=cap * 3:=by simpa using hcs
 obtain ⟨c1,hc1⟩ : ∃ c1 : List Value,c1=cur.toList.take ((i+1) * 3) ++ xs.drop (i * 3) ++ cur.toList.drop ((i+1) * 3+(n - i) * 3):=⟨_,rfl⟩
 have hdl : (xs.drop (i * 3)).length=(n - i) * 3:=by rw [List.length_drop,hxl];omega
 have hcp1 : ∀ ty dc sc,(Builtin.copy_ #[79,79] ty #[.slice (some ⟨g,(i+1) * 3,none⟩) (n+1 - (i+1)) dc,.slice (some ⟨g,i * 3,none⟩) (n+1 - i) sc]).run Tryz.prog w.drew=.ok (goInt ((n - i : Nat) : Int)) (w.drew.setRow g c1.toArray):=fun ty dc sc=>by
  have h:=run_copy_z (P:=Tryz.prog) w.drew 79 79 ty 83 g ((i+1) * 3) (n+1 - (i+1)) dc ⟨g,i * 3,none⟩ (n+1 - i) sc 3 (n - i) cur 83 (xs.drop (i * 3)) Tryz.underlying79 hs2 hg
   (by simp only [Nat.min_def];split <;> omega) hdl (fun j u hj=>by
     rw [addr_add]
     rw [List.getElem?_drop,← htake,List.getElem?_take] at hj
     split at hj
     ·refine cell_of_blk (w:=w.drew) hg ?_
      rw [← hj];simp
     ·cases hj) (by rw [hdl,hcs];omega) (fun u hu=>ox u (List.mem_of_mem_drop hu))
  rw [hdl,← hc1] at h
  exact h
 have hc1l : c1.length=cap * 3:=by
  rw [hc1]
  simp only [List.length_append,List.length_take,List.length_drop,hcl,hxl]
  omega
 have hg1 : (w.drew.setRow g c1.toArray).heap[g]?=some (.cells c1.toArray 83 (0,0)):=setRow_heap w.drew g cur _ _ _ hg
 obtain ⟨c2,hc2⟩ : ∃ c2 : List Value,c2=c1.take (i * 3) ++ [a,b,c] ++ c1.drop (i * 3+3):=⟨_,rfl⟩
 have hcp2 : ∀ (W : World),W.heap=(w.drew.setRow g c1.toArray).heap → ∀ ty dc,(Builtin.copy_ #[79,79] ty #[.slice (some ⟨g,i * 3,none⟩) (n+1 - i) dc,.slice (some ⟨vb,0,none⟩) 1 vc]).run Tryz.prog W=.ok (goInt 1) (W.setRow g c2.toArray):=fun W hW ty dc=>by
  have hvb1 : W.heap[vb]?=some (.cells #[a,b,c] 83 (0,0)):=by rw [hW,setRow_other _ _ _ _ hne];exact hvb
  have h:=run_copy_z (P:=Tryz.prog) W 79 79 ty 83 g (i * 3) (n+1 - i) dc ⟨vb,0,none⟩ 1 vc 3 1 c1.toArray 83 [a,b,c] Tryz.underlying79 hs2 (by rw [hW];exact hg1)
   (by simp only [Nat.min_def];split <;> omega) rfl (fun j u hj=>by
     rw [addr_add,Nat.zero_add]
     refine cell_of_blk hvb1 ?_
     rw [← hj];simp) (by rw [List.size_toArray,hc1l];simp;omega) (fun u hu=>by
     simp only [List.mem_cons,List.not_mem_nil,or_false] at hu
     rcases hu with rfl | rfl | rfl
     ·exact o0
     ·exact o1
     ·exact o2)
  change _=Result.ok (goInt 1) (W.setRow g (List.take (i * 3) c1 ++ [a,b,c] ++ List.drop (i * 3+3) c1).toArray) at h
  rw [← hc2] at h
  exact h
 have hres : ∀ (W : World),W.heap=(w.drew.setRow g c1.toArray).heap→(W.setRow g c2.toArray).heap[g]?=some (.cells c2.toArray 83 (0,0)):=fun W hW=>setRow_heap W g c1.toArray _ _ _ (by rw [hW];exact hg1)
 have hc2l : c2.length=cap * 3:=by
  rw [hc2]
  simp only [List.length_append,List.length_take,List.length_drop,hc1l,List.length_cons,List.length_nil]
  omega
 have htk : c2.take ((n+1) * 3)=insQ xs i a b c:=by
  have e1 : c1.take (i * 3)=xs.take (i * 3):=by
   rw [hc1,List.append_assoc,List.take_append_of_le_length (by rw [List.length_take,hcl];omega),List.take_take,← htake,List.take_take]
   congr 1
   omega
  have e2 : c1.drop (i * 3+3)=xs.drop (i * 3) ++ cur.toList.drop ((i+1) * 3+(n - i) * 3):=by
   rw [hc1,List.append_assoc]
   exact List.drop_left' (by rw [List.length_take,hcl];omega)
  rw [hc2,e1,e2]
  unfold insQ
  rw [← List.append_assoc]
  exact List.take_left' (by simp only [List.length_append,List.length_take,List.length_cons,List.length_nil,hdl,hxl];omega)
 have hov : ∀ lb cb,(callFunc 117 #[.slice (some ⟨vb,0,none⟩) 1 vc,.slice (some ⟨g,(i+1) * 3,none⟩) lb cb]).run Tryz.prog w=.ok (.value (.bool false)) w:=fun lb cb=>by
  rw [run_callFunc_extern Tryz.func117 (by kernel_rfl) (by kernel_rfl) (by kernel_rfl) (e:=Extern.SlicesOverlaps.overlaps #[79,79] #[4]) (by kernel_rfl),
   Lib.run_overlaps_apart w 79 4 83 Tryz.underlying79 3 (fun w=>by kernel_rfl) ⟨vb,0,none⟩ ⟨g,(i+1) * 3,none⟩ 1 vc lb cb hne _ _ _ _ (shape_of hvb) (shape_of hg) (by omega) (frz_of hvb 0) (frz_of hvb _)]
  rfl
 have HC1:=Lib.hid hcp1
 have HC2:=Lib.hid hcp2
 have HR:=Lib.hid hres
 have HT:=Lib.hid htk
 have Hc2l:=Lib.hid hc2l
 have Hhg:=Lib.hid hg
 have hz2 : ¬ ((i : Int)=(n : Int)):=by omega
 have hz3 : ((i : Int) == (n : Int))=false:=by simp;omega
 have hcr : ¬ ((cap : Int) < (n : Int)+1):=by omega
 have hw1 : IntKind.i64.wrap ((i : Int)+1)=(i : Int)+1:=k64 (by omega) (by omega)
 have htn : ((i : Int)+1).toNat=i+1:=by omega
 have hb1 : (0 : Int)≤(i : Int)+1:=by omega
 have hb2 : ¬ (cap=i+1):=by omega
 have hb4 : ¬ (cap=i):=by omega
 have hin : (i : Int)≤(n : Int):=by omega
 have hin2 : (i : Int)≤(n : Int)+1:=by omega
 have hnt : ((n : Int)+1).toNat=n+1:=by omega
 have hnc : (n : Int)+1≤(cap : Int):=by omega
 clear ho hiM hz hsz hby hs2 hxl hg htake hcl hc1 hdl hcp1 hc1l hg1 hc2 hcp2 hres hc2l htk ox o0 o1 o2 hvb hcs
 go_enter Tryz.func86,Tryz.ntmps86
 go_wp2_with (simp only [hov])
 go_region_law (refine step_copy_z rfl (.tmp 73) (.tmp 76) 79 79 rfl (.slice (some ⟨g,(i+1) * 3,none⟩) (n+1 - (i+1)) (cap - (i+1))) (.slice (some ⟨g,i * 3,none⟩) (n+1 - i) (cap - i)) (by simp [Act.eval,Act.put]) (by simp [Act.eval,Act.put]) (HC1.out _ _ _) ?_)
 go_wp2_with fail
 rw [HC2.out _ rfl]
 go_wp2_with fail
 go_ret
 have h1:=HR.out (w.drew.setRow g c1.toArray) rfl
 have hsz : ((w.drew.setRow g c1.toArray).setRow g c2.toArray).heap.size=w.heap.size:=by simp [World.setRow]
 have ho2 : Own ((w.drew.setRow g c1.toArray).setRow g c2.toArray) lo ((w.drew.setRow g c1.toArray).setRow g c2.toArray).heap.size 83 3 (.slice (some ⟨g,0,none⟩) (n+1) cap) (n+1) (insQ xs i a b c):=by
  refine Own.of_row ⟨?_,.inr ⟨g,cap,c2.toArray,rfl,hlg,h1,hroom,by unfold maxLen;omega,?_,?_⟩⟩
  ·rw [← HT.out,List.length_take,Hc2l.out];omega
  ·simpa using Hc2l.out
  ·exact HT.out
 refine ⟨_,rfl,ho2,?_,.inl rfl⟩
 refine ⟨rfl,rfl,rfl,by rw [hsz];exact Nat.le_refl _,fun k hk hne=> ?_⟩
 have hkg : k ≠ g:=fun e=>hne (by rw [e])
 rw [setRow_other _ _ _ _ hkg,setRow_other _ _ _ _ hkg]
 rfl
theorem insertQ_grow (n lo hi g cap i vb vc : Nat) (xs : List Value) (a b c : Value) (w : World) (ho : Own w lo hi 83 3 (.slice (some ⟨g,0,none⟩) n cap) n xs) (hi' : i < n) (hroom : cap < n+1) (hn : n≤1000000) (hlo : lo≤w.heap.size)
 (hvb : w.heap[vb]?=some (.cells #[a,b,c] 83 (0,0))) (ox : ∀ u ∈ xs,u.oneCell'=true) (o0 : a.oneCell'=true) (o1 : b.oneCell'=true) (o2 : c.oneCell'=true) :
 Calls Tryz.prog 86 #[.slice (some ⟨g,0,none⟩) n cap,.int .i64 (i : Int),.slice (some ⟨vb,0,none⟩) 1 vc] w fun e w' =>
  ∃ u,e=.returned u∧Own w' lo w'.heap.size 83 3 u (n+1) (insQ xs i a b c)∧w.grownBy w' (some g)∧(u.ownBlock=some g ∨ u.ownBlock=some w.heap.size):=by
 obtain ⟨iM,hiM,hz,hsz,hby⟩:=info_partsS info_qrtI
 have hs2 : (Tryz.prog.info? 83).map (·.size)=some 3:=by rw [hiM];simp [hsz]
 have hxl:=ho.len
 obtain ⟨cur,hg,hnc,hcs,htake⟩ : ∃ cur,w.heap[g]?=some (.cells cur 83 (0,0))∧n≤cap∧cur.size=cap * 3∧cur.toList.take (n * 3)=xs:=by
  rcases ho.1.2 with ⟨e,_⟩ | ⟨g',cap',cur,e,q1,q2,q3,q4,q5,q6⟩
  ·injection e with e;cases e
  ·injection e with e1 _ e3
   injection e1 with e1
   injection e1 with e1
   subst e1 e3
   exact ⟨cur,q2,q3,q5,q6⟩
 have hgw : g < w.heap.size:=(ho.1.lt g rfl).2
 have hvw : vb < w.heap.size:=by
  rcases Nat.lt_or_ge vb w.heap.size with h | h
  ·exact h
  ·rw [Array.getElem?_eq_none h] at hvb;cases hvb
 obtain rfl : cap=n:=by omega
 have hsrc : ∀ j u,xs[j]?=some u→w.cell? ⟨g,j,none⟩=some u:=fun j u hj=>by
  rw [← htake,List.getElem?_take] at hj
  split at hj
  ·refine cell_of_blk hg ?_
   rw [← hj];simp
  ·cases hj
 obtain ⟨z,hzd⟩ : ∃ z : Value,z=.agg #[.int .i64 0,.slice none 0 0,.int .i64 0]:=⟨_,rfl⟩
 have hzs : z.cells.size=3:=by rw [hzd];rfl
 rw [← hzd] at hz
 have hold : (Builtin.firstCells iM.size i (.slice (some ⟨g,0,none⟩) i cap)).run Tryz.prog w.drew=.ok (xs.take (i * 3)).toArray w.drew:=by
  rw [hsz]
  exact run_firstCells_some w.drew 3 i ⟨g,0,none⟩ i cap (xs.take (i * 3)) (by rw [List.length_take,hxl];omega) (fun j u hj=>by
   rw [addr_add,Nat.zero_add]
   rw [List.getElem?_take] at hj
   split at hj
   ·exact hsrc j u hj
   ·cases hj)
 have hik : i+(cap+1 - i)=cap+1:=by omega
 have hkk : (cap : Int)+1 - (i : Int)=((cap+1 - i : Nat) : Int):=by omega
 obtain ⟨G,hG⟩ : ∃ G,G=grownCap w (cap+1) cap 83:=⟨_,rfl⟩
 obtain ⟨ROW,hROW⟩ : ∃ ROW : Array Value,ROW=(xs.take (i * 3)).toArray ++ Builtin.zeroCells z.cells (cap+1 - i) ++ Builtin.zeroCells z.cells (G - (cap+1)):=⟨_,rfl⟩
 have hrz : ∀ ty,(Builtin.append_ #[79,3] ty #[.slice (some ⟨g,0,none⟩) i cap,.int .i64 ((cap : Int)+1 - (i : Int))]).run Tryz.prog w =
  .ok (.slice (some ⟨w.heap.size,0,none⟩) (cap+1) G) (w.drew.alloc (.cells ROW 83)):=fun ty=>by
  have h:=Lib.run_append_grow_zeros (P:=Tryz.prog) w 79 3 ty 83 iM z .i64 .i64 Tryz.underlying79 Tryz.underlying3 hiM hz (some ⟨g,0,none⟩) i cap (xs.take (i * 3)) hold (cap+1 - i) (by omega) (by omega) (by omega) (by omega) (by rw [hby];omega) (by rw [hby,hik];exact growslice_fits (by omega) (by omega))
  rw [hik,← hG,← hROW] at h
  rw [hkk]
  exact h
 have hGn : cap+1≤G:=by rw [hG];exact grownCap_ge w _ _ _
 have hGm : G≤9223372036854775807:=by
  have:=grownCap_le_maxLen w (cap+1) cap 83 (by unfold maxLen;omega)
  rw [← hG] at this
  unfold maxLen at this
  omega
 have hRs : ROW.size=G * 3:=by
  rw [hROW]
  simp only [Array.size_append,List.size_toArray,List.length_take,hxl,size_zeroCells,hzs]
  omega
 have hRt : ROW.toList.take (i * 3)=xs.take (i * 3):=by
  rw [hROW]
  simp only [Array.toList_append,List.append_assoc]
  exact List.take_left' (by simp only [List.length_take,hxl];omega)
 have hdl : (xs.drop (i * 3)).length=(cap - i) * 3:=by rw [List.length_drop,hxl];omega
 obtain ⟨W1,hW1⟩ : ∃ W1,W1=w.drew.alloc (.cells ROW 83):=⟨_,rfl⟩
 have hg1 : W1.heap[w.heap.size]?=some (.cells ROW 83 (0,0)):=by rw [hW1];exact heap_alloc_top w.drew _
 have hold1 : ∀ k,k < w.heap.size→W1.heap[k]?=w.heap[k]?:=fun k hk=>by rw [hW1];exact heap_alloc_low w.drew _ hk
 obtain ⟨c1,hc1⟩ : ∃ c1 : List Value,c1=ROW.toList.take (i * 3) ++ [a,b,c] ++ ROW.toList.drop (i * 3+3):=⟨_,rfl⟩
 have hRl : ROW.toList.length=G * 3:=by simpa using hRs
 have hc1l : c1.length=G * 3:=by
  rw [hc1]
  simp only [List.length_append,List.length_take,List.length_drop,hRl,List.length_cons,List.length_nil]
  omega
 have hcpA : ∀ (W : World),W.heap=W1.heap → ∀ ty dc,(Builtin.copy_ #[79,79] ty #[.slice (some ⟨w.heap.size,i * 3,none⟩) (cap+1 - i) dc,.slice (some ⟨vb,0,none⟩) 1 vc]).run Tryz.prog W=.ok (goInt 1) (W.setRow w.heap.size c1.toArray):=fun W hW ty dc=>by
  have hvb1 : W.heap[vb]?=some (.cells #[a,b,c] 83 (0,0)):=by rw [hW,hold1 vb hvw];exact hvb
  have h:=run_copy_z (P:=Tryz.prog) W 79 79 ty 83 w.heap.size (i * 3) (cap+1 - i) dc ⟨vb,0,none⟩ 1 vc 3 1 ROW 83 [a,b,c] Tryz.underlying79 hs2 (by rw [hW];exact hg1)
   (by simp only [Nat.min_def];split <;> omega) rfl (fun j u hj=>by
     rw [addr_add,Nat.zero_add]
     refine cell_of_blk hvb1 ?_
     rw [← hj];simp) (by rw [hRs];simp;omega) (fun u hu=>by
     simp only [List.mem_cons,List.not_mem_nil,or_false] at hu
     rcases hu with rfl | rfl | rfl
     ·exact o0
     ·exact o1
     ·exact o2)
  change _=Result.ok (goInt 1) (W.setRow w.heap.size (List.take (i * 3) ROW.toList ++ [a,b,c] ++ List.drop (i * 3+3) ROW.toList).toArray) at h
  rw [← hc1] at h
  exact h
 have hg2 : (W1.setRow w.heap.size c1.toArray).heap[w.heap.size]?=some (.cells c1.toArray 83 (0,0)):=setRow_heap W1 _ ROW _ _ _ hg1
 obtain ⟨c2,hc2⟩ : ∃ c2 : List Value,c2=c1.take ((i+1) * 3) ++ xs.drop (i * 3) ++ c1.drop ((i+1) * 3+(cap - i) * 3):=⟨_,rfl⟩
 have hcpB : ∀ (W : World),W.heap=(W1.setRow w.heap.size c1.toArray).heap → ∀ ty dc sc,(Builtin.copy_ #[79,79] ty #[.slice (some ⟨w.heap.size,(i+1) * 3,none⟩) (cap+1 - (i+1)) dc,.slice (some ⟨g,i * 3,none⟩) (cap - i) sc]).run Tryz.prog W=.ok (goInt ((cap - i : Nat) : Int)) (W.setRow w.heap.size c2.toArray):=fun W hW ty dc sc=>by
  have hgW : W.heap[g]?=some (.cells cur 83 (0,0)):=by rw [hW,setRow_other _ _ _ _ (by omega),hold1 g hgw];exact hg
  have h:=run_copy_z (P:=Tryz.prog) W 79 79 ty 83 w.heap.size ((i+1) * 3) (cap+1 - (i+1)) dc ⟨g,i * 3,none⟩ (cap - i) sc 3 (cap - i) c1.toArray 83 (xs.drop (i * 3)) Tryz.underlying79 hs2 (by rw [hW];exact hg2)
   (by simp only [Nat.min_def];split <;> omega) hdl (fun j u hj=>by
     rw [addr_add]
     rw [List.getElem?_drop,← htake,List.getElem?_take] at hj
     split at hj
     ·refine cell_of_blk hgW ?_
      rw [← hj];simp
     ·cases hj) (by rw [List.size_toArray,hc1l,hdl];omega) (fun u hu=>ox u (List.mem_of_mem_drop hu))
  rw [hdl] at h
  change _=Result.ok (goInt ((cap - i : Nat) : Int)) (W.setRow w.heap.size (List.take ((i+1) * 3) c1 ++ List.drop (i * 3) xs ++ List.drop ((i+1) * 3+(cap - i) * 3) c1).toArray) at h
  rw [← hc2] at h
  exact h
 have hc2l : c2.length=G * 3:=by
  rw [hc2]
  simp only [List.length_append,List.length_take,List.length_drop,hc1l,hxl]
  omega
 have htk : c2.take ((cap+1) * 3)=insQ xs i a b c:=by
  have e1 : c1.take ((i+1) * 3)=xs.take (i * 3) ++ [a,b,c]:=by
   rw [hc1,hRt]
   exact List.take_left' (by simp only [List.length_append,List.length_take,List.length_cons,List.length_nil,hxl];omega)
  rw [hc2,e1]
  unfold insQ
  exact List.take_left' (by simp only [List.length_append,List.length_take,List.length_cons,List.length_nil,hdl,hxl];omega)
 have HZ:=Lib.hid hrz
 have HA:=Lib.hid hcpA
 have HB:=Lib.hid hcpB
 have HW1:=Lib.hid hW1
 have HT:=Lib.hid htk
 have Hc2l:=Lib.hid hc2l
 have Hg2:=Lib.hid hg2
 have Hold:=Lib.hid hold1
 have hz2 : ¬ ((i : Int)=(cap : Int)):=by omega
 have hz3 : ((i : Int) == (cap : Int))=false:=by simp;omega
 have hcr : (cap : Int) < (cap : Int)+1:=by omega
 have hw1 : IntKind.i64.wrap ((i : Int)+1)=(i : Int)+1:=k64 (by omega) (by omega)
 have htn : ((i : Int)+1).toNat=i+1:=by omega
 have hb1 : (0 : Int)≤(i : Int)+1:=by omega
 have hb2 : ¬ (G=i+1):=by omega
 have hb3 : ¬ (G=i):=by omega
 have hb4 : ¬ (cap=i):=by omega
 have hin : (i : Int)≤(cap : Int):=by omega
 have hin2 : (i : Int)+1≤(cap : Int)+1:=by omega
 clear ho hiM hz hsz hby hs2 hxl hg htake hc1 hdl hrz hcpA hcpB hc1l hg1 hg2 hc2 hc2l htk ox o0 o1 o2 hvb hcs hsrc hzs hold hRs hRt hRl hik hkk hold1 hG hROW hzd hW1
 go_enter Tryz.func86,Tryz.ntmps86
 go_wp2_with (at_builtin;go_must (refine Lib.wpList_append_run _ rfl (.tmp 34) (.tmp 39) 79 3 rfl _ _ rfl rfl _ _ (HZ.out _) ?_))
 rw [HA.out _ (by rw [HW1.out];rfl)]
 go_wp2_with fail
 go_region_law (refine step_copy_z rfl (.tmp 50) (.tmp 53) 79 79 rfl (.slice (some ⟨w.heap.size,(i+1) * 3,none⟩) (cap+1 - (i+1)) (G - (i+1))) (.slice (some ⟨g,i * 3,none⟩) (cap - i) (cap - i)) (by simp [Act.eval,Act.put]) (by simp [Act.eval,Act.put]) (HB.out _ (by rw [HW1.out];rfl) _ _ _) ?_)
 go_wp2_with fail
 go_ret
 obtain ⟨W2,hW2⟩ : ∃ W2,W2=((w.alloc (.cells ROW 83)).drew.setRow w.heap.size c1.toArray).drew:=⟨_,rfl⟩
 rw [← hW2]
 have hW2h : W2.heap=(W1.setRow w.heap.size c1.toArray).heap:=by rw [hW2,HW1.out];rfl
 have h1 : (W2.setRow w.heap.size c2.toArray).heap[w.heap.size]?=some (.cells c2.toArray 83 (0,0)):=setRow_heap W2 _ c1.toArray _ _ _ (by rw [hW2h];exact Hg2.out)
 have hsz : (W2.setRow w.heap.size c2.toArray).heap.size=w.heap.size+1:=by
  have e : (W2.setRow w.heap.size c2.toArray).heap.size=W2.heap.size:=by simp [World.setRow]
  rw [e,hW2h,HW1.out]
  simp [World.setRow]
 have ho2 : Own (W2.setRow w.heap.size c2.toArray) lo (W2.setRow w.heap.size c2.toArray).heap.size 83 3 (.slice (some ⟨w.heap.size,0,none⟩) (cap+1) G) (cap+1) (insQ xs i a b c):=by
  refine Own.of_row ⟨?_,.inr ⟨w.heap.size,G,c2.toArray,rfl,hlo,h1,hGn,by unfold maxLen;omega,?_,?_⟩⟩
  ·rw [← HT.out,List.length_take,Hc2l.out];omega
  ·simpa using Hc2l.out
  ·exact HT.out
 refine ⟨_,rfl,ho2,?_,.inr rfl⟩
 refine ⟨by rw [hW2];rfl,by rw [hW2];rfl,by rw [hW2];rfl,by rw [hsz];omega,fun k hk _=> ?_⟩
 rw [setRow_other _ _ _ _ (by omega),hW2h,setRow_other _ _ _ _ (by omega)]
 exact Hold.out k hk
theorem insertQ_any (v : Value) (n lo hi i vb vc : Nat) (xs : List Value) (a b c : Value) (w : World) (ho : Own w lo hi 83 3 v n xs) (hi' : i≤n) (hn : n≤1000000) (hlo : lo≤w.heap.size)
 (hvb : w.heap[vb]?=some (.cells #[a,b,c] 83 (0,0))) (hne : v.ownBlock ≠ some vb) (ox : ∀ u ∈ xs,u.oneCell'=true) (o0 : a.oneCell'=true) (o1 : b.oneCell'=true) (o2 : c.oneCell'=true) :
 Calls Tryz.prog 86 #[v,.int .i64 (i : Int),.slice (some ⟨vb,0,none⟩) 1 vc] w fun e w' =>
  ∃ u,e=.returned u∧Own w' lo w'.heap.size 83 3 u (n+1) (insQ xs i a b c)∧w.grownBy w' v.ownBlock∧(u.ownBlock=v.ownBlock ∨ u.ownBlock=some w.heap.size):=by
 by_cases hin : i=n
 ·subst hin
  exact insertQ_end v i lo hi vb vc xs a b c w ho hlo hn (cell_of_blk hvb (j:=0) rfl) (cell_of_blk hvb (j:=1) rfl) (cell_of_blk hvb (j:=2) rfl) o0 o1 o2
 ·rcases ho.1.2 with ⟨_,e⟩ | ⟨g,cap,cur,e,_⟩
  ·omega
  ·subst e
   have hne2 : vb ≠ g:=fun e=>hne (by rw [e];rfl)
   by_cases hc : n+1≤cap
   ·exact insertQ_room n lo hi g cap i vb vc xs a b c w ho (by omega) hc hn hvb hne2 ox o0 o1 o2
   ·exact insertQ_grow n lo hi g cap i vb vc xs a b c w ho (by omega) (by omega) hn hlo hvb ox o0 o1 o2
theorem insQ_at {xs : List Value} {n k : Nat} {a b c : Value} (hl : xs.length=n * 3) (hk : k≤n) {i j : Nat} (hj : j < 3) : (insQ xs k a b c)[i * 3+j]?=if i < k then xs[i * 3+j]? else if i=k then [a,b,c][j]? else xs[(i - 1) * 3+j]?:=by
 unfold insQ
 have h2 : (xs.take (k * 3)).length=k * 3:=by simp;omega
 by_cases h1 : i < k
 ·rw [if_pos h1,List.append_assoc,List.getElem?_append_left (by omega),List.getElem?_take,if_pos (by omega)]
 ·rw [if_neg h1,List.append_assoc,List.getElem?_append_right (by omega),h2]
  by_cases e : i=k
  ·rw [if_pos e,e,show k * 3+j - k * 3=j by omega,List.getElem?_append_left (by simpa using hj)]
  ·rw [if_neg e,List.getElem?_append_right (by simp;omega),List.getElem?_drop]
   congr 1
   simp
   omega
theorem qF_one {w : World} {lo hi : Nat} {cs : List Cls} {g : Nat→Value} (h2 : ∀ i,i < cs.length→OwnI 3 w lo hi (g i) ((cs.getD i clD).1.drop 1)) {i j : Nat} (hi' : i < cs.length) (hj : j < 3) : (qF cs g i j).oneCell'=true:=by
 have : j=0 ∨ j=1 ∨ j=2:=by omega
 rcases this with rfl | rfl | rfl
 ·rfl
 ·obtain ⟨p,cap,e,_⟩:=(h2 i hi').ints
  show (g i).oneCell'=true
  rw [e];rfl
 ·rfl
theorem OwnQ.insert {w w' : World} {lo lo2 hi hi2 n k : Nat} {v u z : Value} {cs : List Cls} {g : Nat→Value} {xs : List Value} {x : Cls} (hn : n=cs.length) (hk : k≤n)
 (h1 : Own w lo hi 83 3 v n xs) (hF : ∀ i,i < n → ∀ j,j < 3→xs[i * 3+j]?=some (qF cs g i j)) (h2 : ∀ i,i < n→OwnI 3 w lo2 hi (g i) ((cs.getD i clD).1.drop 1))
 (hz : OwnI 3 w lo2 hi2 z (x.1.drop 1)) (ho : Own w' lo w'.heap.size 83 3 u (n+1) (insQ xs k (.int .i64 (x.1.getD 0 0)) z (.int .i64 x.2))) (hg : w.grownBy w' v.ownBlock) (hhi : hi≤w'.heap.size) (hhi2 : hi2≤w'.heap.size) :
 OwnQ w' lo lo2 w'.heap.size u (insP k x cs):=by
 subst hn
 have hrow : ∀ (y : Value) (ys : List Int) (lo1 hi1 : Nat),OwnI 3 w lo1 hi1 y ys→OwnI 3 w' lo1 hi1 y ys:=fun y ys lo1 hi1 hy =>
  ⟨ownsRow_of_block hy.1 fun b hb=>hg.block b (Own.block hy hb).2.2 fun e=>ne_of_kinds (Lib.ownsRow_kind h1.1 b e.symm) (OwnI.kind hy b hb) (by decide),hy.2⟩
 refine ⟨fun i=>if i < k then g i else if i=k then z else g (i - 1),?_,fun i hi'=> ?_⟩
 ·rw [insP_len hk]
  refine ⟨_,ho,fun i hi' j hj=> ?_⟩
  rw [insQ_at h1.len hk hj]
  unfold qF
  rw [insP_getD hk]
  by_cases e1 : i < k
  ·rw [if_pos e1,if_pos e1,hF i (by omega) j hj]
   unfold qF
   match j,hj with
   | 0,_=>rfl
   | 1,_=>simp [e1]
   | 2,_=>rfl
  ·rw [if_neg e1,if_neg e1]
   by_cases e2 : i=k
   ·rw [if_pos e2,if_pos e2]
    match j,hj with
    | 0,_=>rfl
    | 1,_=>simp [e1,e2]
    | 2,_=>rfl
   ·rw [if_neg e2,if_neg e2,hF (i - 1) (by omega) j hj]
    unfold qF
    match j,hj with
    | 0,_=>rfl
    | 1,_=>simp [e1,e2]
    | 2,_=>rfl
 ·rw [insP_len hk] at hi'
  rw [insP_getD hk]
  dsimp only
  by_cases e1 : i < k
  ·rw [if_pos e1,if_pos e1]
   exact (hrow _ _ _ _ (h2 i (by omega))).mono (Nat.le_refl _) hhi
  ·rw [if_neg e1,if_neg e1]
   by_cases e2 : i=k
   ·rw [if_pos e2,if_pos e2]
    exact (hrow _ _ _ _ hz).mono (Nat.le_refl _) hhi2
   ·rw [if_neg e2,if_neg e2]
    exact (hrow _ _ _ _ (h2 (i - 1) (by omega))).mono (Nat.le_refl _) hhi
theorem OwnQ.setN {w : World} {lo lo2 hi g0 n cap k : Nat} {cs : List Cls} (h : OwnQ w lo lo2 hi (.slice (some ⟨g0,0,none⟩) n cap) cs) (hk : k < cs.length) (c : Int) :
 OwnQ (w.setCell ⟨g0,k * 3+2,none⟩ (.int .i64 c)) lo lo2 hi (.slice (some ⟨g0,0,none⟩) n cap) (cs.set k ((cs.getD k clD).1,c)):=by
 obtain ⟨g,h1,h2⟩:=h
 have hsh : ∀ i,((cs.set k ((cs.getD k clD).1,c)).getD i clD)=if i=k then ((cs.getD k clD).1,c) else cs.getD i clD:=fun i=>by
  rw [List.getD_eq_getElem?_getD,List.getElem?_set]
  by_cases e : k=i
  ·subst e;simp [hk]
  ·rw [if_neg e,if_neg (fun c=>e c.symm),List.getD_eq_getElem?_getD]
 refine ⟨g,?_,fun i hi'=> ?_⟩
 ·have:=h1.set hk (show 2 < 3 by omega) (.int .i64 c)
  rw [List.length_set]
  refine this.congr fun i hi' j hj=> ?_
  unfold qF
  rw [hsh]
  match j,hj with
  | 0,_ =>
    by_cases e : i=k
    ·subst e;simp
    ·simp [e]
  | 1,_=>simp
  | 2,_ =>
    by_cases e : i=k
    ·simp [e]
    ·simp [e]
 ·rw [List.length_set] at hi'
  rw [hsh]
  have h3 : OwnI 3 w lo2 hi (g i) ((if i=k then ((cs.getD k clD).1,c) else cs.getD i clD).1.drop 1):=by
   by_cases e : i=k
   ·rw [if_pos e,e];exact h2 k hk
   ·rw [if_neg e];exact h2 i hi'
  exact h3.setOther (fun e=>ne_of_kinds (h1.kind g0 rfl) (OwnI.kind (h2 i hi') g0 e) (by decide)) _
def IsQt (w : World) (k : Nat) : Prop:=∃ c fz,w.heap[k]?=some (.cells c 83 fz)
structure FrQ (lo : Nat) (w w' : World) : Prop where
 os : w'.os=w.os
 tape : w'.tape=w.tape
 output : w'.output=w.output
 size : w.heap.size≤w'.heap.size
 block : ∀ k,k < w.heap.size→(k < lo ∨ ¬ IsQt w k)→w'.heap[k]?=w.heap[k]?
theorem FrQ.refl (lo : Nat) (w : World) : FrQ lo w w:=⟨rfl,rfl,rfl,Nat.le_refl _,fun _ _ _=>rfl⟩
theorem FrQ.of_below {lo : Nat} {w w' : World} (h : Below w.heap.size w w') : FrQ lo w w':=⟨h.os,h.tape,h.output,h.size,fun k hk _=>h.block k hk⟩
theorem FrQ.trans {lo : Nat} {a b c : World} (h : FrQ lo a b) (k : FrQ lo b c) : FrQ lo a c :=
 ⟨k.os.trans h.os,k.tape.trans h.tape,k.output.trans h.output,Nat.le_trans h.size k.size,fun i hi ho=>by
   have e:=h.block i hi ho
   have ho' : i < lo ∨ ¬ IsQt b i:=ho.imp id fun hn hp=>hn (by unfold IsQt at hp ⊢;rw [e] at hp;exact hp)
   exact (k.block i (Nat.lt_of_lt_of_le hi h.size) ho').trans e⟩
theorem FrQ.of_grown {lo lo2 hi : Nat} {w w' : World} {v : Value} {cs : List Cls} (h : OwnQ w lo lo2 hi v cs) (hg : w.grownBy w' v.ownBlock) : FrQ lo w w' :=
 ⟨hg.os,hg.tape,hg.output,hg.size,fun k hk ho=>hg.block k hk fun e=>by
   obtain ⟨g,h1,_⟩:=h
   rcases ho with ho | ho
   ·have:=h1.blocks k e.symm;omega
   ·exact ho (h1.kind k e.symm)⟩
theorem run_clear3 {P : Program} (w : World) (t e : TypeId) (z z0 z1 z2 : Value) (ht : P.underlying t=some (.slice e)) (hv : ∀ w,(zeroValue e).run P w=.ok z w) (hz : z.cells = #[z0,z1,z2]) (h0 : z0.oneCell'=true) (h1 : z1.oneCell'=true) (h2 : z2.oneCell'=true) (b o n c : Nat) (hn : 0 < n)
 (hc : ∀ j,j < n * 3→(w.cell? ⟨b,o+j,none⟩).isSome=true) (hf : ∀ j,j < n * 3→w.frozen? ⟨b,o+j,none⟩=false) :
 ∃ vs,∀ ty,(Builtin.clear_ #[t] ty #[.slice (some ⟨b,o,none⟩) n c]).run P w=.ok (.tuple #[]) (w.setCells b o vs):=by
 have hlen : (Builtin.zeroCells z.cells n).toList.length=n * 3:=by rw [hz];simp [Builtin.zeroCells]
 have hone : ∀ v ∈ (Builtin.zeroCells z.cells n).toList,v.oneCell'=true:=fun v hv'=>by
  rw [hz] at hv'
  simp only [Builtin.zeroCells,Array.toList_map,List.mem_map] at hv'
  obtain ⟨i,_,rfl⟩:=hv'
  have : i % 3=0 ∨ i % 3=1 ∨ i % 3=2:=by omega
  rcases this with e | e | e
  ·show (#[z0,z1,z2][i % 3]!).oneCell'=true
   rw [e];exact h0
  ·show (#[z0,z1,z2][i % 3]!).oneCell'=true
   rw [e];exact h1
  ·show (#[z0,z1,z2][i % 3]!).oneCell'=true
   rw [e];exact h2
 have hst:=run_storeCells_cells (P:=P) b o (Builtin.zeroCells z.cells n).toList 0 w (by rw [hlen];simpa using hc) (by rw [hlen];simpa using hf) hone
 simp only [Nat.add_zero] at hst
 obtain ⟨m,rfl⟩ : ∃ m,n=m+1:=⟨n - 1,by omega⟩
 exact ⟨(Builtin.zeroCells z.cells (m+1)).toList,fun ty=>by simp [Builtin.clear_,run_underlying ht,hv,hst]⟩
theorem FrQ.setAt {lo g : Nat} {w w' : World} (hf : FrQ lo w w') (hg : lo≤g) (hk : IsQt w' g) (o : Nat) (u : Value) : FrQ lo w (w'.setCell ⟨g,o,none⟩ u):=by
 refine ⟨hf.os,hf.tape,hf.output,by rw [size_setCell];exact hf.size,fun k hks ho=> ?_⟩
 have e:=hf.block k hks ho
 have hne : k ≠ g:=fun e2=>by
  rcases ho with ho | ho
  ·omega
  ·subst e2
   unfold IsQt at hk ho
   rw [e] at hk
   exact ho hk
 exact (Below.heap_setCell w' ⟨g,o,none⟩ u k hne).trans e
theorem IsQt.set {w : World} {g : Nat} (h : IsQt w g) (b o : Nat) (u : Value) : IsQt (w.setCell ⟨b,o,none⟩ u) g:=by
 by_cases e : g=b
 ·subst e
  obtain ⟨c,fz,h⟩:=h
  exact ⟨_,fz,heap_setCell_at h o u⟩
 ·obtain ⟨c,fz,h⟩:=h
  exact ⟨c,fz,(Below.heap_setCell w ⟨b,o,none⟩ u g e).trans h⟩
theorem FrQ.setCells {lo g : Nat} {w : World} (hg : lo≤g) : ∀ (vs : List Value) (o : Nat) (w' : World),FrQ lo w w'→IsQt w' g→FrQ lo w (w'.setCells g o vs)
 | [],_,_,hf,_=>hf
 | v :: vs,o,w',hf,hk=>FrQ.setCells hg vs (o+1) _ (hf.setAt hg hk o v) (hk.set g o v)
theorem FrQ.ownI {lo lo2 hi : Nat} {w w' : World} {v : Value} {xs : List Int} (hf : FrQ lo w w') (h : OwnI 3 w lo2 hi v xs) : OwnI 3 w' lo2 hi v xs :=
 ⟨ownsRow_of_block h.1 fun b hb=>hf.block b (Own.block h hb).2.2 (.inr fun hp=>ne_of_kinds (OwnI.kind h b hb) hp (by decide)),h.2⟩
theorem nzq_any (pw : Int) (p : Option Addr) (l k : Nat) (c : Int) (w : World) : Calls Tryz.prog 88 #[.agg #[.int .i64 pw,.slice p l k,.int .i64 c]] w fun e w'=>e=.returned (.bool (decide (c=0)))∧Below w.heap.size w w':=by
 have z0:=heap_alloc_top w (.cells #[.int .i64 pw,.slice p l k,.int .i64 c] 83)
 have x1:=cell_of_blk z0 (j:=2) rfl
 have Hb:=Lib.hid (below_alloc w (.cells #[.int .i64 pw,.slice p l k,.int .i64 c] 83))
 clear z0
 go_enter Tryz.func88,Tryz.ntmps88
 go_wp2_with fail
 go_ret
 exact ⟨rfl,Hb.out⟩
theorem indexZq_any (v : Value) (L : List Cls) (w : World) (h : RdQ w v L) :
 Calls Tryz.prog 119 #[v,.func (.func 88) #[] #[]] w fun e w' =>
  ((e=.returned (.int .i64 (-1)) ∧ ∀ d ∈ L,d.2 ≠ 0) ∨ ∃ k : Nat,e=.returned (.int .i64 (k : Int))∧k < L.length∧(L.getD k clD).2=0 ∧ ∀ d ∈ L.take k,d.2 ≠ 0)∧Below w.heap.size w w':=by
 obtain ⟨f,h1,h2⟩:=h
 have H2:=Lib.hid h2
 obtain ⟨p,cap,rfl,⟨hx1,hx2⟩,hxc⟩:=h1
 unfold maxLen at hx2
 have Hxc:=Lib.hid hxc
 obtain ⟨n,hn⟩ : ∃ n,n=L.length:=⟨_,rfl⟩
 have Hn:=Lib.hid hn
 rw [← hn] at hx1 Hxc H2 ⊢
 clear hxc h2 hn
 go_enter Tryz.func119,Tryz.ntmps119
 go_wp2_with fail
 go_loopg [5,8] n (fun g s5 s8 wr=> ∃ k : Nat,k≤n∧g=n - k∧s8=.int .i64 (k : Int)∧Hid (Below w.heap.size w wr)∧Hid (∀ d ∈ L.take k,d.2 ≠ 0))
 case atStart=>exact ⟨0,Nat.zero_le _,rfl,rfl,Below.refl _ _,by simp [Hid]⟩
 case round =>
  obtain ⟨k,hk,rfl,rfl,hb,hno⟩:=hrel
  obtain ⟨wo,rfl⟩ : ∃ x : World,x=wr:=⟨_,rfl⟩
  have Hb:=Lib.hid hb.out
  clear hb
  by_cases hlt : k < n
  ·obtain ⟨g,rfl,hc⟩:=Hxc.out (by omega)
   have cp : wo.cell? ⟨g,k * 3,none⟩=some (.int .i64 ((L.getD k clD).1.getD 0 0)):=cell_below Hb.out (hc k hlt 0 (by omega))
   have c0 : wo.cell? ⟨g,k * 3+1,none⟩=some (f k):=cell_below Hb.out (hc k hlt 1 (by omega))
   have c1 : wo.cell? ⟨g,k * 3+2,none⟩=some (.int .i64 (L.getD k clD).2):=cell_below Hb.out (hc k hlt 2 (by omega))
   obtain ⟨pw,hpw⟩ : ∃ pw,pw=(L.getD k clD).1.getD 0 0:=⟨_,rfl⟩
   rw [← hpw] at cp
   clear hpw
   obtain ⟨p1,k1,e1,_⟩:=H2.out k hlt
   have T1:=Lib.hid (take_snocP (l:=L) (k:=k) (by rw [← Hn.out];exact hlt))
   rw [e1] at c0
   obtain ⟨c,hc'⟩ : ∃ c,c=(L.getD k clD).2:=⟨_,rfl⟩
   rw [← hc'] at c1
   have Hc':=Lib.hid hc'
   obtain ⟨l1,hl1⟩ : ∃ l,l=((L.getD k clD).1.drop 1).length:=⟨_,rfl⟩
   rw [← hl1] at c0
   have Q1:=Lib.hid (nzq_any pw p1 l1 k1 c wo)
   have hkz : (k : Int) < (n : Int):=by omega
   clear hc e1 hc' hl1
   go_wp2_with fail
   refine Q1.out.mono ?_
   rintro e w1 ⟨rfl,hb1⟩
   have Hb1:=Lib.hid (Hb.out.trans (hb1.mono Hb.out.size))
   clear hb1
   by_cases e : c=0
   ·have hd : decide (c=0)=true:=decide_eq_true e
    rw [hd]
    have He:=Lib.hid e
    clear hd e
    go_wp2_with fail
    go_ret
    exact ⟨.inr ⟨k,rfl,hlt,by rw [← Hc'.out];exact He.out,hno.out⟩,Hb1.out⟩
   ·have hd : decide (c=0)=false:=decide_eq_false e
    rw [hd]
    have He:=Lib.hid e
    clear hd e
    go_wp2_with fail
    go_roundg (n - (k+1))
    case measure=>omega
    case rel =>
     refine ⟨k+1,by omega,rfl,by go_num,Hb1.out,?_⟩
     show ∀ d ∈ L.take (k+1),d.2 ≠ 0
     rw [T1.out]
     intro d hd
     rcases List.mem_append.1 hd with h | h
     ·exact hno.out d h
     ·simp only [List.mem_singleton] at h
      rw [h,← Hc'.out]
      exact He.out
  ·obtain rfl : k=n:=by omega
   have hno':=hno.out
   rw [Hn.out,List.take_of_length_le (Nat.le_refl _)] at hno'
   have Hno:=Lib.hid hno'
   clear hno hno'
   go_wp2_with fail
   go_ret
   exact ⟨.inl ⟨rfl,Hno.out⟩,Hb.out⟩
theorem zeroQPart (w : World) : (zeroValue 83).run Tryz.prog w=.ok (.agg #[.int .i64 0,.slice none 0 0,.int .i64 0]) w:=by kernel_rfl
theorem nonzeroQ_any (v : Value) (L : List Cls) (lo lo2 hi : Nat) (w : World) (h : OwnQ w lo lo2 hi v L) (hl : L.length≤1000) (hlo : lo≤w.heap.size) :
 Calls Tryz.prog 87 #[v,.func (.func 88) #[] #[]] w fun e w'=> ∃ u,e=.returned u∧RdQ w' u (L.filter nzB)∧FrQ lo w w':=by
 have HI:=Lib.hid (indexZq_any v L w h.rd)
 have Hrd:=Lib.hid h.rd
 obtain ⟨G,g1,g2⟩:=h
 obtain ⟨p,cap,rfl,hnc,hcm,hp⟩:=g1.shape
 obtain ⟨n,hn⟩ : ∃ n,n=L.length:=⟨_,rfl⟩
 have Hn:=Lib.hid hn
 rw [← hn] at HI Hrd g1 hnc hp hl ⊢
 have G1:=Lib.hid g1
 have G2:=Lib.hid (show ∀ i,i < n→OwnI 3 w lo2 hi (G i) ((L.getD i clD).1.drop 1) from fun i hi'=>g2 i (by omega))
 have Hp:=Lib.hid hp
 unfold maxLen at hcm
 clear g1 g2 hn hp
 go_enter Tryz.func87,Tryz.ntmps87
 go_wp2_with fail
 refine HI.out.mono ?_
 rintro e w1 ⟨hr,hb⟩
 have Hb:=Lib.hid hb
 clear hb
 rcases hr with ⟨rfl,hall⟩ | ⟨k,rfl,hk,hin,hall⟩
 ·have Hall:=Lib.hid hall
  clear hall
  go_wp2_with fail
  go_ret
  exact ⟨_,rfl,by rw [nzf_all Hall.out];exact Hrd.out.below Hb.out,FrQ.of_below Hb.out⟩
 ·obtain ⟨g,rfl,hg1,hg2,hg3⟩:=Hp.out (by omega)
  have hk1 : ((k : Int) == -1)=false:=beq_eq_false_iff_ne.2 (by omega)
  have hstart : Hid ((L.take (k+1)).filter nzB=L.take k):=by
   show _=_
   rw [take_snocP (by rw [← Hn.out];exact hk),nzf_snoc,if_pos hin,nzf_all hall]
  clear hin hall
  go_wp2_with fail
  go_loopg [5,6,7] (n - (k+1)) (fun t s5 s6 s7 wr=> ∃ (j m : Nat) (F' : Nat→Nat→Value) (g' : Nat→Value),k+1≤j∧j≤n∧t=n - j∧s6=.int .i64 (j : Int)∧s5=.int .i64 (m : Int)∧m < j∧Hid (m=((L.take j).filter nzB).length)∧Hid (FrQ lo w wr) ∧
   Hid (OwnS wr lo hi 83 3 (.slice (some ⟨g,0,none⟩) n cap) n F')∧Hid (∀ i,i < m→(∀ jj,jj < 3→F' i jj=qF ((L.take j).filter nzB) g' i jj)∧OwnI 3 w lo2 hi (g' i) ((((L.take j).filter nzB).getD i clD).1.drop 1))∧Hid (∀ i,j≤i→i < n → ∀ jj,jj < 3→F' i jj=qF L G i jj))
  case atStart =>
   refine ⟨k+1,k,qF L G,G,Nat.le_refl _,by omega,rfl,by go_num,rfl,by omega,?_,FrQ.of_below Hb.out,G1.out.below Hb.out,?_,fun _ _ _ _ _=>rfl⟩
   ·show k=_
    rw [hstart.out,List.length_take,Nat.min_eq_left (by rw [← Hn.out];omega)]
   ·rw [hstart.out]
    intro i hi
    have e2 : (L.take k).getD i clD=L.getD i clD:=by simp [List.getD_eq_getElem?_getD,List.getElem?_take,hi]
    refine ⟨fun jj hj=> ?_,by rw [e2];exact G2.out i (by omega)⟩
    unfold qF
    rw [e2]
  case round =>
   obtain ⟨j,m,F',g',hkj,hjn,rfl,rfl,rfl,hmj,Hm,Hfr,H1,HK,HF⟩:=hrel
   obtain ⟨wo,rfl⟩ : ∃ x : World,x=wr:=⟨_,rfl⟩
   by_cases hlt : j < n
   ·have cp : wo.cell? ⟨g,j * 3,none⟩=some (.int .i64 ((L.getD j clD).1.getD 0 0)):=(H1.out.cell hlt (show 0 < 3 by omega)).trans (congrArg some (HF.out j (Nat.le_refl _) hlt 0 (by omega)))
    have c0 : wo.cell? ⟨g,j * 3+1,none⟩=some (G j):=(H1.out.cell hlt (show 1 < 3 by omega)).trans (congrArg some (HF.out j (Nat.le_refl _) hlt 1 (by omega)))
    have c1 : wo.cell? ⟨g,j * 3+2,none⟩=some (.int .i64 (L.getD j clD).2):=(H1.out.cell hlt (show 2 < 3 by omega)).trans (congrArg some (HF.out j (Nat.le_refl _) hlt 2 (by omega)))
    obtain ⟨pw,hpw⟩ : ∃ pw,pw=(L.getD j clD).1.getD 0 0:=⟨_,rfl⟩
    rw [← hpw] at cp
    have Hpw:=Lib.hid hpw
    clear hpw
    obtain ⟨p1,k1,e1,_,_⟩:=(G2.out j hlt).shape
    have He1:=Lib.hid e1
    rw [e1] at c0
    obtain ⟨l1,hl1⟩ : ∃ l,l=((L.getD j clD).1.drop 1).length:=⟨_,rfl⟩
    rw [← hl1] at c0 He1
    obtain ⟨c,hc⟩ : ∃ c,c=(L.getD j clD).2:=⟨_,rfl⟩
    rw [← hc] at c1
    have Hc:=Lib.hid hc
    have T1:=Lib.hid (take_snocP (l:=L) (k:=j) (by rw [← Hn.out];exact hlt))
    obtain ⟨W1,hW1⟩ : ∃ W1,W1=wo.alloc (.cells #[.int .i64 pw,.slice p1 l1 k1,.int .i64 c] 83):=⟨_,rfl⟩
    have zq : W1.heap[wo.heap.size]?=some (.cells #[.int .i64 pw,.slice p1 l1 k1,.int .i64 c] 83 (0,0)):=by rw [hW1];exact heap_alloc_top _ _
    have hbq : Below wo.heap.size wo W1:=by rw [hW1];exact below_alloc _ _
    have HW1:=Lib.hid hW1
    have Q1:=Lib.hid (nzq_any pw p1 l1 k1 c W1)
    have q0:=cell_of_blk zq (j:=0) rfl
    have q1:=cell_of_blk zq (j:=1) rfl
    have q2:=cell_of_blk zq (j:=2) rfl
    have Hbq:=Lib.hid hbq
    have Hzq:=Lib.hid zq
    have hjz : (j : Int) < (n : Int):=by omega
    have hmz : (m : Int) < (n : Int):=by omega
    have hmn : m < n:=by omega
    clear hW1 hbq zq e1 hl1 hc
    go_upto_region 8 with fail
    rw [← HW1.out]
    clear cp c0 c1
    go_wp2_with fail
    refine Q1.out.mono ?_
    rintro e w2 ⟨rfl,hb2⟩
    have zq2:=blk_later Hzq.out hb2
    have Hb2:=Lib.hid (Hbq.out.trans (hb2.mono Hbq.out.size))
    have q20:=cell_of_blk zq2 (j:=0) rfl
    have q21:=cell_of_blk zq2 (j:=1) rfl
    have q22:=cell_of_blk zq2 (j:=2) rfl
    clear hb2 q0 q1 q2 zq2
    by_cases e : c=0
    ·have hd : decide (c=0)=true:=decide_eq_true e
     rw [hd]
     have Hst:=Lib.hid (show (L.take (j+1)).filter nzB=(L.take j).filter nzB by rw [T1.out,nzf_snoc,if_pos (by rw [← Hc.out];exact e)])
     clear hd e
     go_wp2_with fail
     go_roundg (n - (j+1))
     case measure=>omega
     case rel =>
      refine ⟨j+1,m,F',g',by omega,by omega,rfl,by go_num,rfl,by omega,?_,Hfr.out.trans (FrQ.of_below Hb2.out),H1.out.below Hb2.out,?_,fun i h1 h2=>HF.out i (by omega) h2⟩
      ·show m=_
       rw [Hst.out,← Hm.out]
      ·rw [Hst.out]
       exact HK.out
    ·have hd : decide (c=0)=false:=decide_eq_false e
     rw [hd]
     have Hst:=Lib.hid (show (L.take (j+1)).filter nzB=(L.take j).filter nzB ++ [L.getD j clD] by rw [T1.out,nzf_snoc,if_neg (by rw [← Hc.out];exact e)])
     have h2:=H1.out.below Hb2.out
     have Ho2:=Lib.hid h2
     have d0 : w2.cell? ⟨g,m * 3,none⟩=some (F' m 0):=h2.cell hmn (show 0 < 3 by omega)
     have d1 : w2.cell? ⟨g,m * 3+1,none⟩=some (F' m 1):=h2.cell hmn (show 1 < 3 by omega)
     have d2 : w2.cell? ⟨g,m * 3+2,none⟩=some (F' m 2):=h2.cell hmn (show 2 < 3 by omega)
     have f0:=h2.frozen (m * 3)
     have f1:=h2.frozen (m * 3+1)
     have f2:=h2.frozen (m * 3+2)
     obtain ⟨y2,hy2⟩ : ∃ y,y=F' m 2:=⟨_,rfl⟩
     rw [← hy2] at d2
     obtain ⟨y0,hy0⟩ : ∃ y,y=F' m 0:=⟨_,rfl⟩
     obtain ⟨y1,hy1⟩ : ∃ y,y=F' m 1:=⟨_,rfl⟩
     rw [← hy0] at d0
     rw [← hy1] at d1
     clear hd e h2 hy0 hy1 hy2
     go_wp2_with fail
     go_roundg (n - (j+1))
     case measure=>omega
     case rel =>
      have o1:=((Ho2.out.set hmn (show 0 < 3 by omega) (.int .i64 pw)).set hmn (show 1 < 3 by omega) (.slice p1 l1 k1)).set hmn (show 2 < 3 by omega) (.int .i64 c)
      have hpt : IsQt w2 g:=by
       obtain ⟨c,fz,e⟩:=Ho2.out.kind g rfl
       exact ⟨c,fz,e⟩
      have hfr:=(((Hfr.out.trans (FrQ.of_below Hb2.out)).setAt hg1 hpt (m * 3) (.int .i64 pw)).setAt hg1 (hpt.set g (m * 3) (.int .i64 pw)) (m * 3+1) (.slice p1 l1 k1)).setAt hg1 ((hpt.set g (m * 3) (.int .i64 pw)).set g (m * 3+1) (.slice p1 l1 k1)) (m * 3+2) (.int .i64 c)
      have hKl : ((L.take j).filter nzB).length=m:=Hm.out.symm
      refine ⟨j+1,m+1,_,fun i=>if i=m then G j else g' i,by omega,by omega,rfl,by go_num,by go_num,by omega,?_,hfr,o1,?_,fun i h1 h2 jj hj=> ?_⟩
      ·show m+1=_
       rw [Hst.out,List.length_append,← Hm.out]
       rfl
      ·rw [Hst.out]
       intro i hi
       by_cases e : i=m
       ·have e3 : ((L.take j).filter nzB ++ [L.getD j clD]).getD i clD=L.getD j clD:=by
         rw [List.getD_eq_getElem?_getD,List.getElem?_append_right (by omega),hKl,e,Nat.sub_self]
         rfl
        refine ⟨fun jj hj=> ?_,by rw [e3];dsimp only;rw [if_pos e];exact G2.out j hlt⟩
        unfold qF
        rw [e3]
        match jj,hj with
        | 0,_=>simp [e,Hpw.out]
        | 1,_=>simp [e,He1.out]
        | 2,_=>simp [e,Hc.out]
       ·have e3 : ((L.take j).filter nzB ++ [L.getD j clD]).getD i clD=((L.take j).filter nzB).getD i clD:=by
         rw [List.getD_eq_getElem?_getD,List.getElem?_append_left (by omega),← List.getD_eq_getElem?_getD]
        have hk2:=HK.out i (by omega)
        refine ⟨fun jj hj=> ?_,by rw [e3];dsimp only;rw [if_neg e];exact hk2.2⟩
        rw [if_neg (fun c=>e c.1),if_neg (fun c=>e c.1),if_neg (fun c=>e c.1),hk2.1 jj hj]
        unfold qF
        dsimp only
        rw [e3,if_neg e]
      ·rw [if_neg (by omega),if_neg (by omega),if_neg (by omega)]
       exact HF.out i (by omega) h2 jj hj
   ·obtain rfl : j=n:=by omega
    have hjz : ¬ ((j : Int) < (j : Int)):=by omega
    have hmn : m≤j:=by omega
    have cm : ∀ t,t < (j - m) * 3→(wo.cell? ⟨g,m * 3+t,none⟩).isSome=true:=fun t ht=>by
     have:=H1.out.cell (i:=(m * 3+t) / 3) (j:=(m * 3+t) % 3) (by omega) (by omega)
     rw [show (m * 3+t) / 3 * 3+(m * 3+t) % 3=m * 3+t by omega] at this
     rw [this];rfl
    obtain ⟨vs,hcl⟩:=run_clear3 (P:=Tryz.prog) wo _ _ _ _ _ _ Tryz.underlying79 zeroQPart rfl rfl rfl rfl g (m * 3) (j - m) (cap - m) (by omega) cm (fun t ht=>H1.out.frozen _)
    have hmz : (m : Int)≤(j : Int):=by omega
    have hmz2 : (m : Int)≤(cap : Int):=by omega
    have hmc : m≤cap:=by omega
    have hpt : IsQt wo g:=by
     obtain ⟨c,fz,e⟩:=H1.out.kind g rfl
     exact ⟨c,fz,e⟩
    have Hfr3:=Lib.hid (FrQ.setCells hg1 vs (m * 3) wo Hfr.out hpt)
    have Hres:=Lib.hid (show RdQ (wo.setCells g (m * 3) vs) (.slice (some ⟨g,0,none⟩) m cap) (L.filter nzB) from by
     have hT : L.take j=L:=List.take_of_length_le (by rw [← Hn.out];exact Nat.le_refl _)
     have h1:=Hm.out
     have h2:=HK.out
     rw [hT] at h1 h2
     refine ⟨g',⟨_,cap,by rw [h1],⟨by omega,by unfold maxLen;omega⟩,fun _=>⟨g,rfl,fun i hi jj hj=> ?_⟩⟩,fun i hi=>(FrQ.ownI Hfr3.out (h2 i (by omega)).2).ints⟩
     rw [World.cell?_setCells_out g vs (m * 3) wo ⟨g,i * 3+jj,none⟩ (fun _ _=>.inl (by show i * 3+jj < m * 3;omega)),← (h2 i (by omega)).1 jj hj]
     exact H1.out.cell (by omega) hj)
    clear cm hpt
    go_wp2_with fail
    go_ret
    exact ⟨_,rfl,Hres.out,Hfr3.out⟩
end
end Go.Proofs.YtijadclebjcckaaGreat
