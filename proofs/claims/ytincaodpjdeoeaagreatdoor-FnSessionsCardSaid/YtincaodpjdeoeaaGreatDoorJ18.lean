/-
  A part of the proof of FnSessions (texts of one proof, joined).
-/
import Derived.Test.YtincaodpjdeoeaaGreatDoorJ17
namespace Go.Proofs.YtincaodpjdeoeaaGreatDoor
set_option linter.all false
set_option maxRecDepth 100000
set_option maxHeartbeats 16000000
section
open Go.RowKit
theorem orNo_yes (s : ByteArray) (w : World) : Calls Tryz.prog 93 #[.string s,.bool true] w fun e w'=>e=.returned (.string s)∧w'=w:=by
 go_enter Tryz.func93,Tryz.ntmps93
 go_wp2_with fail
 go_ret
 exact ⟨rfl,rfl⟩
theorem lenP_le {u : List Int} (hp : permOk u=true) (h5 : u.length≤5) : lenP u≤10:=by
 have : all5 (fun u=>decide (lenP u≤10))=true:=by decide +kernel
 exact of_decide_eq_true (all5_at this hp h5)
theorem Ev_nonneg {g : List Int→Int} (hg : ∀ e,0≤g e) : ∀ (P : Pl),(∀ t ∈ P,0≤t.2)→0≤Ev P g
 | [],_=>Int.le_refl _
 | t :: P,h=>by
   rw [Ev_cons]
   have a:=Int.mul_nonneg (h t (List.mem_cons_self ..)) (hg t.1)
   have b:=Ev_nonneg hg P fun s hs=>h s (List.mem_cons_of_mem _ hs)
   omega
theorem ts_pos {ts : List Cls} {P : Pl} (h1 : TsOk ts) (he : ∀ g,Ev ts g=Ev P g) (hp : ∀ t ∈ P,0≤t.2) (k : Nat) (hk : k < ts.length) : 0≤(ts.getD k clD).2:=by
 have e : ts.getD k clD=ts[k]:=by simp [List.getD_eq_getElem?_getD,hk]
 rw [e]
 have c1 : cfP ts (ts[k]).1=(ts[k]).2:=cf_one (ts_nodup h1.2.2) (List.getElem_mem hk)
 rw [← c1]
 show 0≤Ev ts (ind _)
 rw [he]
 exact Ev_nonneg (fun e=>by unfold ind;split <;> decide) P hp
theorem asked_length (v : Value) (xs ys : List Int) (cs : List Cls) (K N : Int) (w : World) (h : SesR w v xs cs ys K N) (hp : permOk xs=true) (h5 : xs.length≤5) :
 Calls Tryz.prog 99 #[v,.string ⟨#[108,101,110,103,116,104]⟩] w fun e w'=>e=.returned (.string (bytA (fmtN (lenP xs))))∧Below w.heap.size w w':=by
 obtain ⟨pp,pk,cp,ck,sp,sk,rfl,i1,i2,i3⟩:=h.open
 have H1:=Lib.hid (fun u (hu : Below w.heap.size w u)=>implLength_any _ xs u (i1.below hu) hp)
 have hL:=lenP_le hp h5
 obtain ⟨W0,hW0⟩ : ∃ W0,W0=w.alloc (.cells #[.slice pp xs.length pk,.slice cp cs.length ck,.slice sp ys.length sk,.int .i64 K,.int .i64 N] 61):=⟨_,rfl⟩
 have hb0 : Below w.heap.size w W0:=by rw [hW0];exact below_alloc w _
 have hz0:=heap_alloc_top w (.cells #[.slice pp xs.length pk,.slice cp cs.length ck,.slice sp ys.length sk,.int .i64 K,.int .i64 N] 61)
 rw [← hW0] at hz0
 have Hb0:=Lib.hid hb0
 obtain ⟨c0,c1,c2,c3,c4,_,_⟩:=blk5s hz0
 have HW0:=Lib.hid hW0
 clear h i1 i2 i3 hW0 hb0 hz0
 go_enter Tryz.func99,Tryz.ntmps99
 go_wp2_with fail
 rw [← HW0.out]
 go_wp2_with fail
 refine (H1.out _ Hb0.out).mono ?_
 rintro e w1 ⟨rfl,hb1⟩
 have HB1:=Lib.hid (Hb0.out.trans (hb1.mono Hb0.out.size))
 clear hb1
 go_wp2_with fail
 refine (FormatInt_any _ _ (by omega)).mono ?_
 rintro e w2 ⟨rfl,rfl⟩
 go_wp2_with fail
 go_ret
 exact ⟨rfl,HB1.out⟩
theorem asked_what (v : Value) (xs ys : List Int) (cs : List Cls) (K N : Int) (w : World) (h : SesR w v xs cs ys K N) :
 Calls Tryz.prog 99 #[v,.string ⟨#[110,111,116,104,105,110,103]⟩] w fun e w'=>e=.returned (.string ⟨#[119,104,97,116]⟩)∧Below w.heap.size w w':=by
 obtain ⟨pp,pk,cp,ck,sp,sk,rfl,i1,i2,i3⟩:=h.open
 obtain ⟨W0,hW0⟩ : ∃ W0,W0=w.alloc (.cells #[.slice pp xs.length pk,.slice cp cs.length ck,.slice sp ys.length sk,.int .i64 K,.int .i64 N] 61):=⟨_,rfl⟩
 have hb0 : Below w.heap.size w W0:=by rw [hW0];exact below_alloc w _
 have hz0:=heap_alloc_top w (.cells #[.slice pp xs.length pk,.slice cp cs.length ck,.slice sp ys.length sk,.int .i64 K,.int .i64 N] 61)
 rw [← hW0] at hz0
 have Hb0:=Lib.hid hb0
 obtain ⟨c0,c1,c2,c3,c4,_,_⟩:=blk5s hz0
 have HW0:=Lib.hid hW0
 clear h i1 i2 i3 hW0 hb0 hz0
 go_enter Tryz.func99,Tryz.ntmps99
 go_wp2_with fail
 go_ret
 exact ⟨rfl,below_alloc w _⟩
theorem asked_poly (v : Value) (xs ys : List Int) (cs : List Cls) (K N : Int) (w : World) (h : SesR w v xs cs ys K N) (hp : permOk xs=true) (h5 : xs.length≤5) :
 Calls Tryz.prog 99 #[v,.string ⟨#[112,111,108,121]⟩] w fun e w'=> ∃ ts,e=.returned (.string (bytA (fmtPo ts)))∧TsOk ts∧(∀ g,Ev ts g=Ev (symS9 xs) g)∧Below w.heap.size w w':=by
 obtain ⟨pp,pk,cp,ck,sp,sk,rfl,i1,i2,i3⟩:=h.open
 have H1:=Lib.hid (fun u (hu : Below w.heap.size w u)=>Schub5_any _ xs u (i1.below hu) hp h5)
 have HP:=Lib.hid (sq_is hp h5).pos
 obtain ⟨W0,hW0⟩ : ∃ W0,W0=w.alloc (.cells #[.slice pp xs.length pk,.slice cp cs.length ck,.slice sp ys.length sk,.int .i64 K,.int .i64 N] 61):=⟨_,rfl⟩
 have hb0 : Below w.heap.size w W0:=by rw [hW0];exact below_alloc w _
 have hz0:=heap_alloc_top w (.cells #[.slice pp xs.length pk,.slice cp cs.length ck,.slice sp ys.length sk,.int .i64 K,.int .i64 N] 61)
 rw [← hW0] at hz0
 have Hb0:=Lib.hid hb0
 obtain ⟨c0,c1,c2,c3,c4,_,_⟩:=blk5s hz0
 have HW0:=Lib.hid hW0
 clear h i1 i2 i3 hW0 hb0 hz0
 go_enter Tryz.func99,Tryz.ntmps99
 go_wp2_with fail
 rw [← HW0.out]
 go_wp2_with fail
 refine (H1.out _ Hb0.out).mono ?_
 rintro e w1 ⟨u,rfl,ts,ho1,hk1,he1,hb1⟩
 have HF:=Lib.hid (fun (W : World) (hb : Below w1.heap.size w1 W)=>FormatPoly_any u ts W (ho1.rd.below hb) hk1 (ts_pos hk1 he1 HP.out))
 have HK:=Lib.hid hk1
 have HE:=Lib.hid he1
 have HB1:=Lib.hid (Hb0.out.trans (hb1.mono Hb0.out.size))
 clear ho1 hk1 he1 hb1
 go_wp2_with fail
 refine (HF.out _ (Below.refl _ _)).mono ?_
 rintro e w2 ⟨rfl,hb2⟩
 have HB2:=Lib.hid (HB1.out.trans (hb2.mono HB1.out.size))
 clear hb2
 go_wp2_with fail
 refine (orNo_yes _ _).mono ?_
 rintro e w3 ⟨rfl,rfl⟩
 go_wp2_with fail
 go_ret
 exact ⟨ts,rfl,HK.out,HE.out,HB2.out⟩
theorem asked_degree (v : Value) (xs ys : List Int) (cs : List Cls) (k n : Nat) (w : World) (h : SesR w v xs cs ys (k : Int) (n : Int)) (hk : k≤n) (hn : 1≤n) (hn7 : n≤7) :
 Calls Tryz.prog 99 #[v,.string ⟨#[100,101,103,114,101,101]⟩] w fun e w'=>e=.returned (.string (bytA (fmtN (stdZ k (n - k)).toNat)))∧Below w.heap.size w w':=by
 obtain ⟨pp,pk,cp,ck,sp,sk,rfl,i1,i2,i3⟩:=h.open
 have H1:=Lib.hid (fun u=>DegreeOfGr_any k n u hk hn hn7)
 obtain ⟨hr0,hr1⟩:=stdZ_rng (k:=k) (c:=n - k) (by omega)
 obtain ⟨z,hz⟩ : ∃ z,z=stdZ k (n - k):=⟨_,rfl⟩
 rw [← hz] at hr0 hr1 H1 ⊢
 obtain ⟨m,rfl⟩ : ∃ m : Nat,z=(m : Int):=⟨z.toNat,by omega⟩
 rw [Int.toNat_natCast]
 clear hz
 obtain ⟨W0,hW0⟩ : ∃ W0,W0=w.alloc (.cells #[.slice pp xs.length pk,.slice cp cs.length ck,.slice sp ys.length sk,.int .i64 (k : Int),.int .i64 (n : Int)] 61):=⟨_,rfl⟩
 have hb0 : Below w.heap.size w W0:=by rw [hW0];exact below_alloc w _
 have hz0:=heap_alloc_top w (.cells #[.slice pp xs.length pk,.slice cp cs.length ck,.slice sp ys.length sk,.int .i64 (k : Int),.int .i64 (n : Int)] 61)
 rw [← hW0] at hz0
 have Hb0:=Lib.hid hb0
 obtain ⟨c0,c1,c2,c3,c4,_,_⟩:=blk5s hz0
 have HW0:=Lib.hid hW0
 clear h i1 i2 i3 hW0 hb0 hz0
 go_enter Tryz.func99,Tryz.ntmps99
 go_wp2_with fail
 rw [← HW0.out]
 go_wp2_with fail
 refine (H1.out _).mono ?_
 rintro e w1 ⟨rfl,hb1⟩
 have HB1:=Lib.hid (Hb0.out.trans (hb1.mono Hb0.out.size))
 clear hb1
 go_wp2_with fail
 refine (FormatInt_any m _ (by omega)).mono ?_
 rintro e w2 ⟨rfl,rfl⟩
 go_wp2_with fail
 go_ret
 exact ⟨rfl,HB1.out⟩
theorem asked_square (v : Value) (xs ys : List Int) (cs : List Cls) (k n : Nat) (w : World) (h : SesR w v xs cs ys (k : Int) (n : Int)) (hk : k≤n) (hn : 1≤n) (hn6 : n≤6) (hx : bxOk ys k n=true) :
 Calls Tryz.prog 99 #[v,.string ⟨#[115,113,117,97,114,101]⟩] w fun e w'=>e=.returned (.string (bytA (fmtPts (filL ys ys k ((n - k : Nat) : Int)))))∧Below w.heap.size w w':=by
 obtain ⟨pp,pk,cp,ck,sp,sk,rfl,i1,i2,i3⟩:=h.open
 obtain ⟨q1,q2,q3⟩:=squ_all hn hn6 hk hx
 have H1:=Lib.hid (fun u (hu : Below w.heap.size w u)=>GrProduct_any _ _ ys ys k n u (i3.below hu) (i3.below hu) hx hx hk hn (by omega) q1)
 have Q2:=Lib.hid q2
 have Q3:=Lib.hid q3
 clear q1 q2 q3
 obtain ⟨W0,hW0⟩ : ∃ W0,W0=w.alloc (.cells #[.slice pp xs.length pk,.slice cp cs.length ck,.slice sp ys.length sk,.int .i64 (k : Int),.int .i64 (n : Int)] 61):=⟨_,rfl⟩
 have hb0 : Below w.heap.size w W0:=by rw [hW0];exact below_alloc w _
 have hz0:=heap_alloc_top w (.cells #[.slice pp xs.length pk,.slice cp cs.length ck,.slice sp ys.length sk,.int .i64 (k : Int),.int .i64 (n : Int)] 61)
 rw [← hW0] at hz0
 have Hb0:=Lib.hid hb0
 obtain ⟨c0,c1,c2,c3,c4,_,_⟩:=blk5s hz0
 have HW0:=Lib.hid hW0
 clear h i1 i2 i3 hW0 hb0 hz0
 go_enter Tryz.func99,Tryz.ntmps99
 go_wp2_with fail
 rw [← HW0.out]
 go_wp2_with fail
 refine (H1.out _ Hb0.out).mono ?_
 rintro e w1 ⟨u,lo2,rfl,_,ho1,_,_,hb1⟩
 have HF:=Lib.hid (fun (W : World) (hb : Below w1.heap.size w1 W)=>FormatParts_any u _ W (ho1.rd.below hb) Q2.out Q3.out)
 have HB1:=Lib.hid (Hb0.out.trans (hb1.mono Hb0.out.size))
 clear ho1 hb1
 go_wp2_with fail
 refine (HF.out _ (Below.refl _ _)).mono ?_
 rintro e w2 ⟨rfl,hb2⟩
 have HB2:=Lib.hid (HB1.out.trans (hb2.mono HB1.out.size))
 clear hb2
 go_wp2_with fail
 refine (orNo_yes _ _).mono ?_
 rintro e w3 ⟨rfl,rfl⟩
 go_wp2_with fail
 go_ret
 exact ⟨rfl,HB2.out⟩
theorem sess_lim {xs ys : List Int} {cs : List Cls} {K N : Int} (h : sessOk xs cs ys K N=true) : cs.length≤100∧xs.length≤1000∧ys.length≤1000 ∧ ∀ i,i < cs.length→(cs.getD i clD).1.length≤1000:=by
 unfold sessOk at h
 rw [Bool.and_eq_true,Bool.and_eq_true] at h
 obtain ⟨⟨h1,h2⟩,h3⟩:=h
 have a1:=(of_decide_eq_true h1).2.1
 have a3 : ys.length≤16:=by
  unfold boxOk bxOk at h3
  simp only [Bool.and_eq_true] at h3
  exact (shOk_facts h3.2.1.1).1
 have a2 : cs.length≤100:=by
  unfold clsOk at h2
  rw [Bool.and_eq_true,decide_eq_true_eq] at h2
  exact h2.1
 exact ⟨a2,by omega,by omega,fun i hi=>by have:=(of_decide_eq_true (clsOk_at h2 hi).1).2.1;omega⟩
def snX (xs : List Int) : Nat→List Int
 | 0=>[0]
 | _+1=>xs
def snC (xs : List Int) : Nat→List Cls
 | 0=>[]
 | 1=>[]
 | 2=>[]
 | 3=>[]
 | 4=>[(trimL xs,1)]
 | _+5=>kpR xs
def snY (ys : List Int) (j : Nat) : List Int:=if j≤6 then [] else ys
def snK (k : Nat) (j : Nat) : Int:=if j≤5 then 2 else (k : Int)
def snN (n : Nat) (j : Nat) : Int:=if j≤5 then 4 else (n : Int)
def snL (xs : List Int) (ns : List Nat) (k n : Nat) : List (List UInt8) :=
 [lnPerm (fmtL xs),lnW 1,lnW 2,lnW 3,lnW 4,lnBox (dJ [k,n]),lnShape (dJ ns),lnW 7,lnW 8,lnW 9,lnW 10]
def snT (xs ys : List Int) (k n : Nat) : Nat→ByteArray→Prop
 | 1,s=>s=bytA (fmtN (lenP xs))
 | 2,s=> ∃ ts,s=bytA (fmtPo ts)∧TsOk ts ∧ ∀ g,Ev ts g=Ev (symS9 xs) g
 | 4,s=>s=tmR xs
 | 7,s=>s=bytA (fmtPts (filL ys ys k ((n - k : Nat) : Int)))
 | 8,s=>s=bytA (fmtN (stdZ k (n - k)).toNat)
 | 9,s=>s=⟨#[119,104,97,116]⟩
 | 10,s=>s=bytA (Lib.join (shwL xs ys (kpR xs) k n) [47])
 | _,s=>s=⟨#[111,107]⟩
structure SnP (xs ys : List Int) (ns : List Nat) (k n : Nat) : Prop where
 p : permOk xs=true
 p5 : xs.length≤5
 e : ys=inL ns
 d : ∀ x ∈ ns,x < 10
 l : ns.length≤16
 b : bxOk ys k n=true
 k : k≤n
 n1 : 1≤n
 n6 : n≤6
theorem bx_nil {k n : Nat} (h : k≤n) : bxOk [] k n=true:=by unfold bxOk;rw [show shOk []=true by decide];simp;omega
theorem SnP.cls {xs ys : List Int} {ns : List Nat} {k n : Nat} (h : SnP xs ys ns k n) : ∀ j,clsOk (snC xs j)=true
 | 0=>(by decide : clsOk []=true)
 | 1=>(by decide : clsOk []=true)
 | 2=>(by decide : clsOk []=true)
 | 3=>(by decide : clsOk []=true)
 | 4=>cls1_ok (sq_is h.p h.p5)
 | _+5=>(kpR_ok (sq_is h.p h.p5)).1
theorem SnP.ok {xs ys : List Int} {ns : List Nat} {k n : Nat} (h : SnP xs ys ns k n) (j : Nat) : sessOk (snX xs j) (snC xs j) (snY ys j) (snK k j) (snN n j)=true:=by
 unfold sessOk
 rw [Bool.and_eq_true,Bool.and_eq_true]
 refine ⟨⟨?_,h.cls j⟩,?_⟩
 ·cases j with
  | zero=>exact (by decide : permOk [0]=true)
  | succ j=>exact h.p
 ·have:=h.k;have:=h.n1;have:=h.n6
  unfold snY snK snN
  by_cases h5 : j≤5
  ·rw [if_pos (show j≤6 by omega),if_pos h5,if_pos h5]
   decide
  ·rw [if_neg h5,if_neg h5]
   by_cases h6 : j≤6
   ·rw [if_pos h6]
    exact box_ok (bx_nil h.k) h.k h.n1 (by omega)
   ·rw [if_neg h6]
    exact box_ok h.b h.k h.n1 (by omega)
theorem exec_w {xs ys : List Int} {ns : List Nat} {k n : Nat} (h : SnP xs ys ns k n) (j i : Nat) (hL : strV (snL xs ns k n) j=.string (bytA (lnW i)))
 (hC : ∀ u W,SesT W u (snX xs j) (snC xs j) (snY ys j) (snK k j) (snN n j)→Calls Tryz.prog 58 #[u,.string (bytA (lnW i))] W fun e w'=> ∃ u' s,e=.returned (.tuple #[u',.string s])∧snT xs ys k n j s∧SesT w' u' (snX xs (j+1)) (snC xs (j+1)) (snY ys (j+1)) (snK k (j+1)) (snN n (j+1))∧Below W.heap.size W w') :
 ∀ u W,SesT W u (snX xs j) (snC xs j) (snY ys j) (snK k j) (snN n j)→Calls Tryz.prog 30 #[u,strV (snL xs ns k n) j] W fun e w'=> ∃ u' s,e=.returned (.tuple #[u',.string s])∧snT xs ys k n j s∧SesT w' u' (snX xs (j+1)) (snC xs (j+1)) (snY ys (j+1)) (snK k (j+1)) (snN n (j+1))∧Below W.heap.size W w':=by
 intro u W hu
 obtain ⟨l1,l2,l3,l4⟩:=sess_lim (h.ok j)
 rw [hL]
 exact exec_word u _ _ _ _ _ (lnW i) W hu.ses (h.ok j) l1 l2 l3 l4 (cut_w i) (by unfold lnW;split <;> decide) _ _ _ _ _ _ hC
theorem exec_t {xs ys : List Int} {ns : List Nat} {k n : Nat} (h : SnP xs ys ns k n) (j : Nat) (ln wd tx : List UInt8) (hL : strV (snL xs ns k n) j=.string (bytA ln)) (hcut : Lib.cut ln [32]=(wd,tx,true)) (hls : ln.length≤1000)
 (hC : ∀ u W,SesT W u (snX xs j) (snC xs j) (snY ys j) (snK k j) (snN n j)→Calls Tryz.prog 57 #[u,.string (bytA wd),.string (bytA tx)] W fun e w'=> ∃ u' s,e=.returned (.tuple #[u',.string s])∧snT xs ys k n j s∧SesT w' u' (snX xs (j+1)) (snC xs (j+1)) (snY ys (j+1)) (snK k (j+1)) (snN n (j+1))∧Below W.heap.size W w') :
 ∀ u W,SesT W u (snX xs j) (snC xs j) (snY ys j) (snK k j) (snN n j)→Calls Tryz.prog 30 #[u,strV (snL xs ns k n) j] W fun e w'=> ∃ u' s,e=.returned (.tuple #[u',.string s])∧snT xs ys k n j s∧SesT w' u' (snX xs (j+1)) (snC xs (j+1)) (snY ys (j+1)) (snK k (j+1)) (snN n (j+1))∧Below W.heap.size W w':=by
 intro u W hu
 obtain ⟨l1,l2,l3,l4⟩:=sess_lim (h.ok j)
 rw [hL]
 exact exec_text u _ _ _ _ _ ln wd tx W hu.ses (h.ok j) l1 l2 l3 l4 hcut hls _ _ _ _ _ _ hC
theorem exec_a {xs ys : List Int} {ns : List Nat} {k n : Nat} (h : SnP xs ys ns k n) (j i : Nat) (hL : strV (snL xs ns k n) j=.string (bytA (lnW i))) (hi : i=1 ∨ i=2 ∨ 7≤i)
 (hst : snX xs (j+1)=snX xs j∧snC xs (j+1)=snC xs j∧snY ys (j+1)=snY ys j∧snK k (j+1)=snK k j∧snN n (j+1)=snN n j)
 (hA : ∀ u W,SesR W u (snX xs j) (snC xs j) (snY ys j) (snK k j) (snN n j)→Calls Tryz.prog 99 #[u,.string (bytA (lnW i))] W fun e w'=> ∃ s,e=.returned (.string s)∧snT xs ys k n j s∧Below W.heap.size W w') :
 ∀ u W,SesT W u (snX xs j) (snC xs j) (snY ys j) (snK k j) (snN n j)→Calls Tryz.prog 30 #[u,strV (snL xs ns k n) j] W fun e w'=> ∃ u' s,e=.returned (.tuple #[u',.string s])∧snT xs ys k n j s∧SesT w' u' (snX xs (j+1)) (snC xs (j+1)) (snY ys (j+1)) (snK k (j+1)) (snN n (j+1))∧Below W.heap.size W w':=by
 refine exec_w h j i hL fun u W hu=> ?_
 obtain ⟨e1,e2,e3,e4,e5⟩:=hst
 rw [e1,e2,e3,e4,e5]
 have hne : ∀ l : List UInt8,l ∈ [[105,110,118,101,114,115,101],[116,114,105,109],[115,101,116],[116,105,109,101,115],[100,117,97,108],[115,104,97,112,101]]→((bytA (lnW i)).toList == l)=false:=by
  have hi' : lnW i=lnW 1 ∨ lnW i=lnW 2 ∨ lnW i=lnW 7 ∨ lnW i=lnW 8 ∨ lnW i=lnW 9 ∨ lnW i=lnW 10:=by
   rcases hi with rfl | rfl | hi
   ·exact .inl rfl
   ·exact .inr (.inl rfl)
   ·by_cases h7 : i=7
    ·subst h7;exact .inr (.inr (.inl rfl))
    by_cases h8 : i=8
    ·subst h8;exact .inr (.inr (.inr (.inl rfl)))
    by_cases h9 : i=9
    ·subst h9;exact .inr (.inr (.inr (.inr (.inl rfl))))
    refine .inr (.inr (.inr (.inr (.inr ?_))))
    obtain ⟨m,rfl⟩ : ∃ m,i=m+10:=⟨i - 10,by omega⟩
    rfl
  intro l hl
  rw [show (bytA (lnW i)).toList=lnW i from ByteArray.toList_mk _]
  rcases hi' with e | e | e | e | e | e <;> rw [e] <;> revert l <;> decide
 exact oneWord_ask u _ _ _ _ _ (bytA (lnW i)) (snT xs ys k n j) W hu (hne _ (by simp)) (hne _ (by simp)) (hne _ (by simp)) (hne _ (by simp)) (hne _ (by simp)) (hne _ (by simp)) fun W' hb=>hA u W' (hu.ses.below hb)
theorem snE {xs ys : List Int} {ns : List Nat} {k n : Nat} (h : SnP xs ys ns k n) : ∀ j,j < (snL xs ns k n).length →
 ∀ u W,SesT W u (snX xs j) (snC xs j) (snY ys j) (snK k j) (snN n j)→Calls Tryz.prog 30 #[u,strV (snL xs ns k n) j] W fun e w'=> ∃ u' s,e=.returned (.tuple #[u',.string s])∧snT xs ys k n j s∧SesT w' u' (snX xs (j+1)) (snC xs (j+1)) (snY ys (j+1)) (snK k (j+1)) (snN n (j+1))∧Below W.heap.size W w'
 | 0,_=>exec_t h 0 (lnPerm (fmtL xs)) [112,101,114,109] (fmtL xs) rfl (cut_perm _) (by have:=(of_decide_eq_true h.p).2.1;unfold lnPerm fmtL;simp only [List.length_cons,List.length_map];omega) fun u W hu =>
    (withText_perm u xs [] [0] [] 2 4 W hu h.p).mono fun e w' ⟨u',e1,h1,h2⟩=>⟨u',_,e1,rfl,h1,h2⟩
 | 1,_=>exec_a h 1 1 rfl (.inl rfl) ⟨rfl,rfl,rfl,rfl,rfl⟩ fun u W hu =>
    (asked_length u xs [] [] 2 4 W hu h.p h.p5).mono fun e w' ⟨e1,h1⟩=>⟨_,e1,rfl,h1⟩
 | 2,_=>exec_a h 2 2 rfl (.inr (.inl rfl)) ⟨rfl,rfl,rfl,rfl,rfl⟩ fun u W hu =>
    (asked_poly u xs [] [] 2 4 W hu h.p h.p5).mono fun e w' ⟨ts,e1,h1,h2,h3⟩=>⟨_,e1,⟨ts,rfl,h1,h2⟩,h3⟩
 | 3,_=>exec_w h 3 3 rfl fun u W hu =>
    (oneWord_set u xs [] [] 2 4 W hu h.p).mono fun e w' ⟨u',e1,h1,h2⟩=>⟨u',_,e1,rfl,h1,h2⟩
 | 4,_=>exec_w h 4 4 rfl fun u W hu =>
    (oneWord_times u xs [] 2 4 W hu h.p h.p5).mono fun e w' ⟨u',e1,h1,h2⟩=>⟨u',_,e1,rfl,h1,h2⟩
 | 5,_=>exec_t h 5 (lnBox (dJ [k,n])) [98,111,120] (dJ [k,n]) rfl (cut_box _) (by unfold lnBox dJ dJ;simp) fun u W hu =>
    (withText_box u xs [] (kpR xs) 2 4 k n W hu h.k h.n1 (by have:=h.n6;omega)).mono fun e w' ⟨u',e1,h1,h2⟩=>⟨u',_,e1,rfl,h1,h2⟩
 | 6,_=>exec_t h 6 (lnShape (dJ ns)) [115,104,97,112,101] (dJ ns) rfl (cut_shape _) (by have:=dJ_len ns;have:=h.l;unfold lnShape;simp only [List.length_cons];omega) fun u W hu =>
    (withText_shape u xs [] ns (kpR xs) k n W hu h.d (by have:=h.l;omega) (by rw [← h.e];exact h.b) h.k h.n1 (by have:=h.n6;omega)).mono fun e w' ⟨u',e1,h1,h2⟩=>⟨u',_,e1,rfl,by rw [← h.e] at h1;exact h1,h2⟩
 | 7,_=>exec_a h 7 7 rfl (.inr (.inr (Nat.le_refl _))) ⟨rfl,rfl,rfl,rfl,rfl⟩ fun u W hu =>
    (asked_square u xs ys (kpR xs) k n W hu h.k h.n1 h.n6 h.b).mono fun e w' ⟨e1,h1⟩=>⟨_,e1,rfl,h1⟩
 | 8,_=>exec_a h 8 8 rfl (.inr (.inr (by decide))) ⟨rfl,rfl,rfl,rfl,rfl⟩ fun u W hu =>
    (asked_degree u xs ys (kpR xs) k n W hu h.k h.n1 (by have:=h.n6;omega)).mono fun e w' ⟨e1,h1⟩=>⟨_,e1,rfl,h1⟩
 | 9,_=>exec_a h 9 9 rfl (.inr (.inr (by decide))) ⟨rfl,rfl,rfl,rfl,rfl⟩ fun u W hu =>
    (asked_what u xs ys (kpR xs) k n W hu).mono fun e w' ⟨e1,h1⟩=>⟨_,e1,rfl,h1⟩
 | 10,_=>exec_a h 10 10 rfl (.inr (.inr (by decide))) ⟨rfl,rfl,rfl,rfl,rfl⟩ fun u W hu=>by
    have hb:=shOk_all (show shOk ys=true by have:=h.b;unfold bxOk at this;simp only [Bool.and_eq_true] at this;exact this.1.1)
    have:=h.k;have:=h.n6
    obtain ⟨c1,c2⟩:=kpR_ok (sq_is h.p h.p5)
    exact (asked_show u xs ys (kpR xs) k n W hu h.p c1 c2 hb.2 hb.1 (by omega) (by omega)).mono fun e w' ⟨e1,h1⟩=>⟨_,e1,rfl,h1⟩
 | j+11,hj=>absurd hj (by show ¬ j+11 < 11;omega)
theorem session_any {xs ys : List Int} {ns : List Nat} {k n : Nat} (h : SnP xs ys ns k n) (v : Value) (w : World) (hv : Rd w v 11 (strV (snL xs ns k n))) :
 Calls Tryz.prog 8 #[v] w fun e w'=> ∃ u S,e=.returned u∧S.length=11∧OwnSt w' w.heap.size w'.heap.size u S∧(∀ j,j < 11→snT xs ys k n j (bytA (S.getD j [])))∧Below w.heap.size w w' :=
 RunSession_any v (snL xs ns k n) w hv (by show 11≤60;decide) (snX xs) (snY ys) (snC xs) (snK k) (snN n) (snT xs ys k n) rfl rfl rfl rfl rfl (snE h)
theorem cur_new {w : World} {p : Option Addr} {n cap : Nat} (x : Int) (h : Byts w (.slice p n cap) n) : Cur (w.alloc (.cells #[.slice p n cap,.int .i64 0,.int .i64 x] 82)) w.heap.size:=by
 have h':=h
 obtain ⟨f,p',cap',e,_,hx⟩:=h'
 injection e with e1 _ e3
 subst e1 e3
 refine ⟨p,n,cap,0,x,heap_alloc_top _ _,Nat.zero_le _,h.below (below_alloc _ _),fun h0 a ha=> ?_⟩
 obtain ⟨b,off,e,hc⟩:=hx h0
 rw [e] at ha
 injection ha with ha
 subst ha
 have:=World.block_lt_of_cell? _ _ (hc 0 h0)
 dsimp only at this ⊢
 omega
theorem l1New_any (v : Value) (n : Nat) (w : World) (h : Byts w v n) :
 Calls Tryz.prog 20 #[v] w fun e w'=>e=.returned (.pointer (some ⟨w.heap.size,0,none⟩))∧Cur w' w.heap.size∧Below w.heap.size w w':=by
 have Hh:=Lib.hid h
 obtain ⟨f,p,cap,rfl,⟨hx1,hx2⟩,hxc⟩:=h
 unfold maxLen at hx2
 have Hxc:=Lib.hid hxc
 clear hxc
 go_enter Tryz.func20,Tryz.ntmps20
 go_wp2_with fail
 go_loopg [3,4] n (fun g s3 s4 wr=> ∃ (k : Nat) (x : Int),k≤n∧g=n - k∧s3=.int .i64 x∧s4=.int .i64 k∧wr=w)
 case atStart=>exact ⟨0,_,Nat.zero_le _,rfl,rfl,rfl,rfl⟩
 case round =>
  obtain ⟨k,x,hk,rfl,rfl,rfl,rfl⟩:=hrel
  by_cases hlt : k < n
  ·by_cases h4 : k < 4000
   ·obtain ⟨b,off,rfl,hc⟩:=Hxc.out (by omega)
    have c1:=hc k hlt
    have i1 : (k : Int) < (n : Int):=by omega
    have i2 : (k : Int) < 4000:=by omega
    clear hc
    go_wp2_with fail
    go_roundg (n - (k+1))
    case measure=>omega
    case rel=>exact ⟨k+1,_,by omega,rfl,rfl,by go_num,rfl⟩
   ·have i1 : (k : Int) < (n : Int):=by omega
    have i2 : ¬ (k : Int) < 4000:=by omega
    go_wp2_with fail
    go_ret
    exact ⟨rfl,cur_new x Hh.out,below_alloc _ _⟩
  ·have i1 : ¬ (k : Int) < (n : Int):=by omega
   go_wp2_with fail
   go_ret
   exact ⟨rfl,cur_new x Hh.out,below_alloc _ _⟩
def codes : Nat→List (List Nat)
 | 0=>[[]]
 | m+1=>(List.range (m+1)).flatMap fun x=>(codes m).map (x :: ·)
theorem mem_codes : ∀ (m : Nat) (c : List Nat),c.length=m→(∀ j,j < m→c.getD j 0 < m - j)→c ∈ codes m
 | 0,c,hl,_=>by
   obtain rfl:=List.eq_nil_of_length_eq_zero hl
   simp [codes]
 | m+1,[],hl,_=>by simp at hl
 | m+1,x :: c,hl,h=>by
   have h0:=h 0 (by omega)
   have ih:=mem_codes m c (by simpa using hl) fun j hj=>by
    have:=h (j+1) (by omega)
    simp at this ⊢
    omega
   unfold codes
   refine List.mem_flatMap.2 ⟨x,by simpa using h0,List.mem_map.2 ⟨c,ih,rfl⟩⟩
theorem decL_ok {n : Nat} (h1 : 1≤n) (h5 : n≤5) (c : List Nat) (hl : c.length=n) (h : ∀ j,j < n→c.getD j 0 < n - j) : permOk (decL n c)=true∧(decL n c).length=n:=by
 have hc:=mem_codes n c hl h
 have key : ∀ c ∈ codes n,permOk (decL n c)=true∧(decL n c).length=n:=by
  have : n=1 ∨ n=2 ∨ n=3 ∨ n=4 ∨ n=5:=by omega
  rcases this with rfl | rfl | rfl | rfl | rfl <;> decide +kernel
 exact key c hc
theorem dPerm_any (k n : Nat) (w : World) (h : Cur w k) (h1 : 1≤n) (h5 : n≤5) :
 Calls Tryz.prog 22 #[.pointer (some ⟨k,0,none⟩),.int .i64 (n : Int)] w fun e w' =>
  ∃ (u : Value) (xs : List Int),e=.returned u∧OwnI 3 w' w.heap.size w'.heap.size u xs∧permOk xs=true∧xs.length=n∧Cur w' k∧Frm k (k+1) w w':=by
 have Hc:=Lib.hid h
 have hk:=h.lt
 clear h
 go_enter Tryz.func22,Tryz.ntmps22
 go_wp2_with fail
 go_loopg [5,6] n (fun g s5 s6 wr=> ∃ (i : Nat) (cs : List Nat),i≤n∧g=n - i∧s6=.int .i64 i∧cs.length=i∧Hid (∀ j,j < i→cs.getD j 0 < n - j)∧Hid (OwnI 3 wr w.heap.size wr.heap.size s5 (cs.map Int.ofNat))∧Hid (Cur wr k)∧Hid (Frm k (k+1) w wr))
 case atStart =>
  refine ⟨0,[],Nat.zero_le _,rfl,rfl,rfl,fun j hj=>absurd hj (Nat.not_lt_zero _),?_,Hc.out.below (below_alloc w _),Frm.of_below (below_alloc w _) _ _⟩
  exact OwnF.ints ((OwnF.made0 w 3 (iv [])).mono (Nat.le_refl _) (by simp))
 case round =>
  obtain ⟨i,cs,hi,rfl,rfl,hcl,hcd,ho,hcu,hf⟩:=hrel
  have hsr:=hf.out.size
  by_cases hlt : i < n
  ·have hlt2 : (i : Int) < (n : Int):=by omega
   have hsub : (n : Int) - (i : Int)=((n - i : Nat) : Int):=by omega
   have Hsub:=Lib.hid hsub
   obtain ⟨p5,k5,rfl,_,_⟩:=ho.out.shape
   have hofn:=ho.out.fn
   have hml : (cs.map Int.ofNat).length=i:=by rw [List.length_map,hcl]
   rw [hml] at hofn ⊢
   have Ho:=Lib.hid hofn
   have Hml:=Lib.hid hml
   have Hcl:=Lib.hid hcl
   have Hcd:=Lib.hid hcd.out
   have Hcu:=Lib.hid hcu.out
   have Hf:=Lib.hid hf.out
   have Hb1:=Lib.hid (show i+1≤maxLen by unfold maxLen;omega)
   have Hb2:=Lib.hid (show (i+1) * 8≤140737488355328 by omega)
   clear hsub ho hofn hml hcl hcd hcu hf
   go_wp2_with fail
   rw [Hsub.out]
   refine (l1Below_any k (n - i) _ Hcu.out (by omega) (by omega)).mono ?_
   rintro e w1 ⟨x,rfl,hx,hc1,hf1⟩
   have hs1:=hf1.size
   have Ho1:=Lib.hid (Ho.out.frm hf1 (Or.inr (by omega)))
   have Hc1:=Lib.hid hc1
   have Hf1:=Lib.hid (Hf.out.trans hf1)
   clear hc1 hf1
   go_wp2_with (at_builtin;go_must (refine wpList_append_F rfl (.tmp 13) (.tmp 19) 24 rfl 3 (.int .i64 0) 8 Tryz.underlying24 info_int rfl w.heap.size wr.heap.size _ i (iv (cs.map Int.ofNat)) rfl (Ho1.out.below (below_alloc w1 _)) (by rw [size_alloc];omega) (by rw [size_alloc];omega) _ 1 _ rfl (rd_one _ _ _ rfl) (fun j _=>rfl) Hb1.out Hb2.out ?_;intro v2 w2 ho2 hg2))
   go_roundg (n - (i+1))
   case measure=>omega
   case rel =>
    have hbx : Below w.heap.size w1 w2:=((below_alloc w1 _).mono (by omega)).trans (grownBy_below hg2 Ho1.out.blocks (Nat.le_refl _) (by rw [size_alloc];omega))
    refine ⟨i+1,cs ++ [x],by omega,rfl,by go_num,by rw [List.length_append,Hcl.out];rfl,fun j hj=> ?_,?_,Hc1.out.keepB hbx hk,Hf1.out.thenB hbx (Nat.le_refl _)⟩
    ·by_cases e : j < i
     ·have:=Hcd.out j e
      rwa [List.getD_eq_getElem?_getD,List.getElem?_append_left (by rw [Hcl.out];exact e),← List.getD_eq_getElem?_getD]
     ·obtain rfl : j=i:=by omega
      rw [List.getD_eq_getElem?_getD,List.getElem?_append_right (by rw [Hcl.out];exact Nat.le_refl _),Hcl.out]
      simpa using hx
    ·rw [List.map_append]
     exact OwnI.snoc1 (by rw [Hml.out];exact ho2)
  ·obtain rfl : i=n:=by omega
   have hlt2 : ¬ (i : Int) < (i : Int):=by omega
   obtain ⟨p5,k5,rfl,_,_⟩:=ho.out.shape
   have hoi:=ho.out.ints
   have hml : (cs.map Int.ofNat).length=i:=by rw [List.length_map,hcl]
   rw [hml] at hoi ⊢
   have Ho:=Lib.hid hoi
   have Hcl:=Lib.hid hcl
   have Hcd:=Lib.hid hcd.out
   have Hcu:=Lib.hid hcu.out
   have Hf:=Lib.hid hf.out
   clear ho hcl hcd hcu hf hoi hml
   go_wp2_with fail
   refine (specDecode_any _ cs _ Ho.out (by rw [Hcl.out];omega) (fun x hx=> ?_)).mono ?_
   ·obtain ⟨j,hj,rfl⟩:=List.mem_iff_getElem.1 hx
    have:=Hcd.out j (by rw [← Hcl.out];exact hj)
    rw [List.getD_eq_getElem?_getD,List.getElem?_eq_getElem hj] at this
    simp at this
    omega
   ·rintro e w1 ⟨u,rfl,ho1,hb1⟩
    obtain ⟨g1,g2⟩:=decL_ok h1 h5 cs Hcl.out Hcd.out
    rw [Hcl.out] at ho1
    have G1:=Lib.hid g1
    have G2:=Lib.hid g2
    have Ho1:=Lib.hid ho1
    have Hb1:=Lib.hid hb1
    clear g1 g2 ho1 hb1
    go_wp2_with fail
    go_ret
    exact ⟨u,_,rfl,Ho1.out.mono hsr (Nat.le_refl _),G1.out,G2.out,Hcu.out.below Hb1.out,Hf.out.thenB Hb1.out hsr⟩
def LetOk (n : Nat) (xs : List Int) : Prop:=∀ j,j < xs.length → ∃ m : Nat,xs.getD j 0=(m : Int)∧m+1 < n
theorem LetOk.nil (n : Nat) : LetOk n []:=fun j hj=>absurd hj (Nat.not_lt_zero _)
theorem LetOk.snoc {n : Nat} {xs : List Int} (h : LetOk n xs) {m : Nat} (hm : m+1 < n) : LetOk n (xs ++ [(m : Int)]):=fun j hj=>by
 by_cases e : j < xs.length
 ·rw [List.getD_eq_getElem?_getD,List.getElem?_append_left e,← List.getD_eq_getElem?_getD];exact h j e
 ·rw [List.length_append,List.length_singleton] at hj
  obtain rfl : j=xs.length:=by omega
  rw [List.getD_eq_getElem?_getD,List.getElem?_append_right (Nat.le_refl _),Nat.sub_self]
  exact ⟨m,rfl,hm⟩
theorem LetOk.cons {n : Nat} {xs : List Int} (h : LetOk n xs) {m : Nat} (hm : m+1 < n) : LetOk n ((m : Int) :: xs):=fun j hj=>by
 cases j with
 | zero=>exact ⟨m,rfl,hm⟩
 | succ j=>rw [List.getD_cons_succ];exact h j (by rw [List.length_cons] at hj;omega)
def dscN (xs : List Int) (m : Nat) : List Nat:=(List.range m).filter fun k=>decide (xs.getD (k+1) 0 < xs.getD k 0)
theorem dscN_yes {xs : List Int} {m : Nat} (h : xs.getD (m+1) 0 < xs.getD m 0) : dscN xs (m+1)=dscN xs m ++ [m]:=by
 unfold dscN
 rw [List.range_succ,List.filter_append]
 simp only [List.filter_cons,List.filter_nil,h,decide_true,if_true]
theorem dscN_no {xs : List Int} {m : Nat} (h : ¬ xs.getD (m+1) 0 < xs.getD m 0) : dscN xs (m+1)=dscN xs m:=by
 unfold dscN
 rw [List.range_succ,List.filter_append]
 have : List.filter (fun (k : Nat)=>decide (xs.getD (k+1) 0 < xs.getD k 0)) [m]=[]:=by rw [List.filter_cons,decide_eq_false h];rfl
 rw [this,List.append_nil]
theorem dscN_le (xs : List Int) (m : Nat) : (dscN xs m).length≤m:=Nat.le_trans (List.length_filter_le _ _) (by simp)
theorem P5.ne {n : Nat} {v : List Int} (h : P5 n v) {k : Nat} (hk : k+1 < n) : v.getD k 0 ≠ v.getD (k+1) 0:=by
 have hp:=h.ok
 simp only [permOk,decide_eq_true_eq] at hp
 have:=List.pairwise_iff_getElem.1 hp.2.2.2 k (k+1) (by have:=h.len;omega) (by have:=h.len;omega) (by omega)
 rw [← getD_lt,← getD_lt] at this
 exact this
theorem dscN_some {n : Nat} {v : List Int} (h : P5 n v) (h0 : lnN v ≠ 0) : 1≤(dscN v (n - 1)).length:=by
 obtain ⟨k,hk,hd⟩:=(blid_at h).2.resolve_left h0
 have : k ∈ dscN v (n - 1):=by
  unfold dscN
  rw [List.mem_filter,List.mem_range]
  have:=of_decide_eq_false hd
  have:=h.ne hk
  exact ⟨by omega,decide_eq_true (by omega)⟩
 exact List.length_pos_of_mem this
theorem dscN_at {n : Nat} {v : List Int} (h : P5 n v) {i : Nat} (hi : i < (dscN v (n - 1)).length) : (dscN v (n - 1)).getD i 0+1 < n∧ascB ((dscN v (n - 1)).getD i 0) v=false:=by
 have hm : (dscN v (n - 1)).getD i 0 ∈ dscN v (n - 1):=by
  rw [List.getD_eq_getElem?_getD,List.getElem?_eq_getElem hi];exact List.getElem_mem _
 unfold dscN at hm ⊢
 rw [List.mem_filter,List.mem_range] at hm
 have:=of_decide_eq_true hm.2
 exact ⟨by omega,decide_eq_false (by omega)⟩
theorem specDescents_any (n : Nat) (v : Value) (xs : List Int) (w : World) (h : Ints w v xs) (hp : P5 n xs) (h1 : 1≤n) :
 Calls Tryz.prog 50 #[v] w (RetI w (wz (dscN xs (n - 1)))):=by
 have Hh:=Lib.hid h
 have Hp:=Lib.hid hp
 have h5:=hp.le
 obtain ⟨p,cap,rfl,⟨hx1,hx2⟩,hxc⟩:=h
 unfold maxLen at hx2
 rw [hp.len] at Hh hx1 hxc ⊢
 have Hxc:=Lib.hid hxc
 clear hxc hp
 go_enter Tryz.func50,Tryz.ntmps50
 go_wp2_with fail
 refine (specIsPerm_b _ xs true Hp.out.ok _ Hh.out).mono ?_
 rintro e w1 ⟨rfl,hq⟩
 have HQ:=Lib.hid hq
 clear hq
 go_wp2_with fail
 go_loopg [3,4] (n - 1) (fun g s3 s4 wr=> ∃ k : Nat,k≤n - 1∧g=n - 1 - k∧s4=.int .i64 (k : Int)∧Hid (OwnI 3 wr w1.heap.size wr.heap.size s3 (wz (dscN xs k)))∧Hid (Below w1.heap.size w1 wr))
 case atStart =>
  refine ⟨0,Nat.zero_le _,rfl,rfl,Lib.hid ?_,Lib.hid (below_alloc w1 _)⟩
  have hm:=OwnF.ints (xs:=[]) (OwnF.made0 w1 3 (iv []))
  exact hm.mono (Nat.le_refl _) (by rw [size_alloc];exact Nat.le_refl _)
 case round =>
  obtain ⟨k,hk,rfl,rfl,ho,hb⟩:=hrel
  obtain ⟨wx,rfl⟩ : ∃ x : World,x=wr:=⟨_,rfl⟩
  obtain ⟨p3,k3,rfl,hk3,hk33⟩:=ho.out.shape
  have hl3:=dscN_le xs k
  obtain ⟨m,hm⟩ : ∃ m,m=(dscN xs k).length:=⟨_,rfl⟩
  have hofn:=ho.out.fn
  rw [wz_length,← hm] at hk3 hofn ⊢
  rw [← hm] at hl3
  have Hm:=Lib.hid hm
  have Ho:=Lib.hid ho.out
  rw [wz_length,← hm] at Ho
  have Hofn:=Lib.hid hofn
  have Hb:=Lib.hid hb.out
  have hsb:=hb.out.size
  clear ho hb hm hofn
  by_cases hkn : k < n - 1
  ·have hki : (k : Int)+1 < (n : Int):=by omega
   have hki2 : (k : Int) < (n : Int):=by omega
   obtain ⟨b,off,rfl,hc⟩:=Hxc.out (by omega)
   have c1:=cell_below Hb.out (HQ.out.cell (hc k (by omega)))
   have c2:=cell_below Hb.out (HQ.out.cell (hc (k+1) (by omega)))
   unfold iv at c1 c2
   obtain ⟨x,hx⟩ : ∃ x,x=xs.getD k 0:=⟨_,rfl⟩
   obtain ⟨y,hy⟩ : ∃ y,y=xs.getD (k+1) 0:=⟨_,rfl⟩
   rw [← hx] at c1
   rw [← hy] at c2
   have Hx:=Lib.hid hx
   have Hy:=Lib.hid hy
   clear hc hx hy
   by_cases hyx : y < x
   ·have Hd:=Lib.hid (dscN_yes (xs:=xs) (m:=k) (by rw [← Hx.out,← Hy.out];exact hyx))
    have hb1 : m+1≤maxLen:=by unfold maxLen;omega
    have hb2 : (m+1) * 8≤140737488355328:=by omega
    go_wp2_with fail
    go_quiet (fail)
    have Hq1:=Lib.hid ((Qt.refl wx).drewN nq)
    have Hsz:=Lib.hid Hq1.out.size
    have hof2:=Hofn.out.below (Hq1.out.below _)
    generalize wx.drewN nq=wy at *
    clear c1 c2
    have hsy : wx.heap.size≤wy.heap.size:=Nat.le_of_eq Hsz.out.symm
    have hsy2 : w1.heap.size≤wy.heap.size:=by omega
    go_wp2_with (at_builtin;go_must (refine wpList_append_F rfl (.tmp 26) (.tmp 28) 24 rfl 3 (.int .i64 0) 8 Tryz.underlying24 info_int rfl w1.heap.size wx.heap.size _ m (iv (wz (dscN xs k))) rfl (hof2.below (below_alloc wy _)) (by rw [size_alloc];omega) (by rw [size_alloc];omega) _ 1 _ rfl (rd_one _ _ _ rfl) (fun j _=>rfl) hb1 hb2 ?_;intro v3 w3 ho3 hg3))
    have hbx : Below w1.heap.size w1 w3:=((Hb.out.trans (Hq1.out.below _)).trans ((below_alloc wy _).mono hsy2)).trans (grownBy_below hg3 hof2.blocks (Nat.le_refl _) (by rw [size_alloc];omega))
    go_roundg (n - 1 - (k+1))
    case measure=>omega
    case rel =>
     refine ⟨k+1,by omega,rfl,by go_num,Lib.hid ?_,Lib.hid hbx⟩
     rw [Hd.out,wz_snoc]
     exact OwnI.snoc1 (by rw [wz_length,← Hm.out];exact ho3)
   ·have Hd:=Lib.hid (dscN_no (xs:=xs) (m:=k) (by rw [← Hx.out,← Hy.out];exact hyx))
    go_wp2_with fail
    go_quiet (fail)
    have Hq1:=Lib.hid ((Qt.refl wx).drewN nq)
    go_wp2_with fail
    go_roundg (n - 1 - (k+1))
    case measure=>omega
    case rel =>
     refine ⟨k+1,by omega,rfl,by go_num,Lib.hid ?_,Lib.hid (Hb.out.trans (Hq1.out.below _))⟩
     rw [Hd.out]
     exact (Ho.out.below (Hq1.out.below _))
  ·have hki : ¬ (k : Int)+1 < (n : Int):=by omega
   have hke : k=n - 1:=by omega
   go_wp2_with fail
   go_ret
   rw [← hke]
   exact ⟨_,rfl,Ho.out.mono (Nat.le_of_eq HQ.out.size.symm) (Nat.le_refl _),(HQ.out.below _).trans (Hb.out.mono (Nat.le_of_eq HQ.out.size.symm))⟩
theorem l1Play_any (n : Nat) (v : Value) (ls : List Int) (b : Bool) (w : World) (h : Ints w v ls) (hl : LetOk n ls) (h1 : 1≤n) (h5 : n≤5) :
 Calls Tryz.prog 25 #[.int .i64 (n : Int),v,.bool b] w fun e w'=> ∃ (u : Value) (xs : List Int),e=.returned u∧OwnI 3 w' w.heap.size w'.heap.size u xs∧P5 n xs∧Below w.heap.size w w':=by
 have Hh:=Lib.hid h
 have Hl:=Lib.hid hl
 obtain ⟨p,cap,rfl,⟨hx1,hx2⟩,hxc⟩:=h
 unfold maxLen at hx2
 have Hxc:=Lib.hid hxc
 clear hxc hl
 go_enter Tryz.func25,Tryz.ntmps25
 go_wp2_with fail
 refine (specIdentity_any n _ h1 (by omega)).mono ?_
 rintro e w1 ⟨u1,rfl,ho1,hb1⟩
 have Ho1:=Lib.hid ho1
 have Hb1:=Lib.hid hb1
 have hs1:=hb1.size
 have Hid5:=Lib.hid (P5.id h1 h5)
 clear ho1 hb1
 go_wp2_with fail
 go_loopg [7,8] ls.length (fun g s7 s8 wr=> ∃ (i : Nat) (c : List Int),i≤ls.length∧g=ls.length - i∧s8=.int .i64 (i : Int)∧Hid (P5 n c)∧Hid (OwnI 3 wr w.heap.size wr.heap.size s7 c)∧Hid (Below w.heap.size w wr))
 case atStart=>exact ⟨0,idL n,Nat.zero_le _,rfl,rfl,Hid5,Ho1,Hb1⟩
 case round =>
  obtain ⟨i,c,hi,rfl,rfl,hc5,ho,hb⟩:=hrel
  obtain ⟨wx,rfl⟩ : ∃ x : World,x=wr:=⟨_,rfl⟩
  have hcl:=hc5.out.len
  obtain ⟨p7,k7,rfl,hk7,hk77⟩:=ho.out.shape
  unfold maxLen at hk77
  rw [hcl] at hk7 ⊢
  have Hc5:=Lib.hid hc5.out
  have Ho:=Lib.hid ho.out
  rw [hcl] at Ho
  have Hcl:=Lib.hid hcl
  have Hb:=Lib.hid hb.out
  have hsx:=hb.out.size
  clear hc5 ho hb hcl
  by_cases hlt : i < ls.length
  ·have hii : (i : Int) < (ls.length : Int):=by omega
   obtain ⟨bw,ow,rfl,hc⟩:=Hxc.out (by omega)
   obtain ⟨m,hm,hmn⟩:=Hl.out i hlt
   have c1:=cell_below Hb.out (hc i hlt)
   unfold iv at c1
   rw [hm] at c1
   have hofn:=Ho.out.fn
   rw [Hcl.out] at hofn
   obtain ⟨g7,rfl,_⟩:=hofn.at_ (by omega)
   have d1:=hofn.cell (show m < n by omega)
   have d2:=hofn.cell hmn
   unfold iv at d1 d2
   obtain ⟨x,hx⟩ : ∃ x,x=c.getD m 0:=⟨_,rfl⟩
   obtain ⟨y,hy⟩ : ∃ y,y=c.getD (m+1) 0:=⟨_,rfl⟩
   rw [← hx] at d1
   rw [← hy] at d2
   have hmi : (m : Int) < (n : Int):=by omega
   have hmi1 : (m : Int)+1 < (n : Int):=by omega
   clear hc hx hy hm hofn
   have swap : ∀ W : World,Qt wx W→Calls Tryz.prog 51 #[.slice (some ⟨g7,0,none⟩) n k7,.int .i64 (m : Int),.int .i64 ((m+1 : Nat) : Int)] W (RetI W (swapL c m (m+1))):=fun W hq =>
    l1Swap_any _ c m (m+1) W (Ho.out.ints.qt hq) (by rw [Hcl.out];omega) (by rw [Hcl.out];omega) (by rw [Hcl.out];omega)
   have Hsw:=Lib.hid swap
   clear swap
   cases b with
   | true =>
     go_wp2_with fail
     go_quiet (fail)
     have Hq1:=Lib.hid ((Qt.refl wx).drewN nq)
     generalize wx.drewN nq=wy at *
     go_wp2_with fail
     refine (Hsw.out _ Hq1.out).mono ?_
     rintro e w2 ⟨u2,rfl,ho2,hb2⟩
     have Ho2:=Lib.hid ho2
     have Hb2:=Lib.hid ((Hb.out.trans (Hq1.out.below _)).trans (hb2.mono (by rw [Hq1.out.size];exact hsx)))
     have Hsz:=Lib.hid Hq1.out.size
     clear ho2 hb2
     go_wp2_with fail
     go_roundg (ls.length - (i+1))
     case measure=>omega
     case rel=>exact ⟨i+1,swapL c m (m+1),by omega,rfl,by go_num,Lib.hid (Hc5.out.sw hmn),Lib.hid (Ho2.out.mono (by rw [Hsz.out];exact hsx) (Nat.le_refl _)),Hb2⟩
   | false =>
     by_cases hxy : x < y
     ·go_wp2_with fail
      go_quiet (fail)
      have Hq1:=Lib.hid ((Qt.refl wx).drewN nq)
      generalize wx.drewN nq=wy at *
      go_wp2_with fail
      refine (Hsw.out _ Hq1.out).mono ?_
      rintro e w2 ⟨u2,rfl,ho2,hb2⟩
      have Ho2:=Lib.hid ho2
      have Hb2:=Lib.hid ((Hb.out.trans (Hq1.out.below _)).trans (hb2.mono (by rw [Hq1.out.size];exact hsx)))
      have Hsz:=Lib.hid Hq1.out.size
      clear ho2 hb2
      go_wp2_with fail
      go_roundg (ls.length - (i+1))
      case measure=>omega
      case rel=>exact ⟨i+1,swapL c m (m+1),by omega,rfl,by go_num,Lib.hid (Hc5.out.sw hmn),Lib.hid (Ho2.out.mono (by rw [Hsz.out];exact hsx) (Nat.le_refl _)),Hb2⟩
     ·go_wp2_with fail
      go_quiet (fail)
      have Hq1:=Lib.hid ((Qt.refl wx).drewN nq)
      go_wp2_with fail
      go_roundg (ls.length - (i+1))
      case measure=>omega
      case rel =>
       refine ⟨i+1,c,by omega,rfl,by go_num,Hc5,Lib.hid ?_,Lib.hid (Hb.out.trans (Hq1.out.below _))⟩
       have:=Ho.out.below (Hq1.out.below _)
       exact this
  ·have hii : ¬ (i : Int) < (ls.length : Int):=by omega
   go_wp2_with fail
   go_ret
   first | exact ⟨_,rfl,c,Ho.out,Hc5.out,Hb.out⟩ | exact ⟨_,c,rfl,Ho.out,Hc5.out,Hb.out⟩
theorem cons_own {T : TypeId} {w : World} {lo hi l : Nat} {v : Value} {out : List Int} {x : Int} {F : Nat→Value} (h : OwnF w lo hi T v (1+l) (fun j=>if j < 1 then F j else iv out (j - 1))) (hl : out.length=l) (hF : F 0=.int .i64 x) : OwnI T w lo hi v (x :: out):=by
 refine OwnF.ints ?_
 rw [List.length_cons,hl,Nat.add_comm]
 refine h.congr fun j hj=> ?_
 unfold iv
 cases j with
 | zero=>rw [if_pos (by omega),hF];rfl
 | succ j=>rw [if_neg (by omega),List.getD_cons_succ];rfl
theorem len_ten {n : Nat} {xs : List Int} (hp : P5 n xs) : lnN xs≤10:=by
 have a:=(wrd_at hp).2.2.2
 have h5:=hp.le
 have b : n * (n - 1) / 2≤10:=by
  have : n=0 ∨ n=1 ∨ n=2 ∨ n=3 ∨ n=4 ∨ n=5:=by omega
  rcases this with rfl | rfl | rfl | rfl | rfl | rfl <;> decide
 omega
theorem own_one (W : World) (x : Int) : OwnF (W.alloc (.cells #[.int .i64 x] 3)) W.heap.size (W.heap.size+1) 3 (.slice (some ⟨W.heap.size,0,none⟩) 1 1) 1 (fun _=>.int .i64 x) :=
 have h : (W.alloc (.cells #[.int .i64 x] 3)).rowIs W.heap.size 3 1 (fun _=>.int .i64 x):=by
  have:=World.rowIs_made W (.int .i64 x) 1 3
  have e : madeCells #[Value.int .i64 x] 1 = #[Value.int .i64 x]:=by first | kernel_rfl | simp [madeCells]
  rwa [e] at this
 OwnF.mk' h (Nat.le_refl _) (Nat.lt_succ_self _) (Nat.le_refl _) (by unfold maxLen;omega) (fun _ _=>rfl)
theorem dReduced_any (k n : Nat) (v : Value) (xs : List Int) (w : World) (h : Cur w k) (hx : OwnI 3 w (k+1) w.heap.size v xs) (hp : P5 n xs) (h1 : 1≤n) :
 Calls Tryz.prog 24 #[.pointer (some ⟨k,0,none⟩),v] w fun e w' =>
  ∃ (u : Value) (ls : List Int),e=.returned u∧OwnI 3 w' w.heap.size w'.heap.size u ls∧LetOk n ls∧ls.length≤10∧Cur w' k∧Frm k (k+1) w w':=by
 have Hc:=Lib.hid h
 have hk:=h.lt
 have HX:=Lib.hid hx.ints
 have Hp:=Lib.hid hp
 have h5:=hp.le
 have Hln:=Lib.hid (len_ten hp)
 obtain ⟨p,cap,rfl,hx1,hx2⟩:=hx.shape
 unfold maxLen at hx2
 rw [hp.len] at HX hx1 ⊢
 clear h hx hp
 go_enter Tryz.func24,Tryz.ntmps24
 go_wp2_with fail
 have e1 : (w.alloc (.cells #[] 3)).heap.size=w.heap.size+1:=size_alloc _ _
 refine (l1Ints_any _ xs _ (HX.out.below (below_alloc w _)) (by rw [Hp.out.len];omega)).mono ?_
 rintro e w1 ⟨u1,rfl,ho1,hb1⟩
 have Ho1:=Lib.hid ho1
 have Hb1:=Lib.hid (show Below w.heap.size w w1 from (below_alloc w _).trans (hb1.mono (by rw [e1];omega)))
 have Hs1:=Lib.hid (show w.heap.size+1≤w1.heap.size from by rw [← e1];exact hb1.size)
 have Ho0:=Lib.hid ((OwnF.ints (xs:=[]) (OwnF.made0 w 3 (iv []))).below hb1)
 obtain ⟨p1,k1,rfl,hk1,hk11⟩:=ho1.shape
 rw [Hp.out.len] at hk1 ⊢
 rw [Hp.out.len] at Ho1
 clear ho1 hb1 e1
 go_wp2_with fail
 go_loopg [5,6] (lnN xs) (fun g s5 s6 wr=> ∃ (c ls : List Int) (p6 : Option Addr) (k6 : Nat),P5 n c∧g=lnN c∧s6=.slice p6 n k6∧Hid (ls.length+lnN c≤10)∧Hid (LetOk n ls)∧Hid (OwnI 3 wr w.heap.size wr.heap.size (.slice p6 n k6) c)∧Hid (OwnI 3 wr w.heap.size wr.heap.size s5 ls)∧Hid (Cur wr k)∧Hid (Frm k (k+1) w wr))
 case atStart =>
  have hs:=Hs1.out
  refine ⟨xs,[],p1,k1,Hp.out,rfl,rfl,Lib.hid (by have:=Hln.out;simp;exact this),Lib.hid (LetOk.nil n),Lib.hid (Ho1.out.mono (by rw [size_alloc];omega) (Nat.le_refl _)),Lib.hid (Ho0.out.mono (Nat.le_refl _) (by omega)),Lib.hid (Hc.out.below Hb1.out),Lib.hid (Frm.of_below Hb1.out _ _)⟩
 case round =>
  obtain ⟨c,ls,p6,k6,hc5,rfl,rfl,hll,hlo,hov,hol,hcu,hf⟩:=hrel
  obtain ⟨wx,rfl⟩ : ∃ x : World,x=wr:=⟨_,rfl⟩
  have Hc5:=Lib.hid hc5
  have Hll:=Lib.hid hll.out
  have Hlo:=Lib.hid hlo.out
  have Hov:=Lib.hid hov.out
  have Hol:=Lib.hid hol.out
  have Hcu:=Lib.hid hcu.out
  have Hf:=Lib.hid hf.out
  have hsx:=hf.out.size
  obtain ⟨_,_,e6,hk6,hk66⟩:=hov.out.shape
  injection e6 with e61 e62 e63
  subst e63
  unfold maxLen at hk66
  rw [hc5.len] at hk6
  obtain ⟨m,hm⟩ : ∃ m,m=ls.length:=⟨_,rfl⟩
  have Hm:=Lib.hid hm
  obtain ⟨p5,k5,rfl,hk5,hk55⟩:=hol.out.shape
  rw [← hm] at hk5 Hll Hol ⊢
  obtain ⟨L,hL⟩ : ∃ L,L=lnN c:=⟨_,rfl⟩
  have HL:=Lib.hid hL
  clear hc5 hll hlo hov hol hcu hf e61 e62 hm
  go_wp2_with fail
  refine (l1Length_any _ c _ Hov.out.ints (by rw [Hc5.out.len];omega)).mono ?_
  rintro e w2 ⟨rfl,hb2⟩
  rw [← hL]
  have Hb2:=Lib.hid hb2
  have hs2:=hb2.size
  clear hb2 hL
  by_cases h0 : L=0
  ·subst h0
   go_wp2_with fail
   go_ret
   have hll:=Hll.out
   first
    | exact ⟨_,rfl,ls,(Hol.out.below Hb2.out).mono (Nat.le_refl _) hs2,Hlo.out,by rw [← Hm.out];omega,Hcu.out.below Hb2.out,Hf.out.thenB Hb2.out hsx⟩
    | exact ⟨_,ls,rfl,(Hol.out.below Hb2.out).mono (Nat.le_refl _) hs2,Hlo.out,by rw [← Hm.out];omega,Hcu.out.below Hb2.out,Hf.out.thenB Hb2.out hsx⟩
  ·have h0i : (0 : Int) < (L : Int):=by omega
   have hd0:=dscN_some Hc5.out (by rw [← HL.out];exact h0)
   obtain ⟨ds,hds⟩ : ∃ ds,ds=dscN c (n - 1):=⟨_,rfl⟩
   have Hds:=Lib.hid hds
   have hdl : ds.length≤n - 1:=by rw [hds];exact dscN_le _ _
   rw [← hds] at hd0
   clear hds
   go_wp2_with fail
   refine (specDescents_any n _ c _ (Hov.out.below Hb2.out).ints Hc5.out h1).mono ?_
   rintro e w3 ⟨u3,rfl,ho3,hb3⟩
   rw [← Hds.out] at ho3
   obtain ⟨d,hd⟩ : ∃ d,d=ds.length:=⟨_,rfl⟩
   obtain ⟨p3,k3,rfl,hk3,hk33⟩:=ho3.shape
   have hof3:=ho3.fn
   rw [wz_length,← hd] at hk3 hof3 ⊢
   rw [← hd] at hd0 hdl
   have Hof3:=Lib.hid hof3
   have Hb3:=Lib.hid hb3
   have hs3:=hb3.size
   have Hd:=Lib.hid hd
   clear ho3 hb3 hof3 hd
   go_wp2_with fail
   refine (l1Below_any k d _ ((Hcu.out.below Hb2.out).below Hb3.out) hd0 (by omega)).mono ?_
   rintro e w4 ⟨i,rfl,hi,hc4,hf4⟩
   have Hc4:=Lib.hid hc4
   have hs4:=hf4.size
   have Hov4:=Lib.hid (((Hov.out.below Hb2.out).below Hb3.out).frm hf4 (Or.inr (by omega)))
   have Hol4:=Lib.hid (((Hol.out.below Hb2.out).below Hb3.out).frm hf4 (Or.inr (by omega)))
   have Hf4:=Lib.hid (((Hf.out.thenB Hb2.out hsx).thenB Hb3.out (by omega)).trans hf4)
   have hof4:=Hof3.out.frm hf4 (Or.inr (by omega))
   obtain ⟨g3,rfl,_⟩:=hof4.at_ (by omega)
   have c1:=hof4.cell hi
   unfold iv at c1
   rw [wz_getD (by rw [← Hd.out];exact hi)] at c1
   have hda:=dscN_at (v:=c) Hc5.out (i:=i) (by rw [← Hds.out,← Hd.out];exact hi)
   rw [← Hds.out] at hda
   obtain ⟨t,ht⟩ : ∃ t,t=ds.getD i 0:=⟨_,rfl⟩
   rw [← ht] at c1 hda
   obtain ⟨htn,htd⟩:=hda
   have Htd:=Lib.hid htd
   have hii : (i : Int) < (d : Int):=by omega
   clear hc4 hf4 hof4 ht htd
   go_wp2_with fail
   refine (l1Swap_any _ c t (t+1) _ Hov4.out.ints (by rw [Hc5.out.len];omega) (by rw [Hc5.out.len];omega) (by rw [Hc5.out.len];omega)).mono ?_
   rintro e w5 ⟨u5,rfl,ho5,hb5⟩
   have hs5:=hb5.size
   obtain ⟨pv,kv,rfl,hkv,hkv2⟩:=ho5.shape
   rw [swapL_length,Hc5.out.len] at ho5 hkv ⊢
   have Ho5:=Lib.hid ho5
   have Hb5:=Lib.hid hb5
   have Hol5:=Lib.hid (Hol4.out.below hb5)
   have Hcu5:=Lib.hid (Hc4.out.below hb5)
   have Hf5:=Lib.hid (Hf4.out.thenB hb5 (by omega))
   clear ho5 hb5
   have hll:=Hll.out
   have hbd1 : 1+m≤maxLen:=by unfold maxLen;omega
   have hbd2 : (1+m) * 8≤140737488355328:=by omega
   have hone:=Lib.hid (own_one w5 (t : Int))
   have hrd:=Lib.hid (show Rd (w5.alloc (.cells #[.int .i64 (t : Int)] 3)) (.slice p5 m k5) m (iv ls) from by
    have:=(Hol5.out.below (below_alloc w5 (.cells #[.int .i64 (t : Int)] 3))).ints
    unfold Ints at this
    rwa [← Hm.out] at this)
   clear hll
   go_wp2_with (at_builtin;go_must (refine wpList_append_F rfl (.tmp 30) (.tmp 31) 24 rfl 3 (.int .i64 0) 8 Tryz.underlying24 info_int rfl w5.heap.size (w5.heap.size+1) _ 1 (fun _=>.int .i64 (t : Int)) rfl hone.out (by rw [size_alloc];omega) (by rw [size_alloc];omega) _ m _ rfl hrd.out (fun j _=>rfl) hbd1 hbd2 ?_;intro v6 w6 ho6 hg6))
   have hbx : Below w5.heap.size w5 w6:=(below_alloc w5 _).trans (grownBy_below hg6 hone.out.blocks (Nat.le_refl _) (by rw [size_alloc];omega))
   have Ho6:=Lib.hid ((cons_own ho6 Hm.out.symm rfl).mono (show w.heap.size≤w5.heap.size by omega) (Nat.le_refl _))
   have Hbx:=Lib.hid hbx
   have hs6:=hbx.size
   have Hdl:=Lib.hid (show lnN (sw t c)+1=L from by
    have a:=(wrd_at Hc5.out).2.2.2
    have b:=(wrd_at (Hc5.out.sw htn)).2.2.2
    have e:=(Hc5.out.desc htn Htd.out).1
    have:=HL.out
    omega)
   clear hg6 ho6 hbx c1
   go_roundg (lnN (sw t c))
   case measure=>have:=Hdl.out;have:=HL.out;omega
   case rel =>
    refine ⟨sw t c,(t : Int) :: ls,pv,kv,Hc5.out.sw htn,rfl,rfl,Lib.hid ?_,Lib.hid (Hlo.out.cons htn),Lib.hid ?_,Ho6,Lib.hid (Hcu5.out.below Hbx.out),Lib.hid (Hf5.out.thenB Hbx.out (by omega))⟩
    ·have a:=Hll.out
     have b:=Hdl.out
     have e:=HL.out
     rw [List.length_cons,← Hm.out]
     omega
    ·exact ((Ho5.out.below Hbx.out).mono (show w.heap.size≤w4.heap.size by omega) (by omega))
theorem DrawTwoPerms_any (v : Value) (l : Nat) (w : World) (h : Byts w v l) :
 Calls Tryz.prog 5 #[v] w fun e w' =>
  ∃ (u1 u2 : Value) (xs zs : List Int) (n : Nat),e=.returned (.tuple #[u1,u2])∧Ints w' u1 xs∧Ints w' u2 zs∧P5 n xs∧P5 n zs∧1≤n∧Below w.heap.size w w':=by
 have Hh:=Lib.hid h
 obtain ⟨_,_,cap,rfl,_⟩:=h
 go_enter Tryz.func5,Tryz.ntmps5
 go_wp2_with fail
 refine (l1New_any _ l _ Hh.out).mono ?_
 rintro e w2 ⟨rfl,hc2,hb2⟩
 have HC2:=Lib.hid hc2
 have HB2:=Lib.hid hb2
 have hk2:=hc2.lt
 clear hc2 hb2
 go_wp2_with fail
 refine (l1Below_any w.heap.size 5 _ HC2.out (by omega) (by omega)).mono ?_
 rintro e w3 ⟨m,rfl,hm,hc3,hf3⟩
 have HC3:=Lib.hid hc3
 have HB3:=Lib.hid (HB2.out.trans (hf3.below (Nat.le_refl _) (by omega)))
 have hs3:=hf3.size
 clear hc3 hf3
 have hmm : 1+(m : Int)=((m+1 : Nat) : Int):=by omega
 obtain ⟨n,hn⟩ : ∃ n,n=m+1:=⟨_,rfl⟩
 rw [← hn] at hmm
 have Hmm:=Lib.hid hmm
 have hn1 : 1≤n:=by omega
 have hn5 : n≤5:=by omega
 clear hn hmm
 go_wp2_with fail
 rw [Hmm.out]
 refine (dPerm_any w.heap.size n _ HC3.out hn1 hn5).mono ?_
 rintro e w4 ⟨u1,xs,rfl,ho4,hp4,hl4,hc4,hf4⟩
 have HO4:=Lib.hid ho4
 have HP4:=Lib.hid (show P5 n xs from ⟨hp4,hl4,hn5⟩)
 have HC4:=Lib.hid hc4
 have HB4:=Lib.hid (HB3.out.trans (hf4.below (Nat.le_refl _) (by omega)))
 have hs4:=hf4.size
 obtain ⟨p4,k4,rfl,hk4,_⟩:=ho4.shape
 rw [hl4] at HO4 hk4 ⊢
 clear ho4 hp4 hl4 hc4 hf4
 go_wp2_with fail
 refine (l1Once_any w.heap.size 3 _ HC4.out (by omega) (by omega)).mono ?_
 rintro e w5 ⟨b,rfl,hc5,hf5⟩
 have HC5:=Lib.hid hc5
 have HB5:=Lib.hid (HB4.out.trans (hf5.below (Nat.le_refl _) (by omega)))
 have HO5:=Lib.hid (HO4.out.frm hf5 (Or.inr (by omega)))
 have hs5:=hf5.size
 clear hc5 hf5
 cases b with
 | false =>
   go_wp2_with fail
   refine (dPerm_any w.heap.size n _ HC5.out hn1 hn5).mono ?_
   rintro e w6 ⟨u6,zs,rfl,ho6,hp6,hl6,hc6,hf6⟩
   have HO6:=Lib.hid ho6.ints
   have HP6:=Lib.hid (show P5 n zs from ⟨hp6,hl6,hn5⟩)
   have HB6:=Lib.hid (HB5.out.trans (hf6.below (Nat.le_refl _) (by omega)))
   have HX6:=Lib.hid (HO5.out.frm hf6 (Or.inr (by omega))).ints
   clear ho6 hp6 hl6 hc6 hf6
   go_wp2_with fail
   go_ret2
   exact ⟨_,_,xs,zs,n,rfl,HX6.out,HO6.out,HP4.out,HP6.out,hn1,HB6.out⟩
 | true =>
   go_wp2_with fail
   refine (dReduced_any w.heap.size n _ xs _ HC5.out (HO5.out.mono (by omega) (by omega)) HP4.out hn1).mono ?_
   rintro e w6 ⟨u6,ls,rfl,ho6,hl6,hl10,hc6,hf6⟩
   have HL:=Lib.hid hl6
   have HO6:=Lib.hid ho6
   have HC6:=Lib.hid hc6
   have HB6:=Lib.hid (HB5.out.trans (hf6.below (Nat.le_refl _) (by omega)))
   have HX6:=Lib.hid (HO5.out.frm hf6 (Or.inr (by omega)))
   have hs6:=hf6.size
   obtain ⟨p6,k6,rfl,hk6,hk66⟩:=ho6.shape
   unfold maxLen at hk66
   clear ho6 hl6 hc6 hf6
   go_wp2_with fail
   go_loopg [8,9] ls.length (fun g s8 s9 wr=> ∃ (i : Nat) (ps : List Int),i≤ls.length∧g=ls.length - i∧s9=.int .i64 (i : Int)∧Hid (ps.length≤i)∧Hid (LetOk n ps)∧Hid (OwnI 3 wr w6.heap.size wr.heap.size s8 ps)∧Hid (Cur wr w.heap.size)∧Hid (Frm w.heap.size (w.heap.size+1) w6 wr))
   case atStart =>
    refine ⟨0,[],Nat.zero_le _,rfl,rfl,Lib.hid (Nat.le_refl _),Lib.hid (LetOk.nil n),Lib.hid ?_,Lib.hid (HC6.out.below (below_alloc w6 _)),Lib.hid (Frm.of_below (below_alloc w6 _) _ _)⟩
    exact OwnF.ints ((OwnF.made0 w6 3 (iv [])).mono (Nat.le_refl _) (by simp))
   case round =>
    obtain ⟨i,ps,hi,rfl,rfl,hpl,hpo,ho,hcu,hf⟩:=hrel
    obtain ⟨wx,rfl⟩ : ∃ x : World,x=wr:=⟨_,rfl⟩
    have hsx:=hf.out.size
    obtain ⟨q,hq⟩ : ∃ q,q=ps.length:=⟨_,rfl⟩
    have Hq:=Lib.hid hq
    obtain ⟨p8,k8,rfl,hk8,hk88⟩:=ho.out.shape
    have hofn:=ho.out.fn
    have hpl':=hpl.out
    rw [← hq] at hk8 hofn hpl' ⊢
    have Ho:=Lib.hid ho.out
    rw [← hq] at Ho
    have Hofn:=Lib.hid hofn
    have Hpo:=Lib.hid hpo.out
    have Hcu:=Lib.hid hcu.out
    have Hf:=Lib.hid hf.out
    clear hpl hpo ho hcu hf hq hofn
    by_cases hlt : i < ls.length
    ·have hii : (i : Int) < (ls.length : Int):=by omega
     go_wp2_with fail
     refine (l1Once_any w.heap.size 3 _ Hcu.out (by omega) (by omega)).mono ?_
     rintro e w7 ⟨b,rfl,hc7,hf7⟩
     have HC7:=Lib.hid hc7
     have HO7:=Lib.hid (Hofn.out.frm hf7 (Or.inr (by omega)))
     have HI7:=Lib.hid (Ho.out.frm hf7 (Or.inr (by omega)))
     have HF7:=Lib.hid (Hf.out.trans hf7)
     have hs7:=hf7.size
     clear hc7 hf7
     cases b with
     | true =>
       go_wp2_with fail
       go_roundg (ls.length - (i+1))
       case measure=>omega
       case rel=>exact ⟨i+1,ps,by omega,rfl,by go_num,Lib.hid (by rw [← Hq.out];omega),Hpo,Lib.hid (HI7.out.mono (Nat.le_refl _) hs7),HC7,HF7⟩
     | false =>
       obtain ⟨m,hm,hmn⟩:=HL.out i hlt
       have hls:=(HO6.out.frm HF7.out (Or.inr (by omega))).fn
       obtain ⟨g6,rfl,_⟩:=hls.at_ (by omega)
       have c1:=hls.cell hlt
       unfold iv at c1
       rw [hm] at c1
       have hb1 : q+1≤maxLen:=by unfold maxLen;omega
       have hb2 : (q+1) * 8≤140737488355328:=by omega
       clear hls hm
       go_wp2_with (at_builtin;go_must (refine wpList_append_F rfl (.tmp 33) (.tmp 38) 24 rfl 3 (.int .i64 0) 8 Tryz.underlying24 info_int rfl w6.heap.size wx.heap.size _ q (iv ps) rfl (HO7.out.below (below_alloc w7 _)) (by rw [size_alloc];omega) (by rw [size_alloc];omega) _ 1 _ rfl (rd_one _ _ _ rfl) (fun j _=>rfl) hb1 hb2 ?_;intro v8 w8 ho8 hg8))
       have hbx : Below w6.heap.size w7 w8:=((below_alloc w7 _).mono (by omega)).trans (grownBy_below hg8 HO7.out.blocks (Nat.le_refl _) (by rw [size_alloc];omega))
       go_roundg (ls.length - (i+1))
       case measure=>omega
       case rel =>
        refine ⟨i+1,ps ++ [(m : Int)],by omega,rfl,by go_num,Lib.hid (by rw [List.length_append,← Hq.out,List.length_singleton];omega),Lib.hid (Hpo.out.snoc hmn),Lib.hid ?_,Lib.hid (HC7.out.keepB hbx (by omega)),Lib.hid (HF7.out.thenB hbx (Nat.le_refl _))⟩
        exact OwnI.snoc1 (by rw [← Hq.out];exact ho8)
    ·have hii : ¬ (i : Int) < (ls.length : Int):=by omega
     go_wp2_with fail
     refine (l1Once_any w.heap.size 2 _ Hcu.out (by omega) (by omega)).mono ?_
     rintro e w7 ⟨b,rfl,hc7,hf7⟩
     have HI7:=Lib.hid (Ho.out.frm hf7 (Or.inr (by omega)))
     have HF7:=Lib.hid (Hf.out.trans hf7)
     have hs7:=hf7.size
     clear hc7 hf7
     go_wp2_with fail
     refine (l1Play_any n _ ps b _ (by have:=HI7.out.ints;exact this) Hpo.out hn1 hn5).mono ?_
     rintro e w8 ⟨u8,zs,rfl,ho8,hp8,hb8⟩
     have HZ:=Lib.hid ho8.ints
     have HP8:=Lib.hid hp8
     have HX8:=Lib.hid ((HX6.out.frm HF7.out (Or.inr (by omega))).below hb8).ints
     have HB8:=Lib.hid ((HB6.out.trans (HF7.out.below (Nat.le_refl _) (by omega))).trans (hb8.mono (by omega)))
     clear ho8 hp8 hb8
     go_wp2_with fail
     go_ret2
     exact ⟨_,_,zs,xs,n,rfl,HZ.out,HX8.out,HP8.out,HP4.out,hn1,HB8.out⟩
end
end Go.Proofs.YtincaodpjdeoeaaGreatDoor
