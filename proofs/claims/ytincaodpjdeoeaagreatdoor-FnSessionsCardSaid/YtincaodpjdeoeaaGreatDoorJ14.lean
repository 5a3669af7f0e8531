/-
  A part of the proof of FnSessions (texts of one proof, joined).
-/
import Derived.Test.YtincaodpjdeoeaaGreatDoorJ12
import Derived.Lib.Overlaps
import Derived.Lib.AppendZerosOnto
namespace Go.Proofs.YtincaodpjdeoeaaGreatDoor
set_option linter.all false
set_option maxRecDepth 100000
set_option maxHeartbeats 16000000
section
open Go.RowKit
theorem withText_shape (v : Value) (xs zs : List Int) (ns : List Nat) (cs : List Cls) (k n : Nat) (w : World) (h : SesT w v xs cs zs (k : Int) (n : Int)) (h10 : ∀ x ∈ ns,x < 10) (hl : ns.length≤100) (hx : bxOk (inL ns) k n=true) (hk : k≤n) (hn : 1≤n) (hn7 : n≤7) :
 Calls Tryz.prog 57 #[v,.string ⟨#[115,104,97,112,101]⟩,.string (bytA (dJ ns))] w fun e w'=> ∃ u,e=.returned (.tuple #[u,.string ⟨#[111,107]⟩])∧SesT w' u xs cs (inL ns) (k : Int) (n : Int)∧Below w.heap.size w w':=by
 obtain ⟨pp,pk,cp,ck,sp,sk,rfl,i1,i2,i3⟩:=h.open
 have I2:=Lib.hid i2
 have I1:=Lib.hid i1
 have H1:=Lib.hid (fun u=>ParseInts_any ns u h10 hl)
 have HX:=Lib.hid (fun (u : World) (a : Value) (ha : Ints u a (inL ns))=>hx ▸ IsInBox_any a (inL ns) k n u ha hk hn hn7)
 obtain ⟨ys,hys⟩ : ∃ ys,ys=inL ns:=⟨_,rfl⟩
 obtain ⟨st,hst⟩ : ∃ st,st=bytA (dJ ns):=⟨_,rfl⟩
 rw [← hys] at HX H1 ⊢
 rw [← hst] at H1 ⊢
 obtain ⟨z1,z2⟩:=box5_two w 61 (.slice pp xs.length pk) (.slice cp cs.length ck) (.slice sp zs.length sk) (.int .i64 (k : Int)) (.int .i64 (n : Int)) (.slice none 0 0) (.slice none 0 0) (.slice none 0 0) (.int .i64 0) (.int .i64 0)
 have Z1:=Lib.hid z1
 have Z2:=Lib.hid z2
 have HB0:=Lib.hid (below_alloc2 w (.cells #[.slice pp xs.length pk,.slice cp cs.length ck,.slice sp zs.length sk,.int .i64 (k : Int),.int .i64 (n : Int)] 61) (.cells #[.slice none 0 0,.slice none 0 0,.slice none 0 0,.int .i64 0,.int .i64 0] 61))
 obtain ⟨W2,hW2⟩ : ∃ W2,W2=((w.alloc (.cells #[.slice pp xs.length pk,.slice cp cs.length ck,.slice sp zs.length sk,.int .i64 (k : Int),.int .i64 (n : Int)] 61)).alloc (.cells #[.slice none 0 0,.slice none 0 0,.slice none 0 0,.int .i64 0,.int .i64 0] 61)):=⟨_,rfl⟩
 have Hs0:=Lib.hid (show W2.heap.size=w.heap.size+1+1 by rw [hW2];simp)
 rw [← hW2] at Z1 Z2 HB0
 have HW2:=Lib.hid hW2
 clear z1 z2 h i1 i2 i3 hW2 hx hys hst h10
 obtain ⟨c0,c1,c2,c3,c4,cf,hz⟩:=blk5s Z1.out
 go_enter Tryz.func57,Tryz.ntmps57
 go_wp2_with fail
 rw [← HW2.out]
 go_wp2_with fail
 refine (H1.out _).mono ?_
 rintro e w3 ⟨u1,rfl,ho1,hb3⟩
 obtain ⟨p1,k1,rfl,_,_⟩:=ho1.shape
 have HO1:=Lib.hid ho1
 have HB3:=Lib.hid (HB0.out.trans (hb3.mono HB0.out.size))
 have Z1':=Lib.hid (blk_later Z1.out hb3)
 have Z2':=Lib.hid (blk_later Z2.out hb3)
 have HX3:=Lib.hid (HX.out w3 _ ho1.ints)
 clear ho1 hb3 c0 c1 c2 c3 c4 cf hz
 obtain ⟨c0,c1,c2,c3,c4,cf,hz⟩:=blk5s Z1'.out
 obtain ⟨e0,e1,e2,e3,e4,ef,ez⟩:=blk5s Z2'.out
 go_wp2_with fail
 refine HX3.out.mono ?_
 rintro e w4 ⟨rfl,hq4⟩
 have HB4:=Lib.hid (HB3.out.trans (hq4.below _))
 have Z1q:=Lib.hid (blk_later Z1'.out (hq4.below _))
 have Z2q:=Lib.hid (blk_later Z2'.out (hq4.below _))
 have HO4:=Lib.hid (OwnI.below HO1.out (hq4.below _))
 clear hq4 c0 c1 c2 c3 c4 cf hz e0 e1 e2 e3 e4 ef ez
 obtain ⟨c0,c1,c2,c3,c4,cf,hz⟩:=blk5s Z1q.out
 obtain ⟨e0,e1,e2,e3,e4,ef,ez⟩:=blk5s Z2q.out
 go_wp2_with fail
 clear c0 c1 c2 c3 c4 cf e0 e1 e2 e3 e4 ef
 have hlt : w.heap.size+1 < W2.heap.size:=by have:=Hs0.out;omega
 have hlt0 : w.heap.size < W2.heap.size:=by omega
 obtain ⟨W5,hW5⟩ : ∃ W5,W5=w4.setCell ⟨w.heap.size,2,none⟩ (.slice p1 ys.length k1):=⟨_,rfl⟩
 have HB5:=Lib.hid (show Below w.heap.size w W5 by rw [hW5];exact HB4.out.setCell (Nat.le_refl _) _)
 have Z2n:=Lib.hid (show W5.heap[w.heap.size+1]?=some (.cells #[.slice none 0 0,.slice none 0 0,.slice none 0 0,.int .i64 0,.int .i64 0] 61 (0,0)) by rw [hW5];exact (Below.heap_setCell _ _ _ _ (show w.heap.size+1 ≠ w.heap.size by omega)).trans Z2q.out)
 have HO5:=Lib.hid (show OwnI 3 W5 W2.heap.size w3.heap.size (.slice p1 ys.length k1) ys by rw [hW5];exact OwnI.setCell HO4.out (.inl hlt0) _)
 rw [← hW5]
 clear hW5
 obtain ⟨W6,hW6⟩ : ∃ W6,W6=((((W5.setCell ⟨w.heap.size+1,0,none⟩ (.slice pp xs.length pk)).setCell ⟨w.heap.size+1,1,none⟩ (.slice cp cs.length ck)).setCell ⟨w.heap.size+1,2,none⟩ (.slice p1 ys.length k1)).setCell ⟨w.heap.size+1,3,none⟩ (.int .i64 (k : Int))).setCell ⟨w.heap.size+1,4,none⟩ (.int .i64 (n : Int)):=⟨_,rfl⟩
 have HB6:=Lib.hid (show Below w.heap.size w W6 by rw [hW6];exact below_set5 HB5.out (by omega) _ _ _ _ _)
 have hz6:=set5_all Z2n.out (.slice pp xs.length pk) (.slice cp cs.length ck) (.slice p1 ys.length k1) (.int .i64 (k : Int)) (.int .i64 (n : Int))
 have HO6:=Lib.hid (show OwnI 3 W6 W2.heap.size w3.heap.size (.slice p1 ys.length k1) ys by
  rw [hW6];exact OwnI.setCell (OwnI.setCell (OwnI.setCell (OwnI.setCell (OwnI.setCell HO5.out (.inl hlt) _) (.inl hlt) _) (.inl hlt) _) (.inl hlt) _) (.inl hlt) _)
 rw [← hW6] at hz6 ⊢
 obtain ⟨f0,f1,f2,f3,f4,ff,fz⟩:=blk5s hz6
 refine bodyPost_ret (v:=.tuple #[.agg #[.slice pp xs.length pk,.slice cp cs.length ck,.slice p1 ys.length k1,.int .i64 (k : Int),.int .i64 (n : Int)],.string ⟨#[111,107]⟩]) (by simp [results,Tryz.results57,go_sem,f0,f1,f2,f3,f4,fz]) rfl ⟨_,rfl,⟨_,_,_,rfl,I1.out.below HB6.out,I2.out.below HB6.out,IntsT.of_own HO6.out⟩,HB6.out⟩
theorem withText_box (v : Value) (xs zs : List Int) (cs : List Cls) (K N : Int) (k n : Nat) (w : World) (h : SesT w v xs cs zs K N) (hk : k≤n) (hn : 1≤n) (hn7 : n≤7) :
 Calls Tryz.prog 57 #[v,.string ⟨#[98,111,120]⟩,.string (bytA (dJ [k,n]))] w fun e w'=> ∃ u,e=.returned (.tuple #[u,.string ⟨#[111,107]⟩])∧SesT w' u xs cs [] (k : Int) (n : Int)∧Below w.heap.size w w':=by
 obtain ⟨pp,pk,cp,ck,sp,sk,rfl,i1,i2,i3⟩:=h.open
 have I2:=Lib.hid i2
 have I1:=Lib.hid i1
 have H1:=Lib.hid (fun u=>ParseInts_any [k,n] u (by intro x hx;simp only [List.mem_cons,List.not_mem_nil,or_false] at hx;omega) (by simp))
 obtain ⟨st,hst⟩ : ∃ st,st=bytA (dJ [k,n]):=⟨_,rfl⟩
 rw [← hst] at H1 ⊢
 obtain ⟨z1,z2⟩:=box5_two w 61 (.slice pp xs.length pk) (.slice cp cs.length ck) (.slice sp zs.length sk) (.int .i64 K) (.int .i64 N) (.slice none 0 0) (.slice none 0 0) (.slice none 0 0) (.int .i64 0) (.int .i64 0)
 have Z1:=Lib.hid z1
 have Z2:=Lib.hid z2
 have HB0:=Lib.hid (below_alloc2 w (.cells #[.slice pp xs.length pk,.slice cp cs.length ck,.slice sp zs.length sk,.int .i64 K,.int .i64 N] 61) (.cells #[.slice none 0 0,.slice none 0 0,.slice none 0 0,.int .i64 0,.int .i64 0] 61))
 obtain ⟨W2,hW2⟩ : ∃ W2,W2=((w.alloc (.cells #[.slice pp xs.length pk,.slice cp cs.length ck,.slice sp zs.length sk,.int .i64 K,.int .i64 N] 61)).alloc (.cells #[.slice none 0 0,.slice none 0 0,.slice none 0 0,.int .i64 0,.int .i64 0] 61)):=⟨_,rfl⟩
 have Hs0:=Lib.hid (show W2.heap.size=w.heap.size+1+1 by rw [hW2];simp)
 rw [← hW2] at Z1 Z2 HB0
 have HW2:=Lib.hid hW2
 clear z1 z2 h i1 i2 i3 hW2 hst
 obtain ⟨c0,c1,c2,c3,c4,cf,hz⟩:=blk5s Z1.out
 go_enter Tryz.func57,Tryz.ntmps57
 go_wp2_with fail
 rw [← HW2.out]
 go_wp2_with fail
 refine (H1.out _).mono ?_
 rintro e w3 ⟨u1,rfl,ho1,hb3⟩
 obtain ⟨p1,k1,rfl,_,_⟩:=ho1.shape
 obtain ⟨_,_,ew,_,hxw⟩:=ho1.ints
 rw [show (inL [k,n]).length=2 from rfl] at *
 obtain ⟨g1,o1,eg,hcw⟩:=hxw (show 0 < 2 by decide)
 injection ew with ew1 ew2 ew3
 subst ew1
 subst eg
 have y0:=hcw 0 (show 0 < 2 by decide)
 have y1:=hcw 1 (show 1 < 2 by decide)
 rw [show iv (inL [k,n]) 0=.int .i64 (k : Int) from rfl,Nat.add_zero] at y0
 rw [show iv (inL [k,n]) 1=.int .i64 (n : Int) from rfl] at y1
 have HX:=Lib.hid (fun u=>IsInBox_any (.slice none 0 0) [] k n u ⟨_,_,rfl,⟨Nat.le_refl _,Nat.zero_le _⟩,fun h=>absurd h (Nat.lt_irrefl _)⟩ hk hn hn7)
 rw [show bxOk [] k n=true by unfold bxOk;rw [show shOk []=true by decide];simp;omega] at HX
 have HO1:=Lib.hid ho1
 have HB3:=Lib.hid (HB0.out.trans (hb3.mono HB0.out.size))
 have Z1':=Lib.hid (blk_later Z1.out hb3)
 have Z2':=Lib.hid (blk_later Z2.out hb3)
 clear ho1 hb3 c0 c1 c2 c3 c4 cf hz
 obtain ⟨c0,c1,c2,c3,c4,cf,hz⟩:=blk5s Z1'.out
 obtain ⟨e0,e1,e2,e3,e4,ef,ez⟩:=blk5s Z2'.out
 go_wp2_with fail
 go_quiet (first
  | (go_at_call 40;exact quiet_q (HX.out _)))
 have Z1q:=Lib.hid (show (w3.drewN nq).heap[w.heap.size]?=_ from Z1'.out)
 have Z2q:=Lib.hid (show (w3.drewN nq).heap[w.heap.size+1]?=_ from Z2'.out)
 have HB4:=Lib.hid (HB3.out.trans ((Qt.below (⟨nq,rfl⟩ : Qt w3 (w3.drewN nq)) _)))
 have y0' : (w3.drewN nq).cell? ⟨g1,o1,none⟩=some (.int .i64 (k : Int)):=Qt.cell (⟨nq,rfl⟩ : Qt w3 (w3.drewN nq)) y0
 have y1' : (w3.drewN nq).cell? ⟨g1,o1+1,none⟩=some (.int .i64 (n : Int)):=Qt.cell (⟨nq,rfl⟩ : Qt w3 (w3.drewN nq)) y1
 have hg1:=World.block_lt_of_cell? _ _ y0
 have hgne : g1 ≠ w.heap.size:=by
  have:=(Own.block HO1.out (show Value.ownBlock _=some g1 from rfl)).1
  have:=Hs0.out
  omega
 clear y0 y1 c0 c1 c2 c3 c4 cf hz e0 e1 e2 e3 e4 ef ez
 generalize w3.drewN nq=w4 at *
 obtain ⟨c0,c1,c2,c3,c4,cf,hz⟩:=blk5s Z1q.out
 obtain ⟨e0,e1,e2,e3,e4,ef,ez⟩:=blk5s Z2q.out
 go_wp2_with fail
 go_region
 go_wp2_with fail
 clear c0 c1 c2 c3 c4 cf e0 e1 e2 e3 e4 ef y0' y1'
 obtain ⟨W5,hW5⟩ : ∃ W5,W5=((w4.setCell ⟨w.heap.size,3,none⟩ (.int .i64 (k : Int))).setCell ⟨w.heap.size,4,none⟩ (.int .i64 (n : Int))).setCell ⟨w.heap.size,2,none⟩ (.slice none 0 0):=⟨_,rfl⟩
 have hne : w.heap.size+1 ≠ w.heap.size:=by omega
 have HB5:=Lib.hid (show Below w.heap.size w W5 by rw [hW5];exact ((HB4.out.setCell (Nat.le_refl _) _).setCell (Nat.le_refl _) _).setCell (Nat.le_refl _) _)
 have Z2n:=Lib.hid (show W5.heap[w.heap.size+1]?=some (.cells #[.slice none 0 0,.slice none 0 0,.slice none 0 0,.int .i64 0,.int .i64 0] 61 (0,0)) by rw [hW5,Below.heap_setCell _ _ _ _ hne,Below.heap_setCell _ _ _ _ hne,Below.heap_setCell _ _ _ _ hne];exact Z2q.out)
 rw [← hW5]
 clear hW5
 obtain ⟨W6,hW6⟩ : ∃ W6,W6=((((W5.setCell ⟨w.heap.size+1,0,none⟩ (.slice pp xs.length pk)).setCell ⟨w.heap.size+1,1,none⟩ (.slice cp cs.length ck)).setCell ⟨w.heap.size+1,2,none⟩ (.slice none 0 0)).setCell ⟨w.heap.size+1,3,none⟩ (.int .i64 (k : Int))).setCell ⟨w.heap.size+1,4,none⟩ (.int .i64 (n : Int)):=⟨_,rfl⟩
 have HB6:=Lib.hid (show Below w.heap.size w W6.drew by rw [hW6];exact (below_set5 HB5.out (by omega) _ _ _ _ _).drew)
 have hz6:=set5_all Z2n.out (.slice pp xs.length pk) (.slice cp cs.length ck) (.slice none 0 0) (.int .i64 (k : Int)) (.int .i64 (n : Int))
 rw [← hW6] at hz6 ⊢
 obtain ⟨f0,f1,f2,f3,f4,ff,fz⟩:=blk5s (w:=W6.drew) hz6
 refine bodyPost_ret (v:=.tuple #[.agg #[.slice pp xs.length pk,.slice cp cs.length ck,.slice none 0 0,.int .i64 (k : Int),.int .i64 (n : Int)],.string ⟨#[111,107]⟩]) (by simp [results,Tryz.results57,go_sem,f0,f1,f2,f3,f4,fz]) rfl ⟨_,rfl,⟨_,_,_,rfl,I1.out.below HB6.out,I2.out.below HB6.out,IntsT.nil _⟩,HB6.out⟩
theorem shortened_at (p : Option Addr) (cap : Nat) (xs : List Int) (w : World) (h : Ints w (.slice p xs.length cap) xs) :
 Calls Tryz.prog 34 #[.slice p xs.length cap] w fun e w'=>e=.returned (.slice p (shN xs xs.length) cap)∧Qt w w':=by
 obtain ⟨p',cap',e,⟨hx1,hx2⟩,hxc⟩:=h
 injection e with e1 e2 e3
 subst e1 e3
 clear e2
 unfold maxLen at hx2
 go_enter Tryz.func34,Tryz.ntmps34
 go_wp2_with fail
 go_loopg [3] (xs.length+1) (fun g s3 wr=> ∃ k : Nat,k≤xs.length∧g=k+1∧s3=.int .i64 k∧Qt w wr∧Hid (shN xs xs.length=shN xs k))
 case atStart=>exact ⟨xs.length,Nat.le_refl _,rfl,rfl,Qt.refl _,Lib.hid rfl⟩
 case round =>
  obtain ⟨k,hk,rfl,rfl,hq,hp⟩:=hrel
  by_cases h0 : k=0
  ·subst h0
   go_wp2_with fail
   go_ret
   refine ⟨?_,hq⟩
   rw [hp.out]
   rfl
  ·obtain ⟨m,rfl⟩ : ∃ m,k=m+1:=⟨k - 1,by omega⟩
   obtain ⟨b,off,rfl,hc⟩:=hxc (by omega)
   obtain ⟨x,hx⟩ : ∃ x,x=xs.getD m 0:=⟨_,rfl⟩
   have c1:=hq.cell (hc m (by omega))
   unfold iv at c1
   rw [← hx] at c1
   have Hx:=Lib.hid hx
   have hm1 : (0 : Int) < ((m+1 : Nat) : Int):=by omega
   have hm2 : ((m+1 : Nat) : Int) - 1=(m : Int):=by omega
   have hm3 : (m : Int) < (xs.length : Int):=by omega
   have hm4 : ((m+1 : Nat) : Int)≤(cap : Int):=by omega
   have HN:=Lib.hid (show shN xs (m+1)=if xs.getD m 0=0 then shN xs m else m+1 from rfl)
   clear hx hc hxc h0
   by_cases hx0 : x=0
   ·go_wp2_with fail
    go_roundg (m+1)
    case measure=>omega
    case rel=>exact ⟨m,by omega,rfl,by go_num,hq,Lib.hid (by rw [hp.out,HN.out,if_pos (by rw [← Hx.out];exact hx0)])⟩
   ·go_wp2_with fail
    go_ret
    refine ⟨?_,hq⟩
    rw [hp.out,HN.out,if_neg (by rw [← Hx.out];exact hx0)]
    rfl
def fmtTm (t : Cls) : List UInt8:=fmtI t.2 ++ 58 :: fmtIs (t.1.take (shN t.1 t.1.length))
def fmtPo (ts : List Cls) : List UInt8:=if ts.length=0 then [48] else Lib.join (ts.map fmtTm) [44,32]
theorem tm_all {t : Cls} (h : TmOk t) : t.1.length=7 ∧ ∀ x ∈ t.1,0≤x∧x < 1000000000000:=by
 refine ⟨h.1,fun x hx=> ?_⟩
 obtain ⟨j,hj,rfl⟩:=List.getElem_of_mem hx
 have:=h.2.1 j
 simp only [List.getD_eq_getElem?_getD,List.getElem?_eq_getElem hj,Option.getD_some] at this
 omega
theorem ints_take {w : World} {p : Option Addr} {xs : List Int} {n k : Nat} (h : Ints w (.slice p xs.length k) xs) (hn : n≤xs.length) : Ints w (.slice p n k) (xs.take n):=by
 obtain ⟨p',cap',e,⟨h1,h2⟩,h3⟩:=h
 injection e with e1 e2 e3
 subst e1 e3
 have hl : (xs.take n).length=n:=by rw [List.length_take];omega
 refine ⟨p,k,by rw [hl],⟨by rw [hl];omega,h2⟩,fun h0=> ?_⟩
 rw [hl] at h0 ⊢
 obtain ⟨b,off,e,hc⟩:=h3 (by omega)
 refine ⟨b,off,e,fun j hj=> ?_⟩
 rw [hc j (by omega)]
 unfold iv
 simp [List.getD_eq_getElem?_getD,List.getElem?_take,hj]
theorem FormatPoly_any (v : Value) (cs : List Cls) (w : World) (h : RdCl w v cs) (hok : TsOk cs) (hp : ∀ k,k < cs.length→0≤(cs.getD k clD).2) :
 Calls Tryz.prog 12 #[v] w fun e w'=>e=.returned (.string (bytA (fmtPo cs)))∧Below w.heap.size w w':=by
 have HH:=Lib.hid h
 have hlen : cs.length≤600:=hok.1
 have Hok:=Lib.hid (fun k (hk : k < cs.length)=>hok.at hk)
 have HCo:=Lib.hid (PolyOk_yes v cs w h hok)
 have Hp:=Lib.hid hp
 obtain ⟨f,hs1,hf⟩:=h
 obtain ⟨p,cap,rfl,⟨hx1,hx⟩,hxc⟩:=hs1.two
 unfold maxLen at hx
 have Hf:=Lib.hid hf
 have Hxc:=Lib.hid hxc
 clear hf hs1 hxc hok hp
 go_enter Tryz.func12,Tryz.ntmps12
 go_wp2_with fail
 refine HCo.out.mono ?_
 rintro e w1 ⟨rfl,hb1⟩
 have Hb1:=Lib.hid hb1
 have hs1:=hb1.size
 have Ho:=Lib.hid (OwnSt.made0 w1)
 have HF:=Lib.hid (show fmtPo cs=if cs.length=0 then [48] else Lib.join (cs.map fmtTm) [44,32] from rfl)
 clear hb1
 rcases Nat.eq_zero_or_pos cs.length with h0 | h0
 ·have h0' : (cs.length : Int)=0:=by omega
  rw [if_pos h0] at HF
  go_wp2_with fail
  go_ret
  rw [HF.out]
  exact ⟨rfl,Hb1.out⟩
 have h0'' : ((cs.length : Int) == 0)=false:=beq_eq_false_iff_ne.2 (by omega)
 have h0' : ¬ (cs.length : Int)=0:=by omega
 rw [if_neg (by omega)] at HF
 go_wp2_with fail
 go_loopg [3,5,15] cs.length (fun g s3 s5 s15 wr=> ∃ k : Nat,k≤cs.length∧g=cs.length - k∧s15=.int .i64 k∧Hid (OwnSt wr w.heap.size wr.heap.size s3 ((cs.take k).map fmtTm))∧Hid (Below w.heap.size w wr)∧w.heap.size≤wr.heap.size)
 case atStart=>exact ⟨0,Nat.zero_le _,rfl,rfl,OwnF.mono Ho.out hs1 (by rw [size_alloc];exact Nat.le_refl _),Hb1.out.trans ((below_alloc w1 _).mono hs1),by rw [size_alloc];omega⟩
 case round =>
  obtain ⟨k,hk,rfl,rfl,hO,hB,hsz⟩:=hrel
  obtain ⟨wo,rfl⟩ : ∃ x : World,x=wr:=⟨_,rfl⟩
  have HO:=Lib.hid hO.out
  have HB:=Lib.hid hB.out
  clear hO hB
  obtain ⟨p3,k3,e3,_,_⟩:=HO.out.shape
  subst e3
  have htl : ((cs.take k).map fmtTm).length=k:=by rw [List.length_map,List.length_take];omega
  have HO1:=HO.out
  unfold OwnSt at HO1
  rw [htl] at HO1 ⊢
  have Htl:=Lib.hid htl
  by_cases hlt : k < cs.length
  ·obtain ⟨b,rfl,hc⟩:=Hxc.out (by omega)
   obtain ⟨a0,a1⟩:=hc k hlt
   have c0:=cell_below HB.out a0
   have c1:=cell_below HB.out a1
   have hI:=(Hf.out k hlt).below HB.out
   obtain ⟨hl7,hent⟩:=tm_all (Hok.out k hlt)
   have h3:=(Hok.out k hlt).2.2.2.2
   have h4:=Hp.out k hlt
   have hsn:=map_take_snocC fmtTm cs k hlt
   obtain ⟨X,hX⟩ : ∃ X,X=cs.getD k clD:=⟨_,rfl⟩
   rw [← hX] at c1 hI hl7 hent h3 h4 hsn
   obtain ⟨xs,c⟩:=X
   dsimp only at c1 hI hl7 hent h3 h4
   obtain ⟨m,rfl⟩:=Int.eq_ofNat_of_zero_le h4
   obtain ⟨nz,hnz⟩ : ∃ nz,nz=shN xs xs.length:=⟨_,rfl⟩
   have hnl : nz≤7:=by rw [hnz,← hl7];exact shN_le xs _
   have hfc : fmtTm (xs,(m : Int))=fmtN m ++ 58 :: fmtIs (xs.take nz):=by rw [hnz];rfl
   rw [hfc] at hsn
   have Hsn:=Lib.hid hsn
   obtain ⟨s1,hs1'⟩ : ∃ s,s=bytA (fmtN m):=⟨_,rfl⟩
   obtain ⟨s2,hs2'⟩ : ∃ s,s=bytA (fmtIs (xs.take nz)):=⟨_,rfl⟩
   have hz1 : s1.size≤18:=by rw [hs1',bytA_size];exact fmtN_len m
   have hz2 : s2.size≤304:=by rw [hs2',bytA_size];exact fmtIs_len (by rw [List.length_take];omega)
   have hz3 : (9223372036854775807 < s1.size+1)=False:=eq_false (by omega)
   have hz4 : (9223372036854775807 < s1.size+1+s2.size)=False:=eq_false (by omega)
   have Hcl:=Lib.hid (bytA_pt m (fmtIs (xs.take nz)))
   rw [← hs1',← hs2'] at Hcl
   have HFi:=Lib.hid (fun W=>FormatInt_any m W (by omega))
   rw [← hs1'] at HFi
   obtain ⟨p1,k1,e1,_,_⟩:=id hI
   rw [e1] at c0 hI
   have HSh:=Lib.hid (fun W (hb : Below wo.heap.size wo W)=>show Calls Tryz.prog 34 #[.slice p1 xs.length k1] W fun e w'=>e=.returned (.slice p1 nz k1)∧Below W.heap.size W w' from
    (shortened_at p1 k1 xs W (hI.below hb)).mono fun e w' ⟨he,hq⟩=>⟨by rw [he,hnz],hq.below _⟩)
   have HFp:=Lib.hid (fun W (hb : Below wo.heap.size wo W)=>FormatInts_any (.slice p1 nz k1) (xs.take nz) W (ints_take (hI.below hb) (by omega)) (fun x hx=>hent x (List.mem_of_mem_take hx)) (by rw [List.length_take];omega))
   rw [← hs2'] at HFp
   have HO2:=Lib.hid HO1
   clear hc a0 a1 hX e1 hsn HO1 h3 h4 hent hfc hnz hl7 hs1' hs2' htl hI
   have hkz : (k : Int) < (cs.length : Int):=by omega
   go_wp2_with fail
   have Hba:=Lib.hid (below_alloc wo (.cells #[.slice p1 xs.length k1,.int .i64 (m : Int)] 68))
   have Zb:=Lib.hid (heap_alloc_top wo (.cells #[.slice p1 xs.length k1,.int .i64 (m : Int)] 68))
   generalize hwb : wo.alloc (.cells #[.slice p1 xs.length k1,.int .i64 (m : Int)] 68)=wb at *
   obtain ⟨d0,d1,df,dz⟩:=blk2 Zb.out
   have Hbb:=Lib.hid (HB.out.trans (Hba.out.mono HB.out.size))
   have hsb:=Hba.out.size
   have Hws:=Lib.hid (Nat.le_trans hsz hsb)
   clear hwb
   go_region_held3 (fun w'=>(w'.cell? ⟨wo.heap.size,0,none⟩=some (.slice p1 xs.length k1)∧w'.cell? ⟨wo.heap.size,1,none⟩=some (.int .i64 (m : Int)))∧Below w.heap.size wb w')
    (first | with_reducible assumption | exact ⟨⟨d0,d1⟩,(Below.refl _ _).drew⟩ | exact keepD Hws.out hb6 (by assumption) | exact keepD Hws.out hb5 (by assumption) | exact keepD Hws.out (below_alloc _ _) (by assumption) | exact keepG Hws.out hg7 HO2.out.blocks (Nat.le_refl _) (Nat.le_refl _) (by assumption))
    (first
      | (go_at_call 9;refine (HFi.out _).mono ?_;rintro e1 w2 ⟨rfl,rfl⟩)
      | (go_at_call 10;refine (HFp.out _ (Hba.out.trans (Hb5.out.mono hsb))).mono ?_;rintro e1 w2 ⟨rfl,hb6⟩;have Hb6:=Lib.hid (show Below wb.heap.size wb w2 from Hb5.out.trans (hb6.mono Hb5.out.size)))
      | (go_at_call 34;refine (HSh.out _ (Hba.out.trans ((Below.refl _ _).drew.mono hsb))).mono ?_;rintro e1 w2 ⟨rfl,hb5⟩;have Hb5:=Lib.hid (show Below wb.heap.size wb w2 from (Below.refl _ _).drew.trans hb5))
      | (refine step_append_F rfl (.tmp 19) (.tmp 29) 30 rfl 9 (.string ByteArray.empty) 16 Tryz.underlying30 info_str rfl w.heap.size wo.heap.size _ k (strV ((cs.take k).map fmtTm)) rfl (HO2.out.below (Hba.out.trans ((Hb6.out.trans ((below_alloc w2 _).mono Hb6.out.size)).mono hsb))) (by rw [size_alloc];have:=Hb6.out.size;have:=Hws.out;omega) (by rw [size_alloc];have:=Hb6.out.size;omega) _ 1 _ rfl (rd_one _ _ _ rfl) (fun j _=>rfl) (by unfold maxLen;omega) (by omega) ?_;intro v' w' hv hg7;have Hv:=Lib.hid hv;clear hv))
   have HO3:=Lib.hid (show OwnSt w' w.heap.size w'.heap.size v' ((cs.take k).map fmtTm ++ [fmtN m ++ 58 :: fmtIs (xs.take nz)]) from OwnSt.snoc (by rw [Htl.out,Hcl.out];exact Hv.out))
   rw [Hsn.out] at HO3
   have HB3:=Lib.hid (Hbb.out.trans (held_below2 (by assumption)))
   have hs3:=(held_below2 (by assumption) : Below w.heap.size wb w').size
   clear hg7
   go_wp2_with fail
   go_roundg (cs.length - (k+1))
   case measure=>omega
   case rel=>exact ⟨k+1,by omega,rfl,by go_num,HO3.out,HB3.out,Nat.le_trans Hws.out hs3⟩
  ·obtain rfl : k=cs.length:=by omega
   have HJ:=Lib.hid (Join_any (.slice p3 cs.length k3) (cs.map fmtTm) [44,32] wo (by
    have:=HO1.rd
    rw [List.take_length] at this
    rw [List.length_map]
    exact this) (by rw [List.length_map];omega) (by
    have:=join_len (m:=323) (cs.map fmtTm) [44,32] fun x hx=>by
     obtain ⟨y,hy,rfl⟩:=List.mem_map.1 hx
     obtain ⟨j,hj,rfl⟩:=List.getElem_of_mem hy
     have h1:=tm_all (Hok.out j hj)
     rw [List.getD_eq_getElem?_getD,List.getElem?_eq_getElem hj] at h1
     have h2:=fmtN_len (cs[j].2).toNat
     have h3:=fmtIs_len (xs:=cs[j].1.take (shN cs[j].1 cs[j].1.length)) (by rw [List.length_take];have:=h1.1;simp at this;omega)
     unfold fmtTm fmtI
     rw [List.length_append,List.length_cons]
     omega
    rw [List.length_map] at this
    simp at this
    omega))
   clear HO1 htl
   go_wp2_with fail
   refine HJ.out.mono ?_
   rintro e w2 ⟨rfl,hb2⟩
   have HB2:=Lib.hid (HB.out.trans (hb2.mono HB.out.size))
   clear hb2
   go_wp2_with fail
   go_ret
   rw [HF.out]
   exact ⟨rfl,HB2.out⟩
section
variable {P : Program}
theorem run_copy_z (w : World) (dT sT ty elem : TypeId) (g o dLen dCap : Nat) (a : Addr) (sLen sCap z k : Nat) (cur : Array Value) (t : TypeId) (cs : List Value)
 (hu : P.underlying dT=some (.slice elem)) (hs : (P.info? elem).map (·.size)=some z)
 (hg : w.heap[g]?=some (.cells cur t (0,0))) (hk : k=Nat.min sLen dLen) (hn : cs.length=k * z)
 (hsrc : ∀ j v,cs[j]?=some v→w.cell? (a.add j)=some v) (hfit : o+cs.length≤cur.size) (h1 : ∀ v ∈ cs,v.oneCell'=true) :
 (Builtin.copy_ #[dT,sT] ty #[.slice (some ⟨g,o,none⟩) dLen dCap,.slice (some a) sLen sCap]).run P w =
   .ok (goInt k) (w.setRow g (cur.toList.take o ++ cs ++ cur.toList.drop (o+cs.length)).toArray):=by
 have hl:=run_loadCells_list (P:=P) w a cs hsrc
 have hst:=run_storeCells_at P g o t cs 0 cur w hg (by simpa using hfit) h1
 cases hq : P.info? elem with
 | none=>simp [hq] at hs
 | some i =>
   have hi : i.size=z:=by simpa [hq] using hs
   rw [hn] at hl
   simp [Builtin.copy_,run_underlying hu,Builtin.lenOf,Builtin.firstCells,sizeOf,typeInfo,hq,hi,← hk,hl,hst]
theorem step_copy_z {w : World} {ops : Array Oper} {o : Oper} {a : Act} {K : Act→World→Prop} {Q : Exit→Act→World→Prop} {E : Prop} (hgd : o.guard=none) (d s : Operand) (t t' : TypeId)
 (ho : o.op=.call { callee:=.builtin .copy,args:=#[d,s],argTypes:=#[t,t'] }) (v u : Value) (hd : a.eval d=v) (hs : a.eval s=u) {v' : Value} {w' : World}
 (hr : (Builtin.copy_ #[t,t'] o.type #[v,u]).run P w=.ok v' w') (h : K (a.put o.dst v') w') : if Region.wanted o (yielded ops a.tmps)=true then Oper.wp P o a w K Q else E:=by
 have hw : Region.wanted o (yielded ops a.tmps)=true:=by simp [Region.wanted,hgd]
 rw [if_pos hw]
 unfold Oper.wp
 simp [execOp,ho,resolve,invoke,builtin,hd,hs,hr,Result.andThen]
 exact h
end
def insV (xs : List Value) (i : Nat) (a b : Value) : List Value:=xs.take (i * 2) ++ [a,b] ++ xs.drop (i * 2)
theorem info_prtI : (Tryz.prog.info? 78).map (fun i=>(i.zero,i.size,i.bytes))=some (some (.agg #[.slice none 0 0,.int .i64 0]),2,32):=by kernel_rfl
theorem insert_end (v : Value) (n lo hi vb vc : Nat) (xs : List Value) (a b : Value) (w : World) (ho : Own w lo hi 78 2 v n xs) (hlo : lo≤w.heap.size) (hn : n≤1000000)
 (h0 : w.cell? ⟨vb,0,none⟩=some a) (h1 : w.cell? ⟨vb,1,none⟩=some b) (o0 : a.oneCell'=true) (o1 : b.oneCell'=true) :
 Calls Tryz.prog 78 #[v,.int .i64 (n : Int),.slice (some ⟨vb,0,none⟩) 1 vc] w fun e w' =>
  ∃ u,e=.returned u∧Own w' lo w'.heap.size 78 2 u (n+1) (insV xs n a b)∧w.grownBy w' v.ownBlock∧(u.ownBlock=v.ownBlock ∨ u.ownBlock=some w.heap.size):=by
 obtain ⟨i,hi',hz,hsz,hby⟩:=info_partsS info_prtI
 have Hi:=Lib.hid hi'
 have Hz:=Lib.hid hz
 have Hsz:=Lib.hid hsz
 have Hby:=Lib.hid hby
 have Ho:=Lib.hid ho
 have hxl:=ho.len
 have Hxl:=Lib.hid hxl
 obtain ⟨p,cap,rfl,hnc,hcm⟩ : ∃ p cap,v=.slice p n cap∧n≤cap∧cap≤maxLen:=by
  rcases ho.1.2 with ⟨rfl,rfl⟩ | ⟨g,cap,cur,rfl,_,_,h1,h2,_⟩
  ·exact ⟨none,0,rfl,Nat.le_refl _,Nat.zero_le _⟩
  ·exact ⟨_,cap,rfl,h1,h2⟩
 have hpn : p=none→n=0∧cap=0:=fun e=>by
  subst e
  rcases ho.1.2 with ⟨e,rfl⟩ | ⟨g,cap',cur,e,_⟩
  ·injection e with _ _ e;exact ⟨rfl,e⟩
  ·injection e with e;cases e
 have hnn : ((n : Int) == (n : Int))=true:=by simp
 have hn0 : (n : Int)≤(n : Int):=Int.le_refl _
 have Hnews:=Lib.hid (show ∀ (j : Nat) (u : Value),[a,b][j]?=some u→w.cell? ((⟨vb,0,none⟩ : Addr).add j)=some u from fun j u hj=>by
  have hadd : (⟨vb,0,none⟩ : Addr).add j=⟨vb,0+j,none⟩:=by unfold Addr.add;split <;> simp_all
  rw [hadd,Nat.zero_add]
  match j,hj with
  | 0,hj=>simp at hj;subst hj;exact h0
  | 1,hj=>simp at hj;subst hj;exact h1
  | j+2,hj=>simp at hj)
 have Hone:=Lib.hid (show ∀ u ∈ [a,b],u.oneCell'=true from fun u hu=>by
  simp only [List.mem_cons,List.not_mem_nil,or_false] at hu
  rcases hu with rfl | rfl
  ·exact o0
  ·exact o1)
 have Hb1:=Lib.hid (show n+1≤maxLen by unfold maxLen;omega)
 have Hb2:=Lib.hid (show (n+1) * 32≤140737488355328 by omega)
 have Hins:=Lib.hid (show xs ++ [a,b]=insV xs n a b by
  unfold insV
  rw [List.take_of_length_le (by omega),List.drop_eq_nil_of_le (by omega),List.append_nil])
 have Hx:=Lib.hid (show ∀ v' w',w'.ownsRow lo 78 2 v' (n+1) (xs ++ [a,b])→Own w' lo w'.heap.size 78 2 v' (n+1) (insV xs n a b) from fun v' w' h=>by rw [← Hins.out];exact Own.of_row h)
 unfold maxLen at hcm
 clear hi' hz hsz hby ho h0 h1 o0 o1 hxl
 cases p with
 | none =>
   obtain ⟨rfl,rfl⟩:=hpn rfl
   go_enter Tryz.func78,Tryz.ntmps78
   go_wp2_with (at_builtin;go_must (refine wpList_append_own_at _ rfl (.tmp 23) (.tmp 24) 44 rfl lo 78 i _ 2 32 Tryz.underlying44 Hi.out Hz.out Hsz.out Hby.out rfl (by omega) _ 0 xs rfl Ho.out.1 ⟨vb,0,none⟩ 1 vc [a,b] rfl rfl Hnews.out Hone.out Hb1.out Hb2.out hlo ?_;intro v' w' h2 h3 _ h4))
   go_ret
   exact ⟨_,rfl,Hx.out _ _ h2,h3,h4⟩
 | some g =>
   clear hpn
   go_enter Tryz.func78,Tryz.ntmps78
   go_wp2_with (at_builtin;go_must (refine wpList_append_own_at _ rfl (.tmp 23) (.tmp 24) 44 rfl lo 78 i _ 2 32 Tryz.underlying44 Hi.out Hz.out Hsz.out Hby.out rfl (by omega) _ n xs rfl Ho.out.1 ⟨vb,0,none⟩ 1 vc [a,b] rfl rfl Hnews.out Hone.out Hb1.out Hb2.out hlo ?_;intro v' w' h2 h3 _ h4))
   all_goals
    go_ret
    exact ⟨_,rfl,Hx.out _ _ h2,h3,h4⟩
theorem shape_of {w : World} {g : Nat} {cur : Array Value} {t : TypeId} {fr : Nat × Nat} (h : w.heap[g]?=some (.cells cur t fr)) : w.shape? g=some (t,cur.size):=by
 simp [World.shape?,h]
theorem frz_of {w : World} {g : Nat} {cur : Array Value} {t : TypeId} (h : w.heap[g]?=some (.cells cur t (0,0))) (j : Nat) : w.frozen? ⟨g,j,none⟩=false:=free_of_blk h j
theorem addr_add (g o j : Nat) : (⟨g,o,none⟩ : Addr).add j=⟨g,o+j,none⟩:=by unfold Addr.add;split <;> simp_all
theorem insert_room (n lo hi g cap i vb vc : Nat) (xs : List Value) (a b : Value) (w : World) (ho : Own w lo hi 78 2 (.slice (some ⟨g,0,none⟩) n cap) n xs) (hi' : i < n) (hroom : n+1≤cap) (hn : n≤1000000)
 (hvb : w.heap[vb]?=some (.cells #[a,b] 78 (0,0))) (hne : vb ≠ g) (ox : ∀ u ∈ xs,u.oneCell'=true) (o0 : a.oneCell'=true) (o1 : b.oneCell'=true) :
 Calls Tryz.prog 78 #[.slice (some ⟨g,0,none⟩) n cap,.int .i64 (i : Int),.slice (some ⟨vb,0,none⟩) 1 vc] w fun e w' =>
  ∃ u,e=.returned u∧Own w' lo w'.heap.size 78 2 u (n+1) (insV xs i a b)∧w.grownBy w' (some g)∧(u.ownBlock=some g ∨ u.ownBlock=some w.heap.size):=by
 obtain ⟨iM,hiM,hz,hsz,hby⟩:=info_partsS info_prtI
 have hs2 : (Tryz.prog.info? 78).map (·.size)=some 2:=by rw [hiM];simp [hsz]
 have hxl:=ho.len
 obtain ⟨cur,hlg,hg,hcm,hcs,htake⟩ : ∃ cur,lo≤g∧w.heap[g]?=some (.cells cur 78 (0,0))∧cap≤maxLen∧cur.size=cap * 2∧cur.toList.take (n * 2)=xs:=by
  rcases ho.1.2 with ⟨e,_⟩ | ⟨g',cap',cur,e,q1,q2,_,q4,q5,q6⟩
  ·injection e with e;cases e
  ·injection e with e1 _ e3
   injection e1 with e1
   injection e1 with e1
   subst e1 e3
   exact ⟨cur,q1,q2,q4,q5,q6⟩
 have hgw : g < w.heap.size:=(ho.1.lt g rfl).2
 unfold maxLen at hcm
 have hcl : cur.toList.length=cap * 2:=by simpa using hcs
 obtain ⟨c1,hc1⟩ : ∃ c1 : List Value,c1=cur.toList.take ((i+1) * 2) ++ xs.drop (i * 2) ++ cur.toList.drop ((i+1) * 2+(n - i) * 2):=⟨_,rfl⟩
 have hdl : (xs.drop (i * 2)).length=(n - i) * 2:=by rw [List.length_drop,hxl];omega
 have hcp1 : ∀ ty dc sc,(Builtin.copy_ #[44,44] ty #[.slice (some ⟨g,(i+1) * 2,none⟩) (n+1 - (i+1)) dc,.slice (some ⟨g,i * 2,none⟩) (n+1 - i) sc]).run Tryz.prog w.drew=.ok (goInt ((n - i : Nat) : Int)) (w.drew.setRow g c1.toArray):=fun ty dc sc=>by
  have h:=run_copy_z (P:=Tryz.prog) w.drew 44 44 ty 78 g ((i+1) * 2) (n+1 - (i+1)) dc ⟨g,i * 2,none⟩ (n+1 - i) sc 2 (n - i) cur 78 (xs.drop (i * 2)) Tryz.underlying44 hs2 hg
   (by simp only [Nat.min_def];split <;> omega) hdl (fun j u hj=>by
     rw [addr_add]
     rw [List.getElem?_drop,← htake,List.getElem?_take] at hj
     split at hj
     ·refine cell_of_blk (w:=w.drew) hg ?_
      rw [← hj];simp
     ·cases hj) (by rw [hdl,hcs];omega) (fun u hu=>ox u (List.mem_of_mem_drop hu))
  rw [hdl,← hc1] at h
  exact h
 have hc1l : c1.length=cap * 2:=by
  rw [hc1]
  simp only [List.length_append,List.length_take,List.length_drop,hcl,hxl]
  omega
 have hg1 : (w.drew.setRow g c1.toArray).heap[g]?=some (.cells c1.toArray 78 (0,0)):=setRow_heap w.drew g cur _ _ _ hg
 obtain ⟨c2,hc2⟩ : ∃ c2 : List Value,c2=c1.take (i * 2) ++ [a,b] ++ c1.drop (i * 2+2):=⟨_,rfl⟩
 have hcp2 : ∀ (W : World),W.heap=(w.drew.setRow g c1.toArray).heap → ∀ ty dc,(Builtin.copy_ #[44,44] ty #[.slice (some ⟨g,i * 2,none⟩) (n+1 - i) dc,.slice (some ⟨vb,0,none⟩) 1 vc]).run Tryz.prog W=.ok (goInt 1) (W.setRow g c2.toArray):=fun W hW ty dc=>by
  have hvb1 : W.heap[vb]?=some (.cells #[a,b] 78 (0,0)):=by rw [hW,setRow_other _ _ _ _ hne];exact hvb
  have h:=run_copy_z (P:=Tryz.prog) W 44 44 ty 78 g (i * 2) (n+1 - i) dc ⟨vb,0,none⟩ 1 vc 2 1 c1.toArray 78 [a,b] Tryz.underlying44 hs2 (by rw [hW];exact hg1)
   (by simp only [Nat.min_def];split <;> omega) rfl (fun j u hj=>by
     rw [addr_add,Nat.zero_add]
     refine cell_of_blk hvb1 ?_
     rw [← hj];simp) (by rw [List.size_toArray,hc1l];simp;omega) (fun u hu=>by
     simp only [List.mem_cons,List.not_mem_nil,or_false] at hu
     rcases hu with rfl | rfl
     ·exact o0
     ·exact o1)
  change _=Result.ok (goInt 1) (W.setRow g (List.take (i * 2) c1 ++ [a,b] ++ List.drop (i * 2+2) c1).toArray) at h
  rw [← hc2] at h
  exact h
 have hres : ∀ (W : World),W.heap=(w.drew.setRow g c1.toArray).heap→(W.setRow g c2.toArray).heap[g]?=some (.cells c2.toArray 78 (0,0)):=fun W hW=>setRow_heap W g c1.toArray _ _ _ (by rw [hW];exact hg1)
 have hc2l : c2.length=cap * 2:=by
  rw [hc2]
  simp only [List.length_append,List.length_take,List.length_drop,hc1l,List.length_cons,List.length_nil]
  omega
 have htk : c2.take ((n+1) * 2)=insV xs i a b:=by
  have e1 : c1.take (i * 2)=xs.take (i * 2):=by
   rw [hc1,List.append_assoc,List.take_append_of_le_length (by rw [List.length_take,hcl];omega),List.take_take,← htake,List.take_take]
   congr 1
   omega
  have e2 : c1.drop (i * 2+2)=xs.drop (i * 2) ++ cur.toList.drop ((i+1) * 2+(n - i) * 2):=by
   rw [hc1,List.append_assoc]
   exact List.drop_left' (by rw [List.length_take,hcl];omega)
  rw [hc2,e1,e2]
  unfold insV
  rw [← List.append_assoc]
  exact List.take_left' (by simp only [List.length_append,List.length_take,List.length_cons,List.length_nil,hdl,hxl];omega)
 have hov : ∀ lb cb,(callFunc 113 #[.slice (some ⟨vb,0,none⟩) 1 vc,.slice (some ⟨g,(i+1) * 2,none⟩) lb cb]).run Tryz.prog w=.ok (.value (.bool false)) w:=fun lb cb=>by
  rw [run_callFunc_extern Tryz.func113 (by kernel_rfl) (by kernel_rfl) (by kernel_rfl) (e:=Extern.SlicesOverlaps.overlaps #[44,44] #[4]) (by kernel_rfl),
   Lib.run_overlaps_apart w 44 4 78 Tryz.underlying44 2 (fun w=>by kernel_rfl) ⟨vb,0,none⟩ ⟨g,(i+1) * 2,none⟩ 1 vc lb cb hne _ _ _ _ (shape_of hvb) (shape_of hg) (by omega) (frz_of hvb 0) (frz_of hvb _)]
  rfl
 have HC1:=Lib.hid hcp1
 have HC2:=Lib.hid hcp2
 have HR:=Lib.hid hres
 have HT:=Lib.hid htk
 have Hc2l:=Lib.hid hc2l
 have Hhg:=Lib.hid hg
 have hz2 : ¬ ((i : Int)=(n : Int)):=by omega
 have hz3 : ((i : Int) == (n : Int))=false:=by simp;omega
 have hcr : ¬ ((cap : Int) < (n : Int)+1):=by omega
 have hw1 : IntKind.i64.wrap ((i : Int)+1)=(i : Int)+1:=k64 (by omega) (by omega)
 have htn : ((i : Int)+1).toNat=i+1:=by omega
 have hb1 : (0 : Int)≤(i : Int)+1:=by omega
 have hb2 : ¬ (cap=i+1):=by omega
 have hb4 : ¬ (cap=i):=by omega
 have hin : (i : Int)≤(n : Int):=by omega
 have hin2 : (i : Int)≤(n : Int)+1:=by omega
 have hnt : ((n : Int)+1).toNat=n+1:=by omega
 have hnc : (n : Int)+1≤(cap : Int):=by omega
 clear ho hiM hz hsz hby hs2 hxl hg htake hcl hc1 hdl hcp1 hc1l hg1 hc2 hcp2 hres hc2l htk ox o0 o1 hvb hcs
 go_enter Tryz.func78,Tryz.ntmps78
 go_wp2_with (simp only [hov])
 go_region_law (refine step_copy_z rfl (.tmp 73) (.tmp 76) 44 44 rfl (.slice (some ⟨g,(i+1) * 2,none⟩) (n+1 - (i+1)) (cap - (i+1))) (.slice (some ⟨g,i * 2,none⟩) (n+1 - i) (cap - i)) (by simp [Act.eval,Act.put]) (by simp [Act.eval,Act.put]) (HC1.out _ _ _) ?_)
 go_wp2_with fail
 rw [HC2.out _ rfl]
 go_wp2_with fail
 go_ret
 have h1:=HR.out (w.drew.setRow g c1.toArray) rfl
 have hsz : ((w.drew.setRow g c1.toArray).setRow g c2.toArray).heap.size=w.heap.size:=by simp [World.setRow]
 have ho2 : Own ((w.drew.setRow g c1.toArray).setRow g c2.toArray) lo ((w.drew.setRow g c1.toArray).setRow g c2.toArray).heap.size 78 2 (.slice (some ⟨g,0,none⟩) (n+1) cap) (n+1) (insV xs i a b):=by
  refine Own.of_row ⟨?_,.inr ⟨g,cap,c2.toArray,rfl,hlg,h1,hroom,by unfold maxLen;omega,?_,?_⟩⟩
  ·rw [← HT.out,List.length_take,Hc2l.out];omega
  ·simpa using Hc2l.out
  ·exact HT.out
 refine ⟨_,rfl,ho2,?_,.inl rfl⟩
 refine ⟨rfl,rfl,rfl,by rw [hsz];exact Nat.le_refl _,fun k hk hne=> ?_⟩
 have hkg : k ≠ g:=fun e=>hne (by rw [e])
 rw [setRow_other _ _ _ _ hkg,setRow_other _ _ _ _ hkg]
 rfl
theorem insert_grow (n lo hi g cap i vb vc : Nat) (xs : List Value) (a b : Value) (w : World) (ho : Own w lo hi 78 2 (.slice (some ⟨g,0,none⟩) n cap) n xs) (hi' : i < n) (hroom : cap < n+1) (hn : n≤1000000) (hlo : lo≤w.heap.size)
 (hvb : w.heap[vb]?=some (.cells #[a,b] 78 (0,0))) (ox : ∀ u ∈ xs,u.oneCell'=true) (o0 : a.oneCell'=true) (o1 : b.oneCell'=true) :
 Calls Tryz.prog 78 #[.slice (some ⟨g,0,none⟩) n cap,.int .i64 (i : Int),.slice (some ⟨vb,0,none⟩) 1 vc] w fun e w' =>
  ∃ u,e=.returned u∧Own w' lo w'.heap.size 78 2 u (n+1) (insV xs i a b)∧w.grownBy w' (some g)∧(u.ownBlock=some g ∨ u.ownBlock=some w.heap.size):=by
 obtain ⟨iM,hiM,hz,hsz,hby⟩:=info_partsS info_prtI
 have hs2 : (Tryz.prog.info? 78).map (·.size)=some 2:=by rw [hiM];simp [hsz]
 have hxl:=ho.len
 obtain ⟨cur,hg,hnc,hcs,htake⟩ : ∃ cur,w.heap[g]?=some (.cells cur 78 (0,0))∧n≤cap∧cur.size=cap * 2∧cur.toList.take (n * 2)=xs:=by
  rcases ho.1.2 with ⟨e,_⟩ | ⟨g',cap',cur,e,q1,q2,q3,q4,q5,q6⟩
  ·injection e with e;cases e
  ·injection e with e1 _ e3
   injection e1 with e1
   injection e1 with e1
   subst e1 e3
   exact ⟨cur,q2,q3,q5,q6⟩
 have hgw : g < w.heap.size:=(ho.1.lt g rfl).2
 have hvw : vb < w.heap.size:=by
  rcases Nat.lt_or_ge vb w.heap.size with h | h
  ·exact h
  ·rw [Array.getElem?_eq_none h] at hvb;cases hvb
 obtain rfl : cap=n:=by omega
 have hsrc : ∀ j u,xs[j]?=some u→w.cell? ⟨g,j,none⟩=some u:=fun j u hj=>by
  rw [← htake,List.getElem?_take] at hj
  split at hj
  ·refine cell_of_blk hg ?_
   rw [← hj];simp
  ·cases hj
 obtain ⟨z,hzd⟩ : ∃ z : Value,z=.agg #[.slice none 0 0,.int .i64 0]:=⟨_,rfl⟩
 have hzs : z.cells.size=2:=by rw [hzd];rfl
 rw [← hzd] at hz
 have hold : (Builtin.firstCells iM.size i (.slice (some ⟨g,0,none⟩) i cap)).run Tryz.prog w.drew=.ok (xs.take (i * 2)).toArray w.drew:=by
  rw [hsz]
  exact run_firstCells_some w.drew 2 i ⟨g,0,none⟩ i cap (xs.take (i * 2)) (by rw [List.length_take,hxl];omega) (fun j u hj=>by
   rw [addr_add,Nat.zero_add]
   rw [List.getElem?_take] at hj
   split at hj
   ·exact hsrc j u hj
   ·cases hj)
 have hik : i+(cap+1 - i)=cap+1:=by omega
 have hkk : (cap : Int)+1 - (i : Int)=((cap+1 - i : Nat) : Int):=by omega
 obtain ⟨G,hG⟩ : ∃ G,G=grownCap w (cap+1) cap 78:=⟨_,rfl⟩
 obtain ⟨ROW,hROW⟩ : ∃ ROW : Array Value,ROW=(xs.take (i * 2)).toArray ++ Builtin.zeroCells z.cells (cap+1 - i) ++ Builtin.zeroCells z.cells (G - (cap+1)):=⟨_,rfl⟩
 have hrz : ∀ ty,(Builtin.append_ #[44,3] ty #[.slice (some ⟨g,0,none⟩) i cap,.int .i64 ((cap : Int)+1 - (i : Int))]).run Tryz.prog w =
  .ok (.slice (some ⟨w.heap.size,0,none⟩) (cap+1) G) (w.drew.alloc (.cells ROW 78)):=fun ty=>by
  have h:=Lib.run_append_grow_zeros (P:=Tryz.prog) w 44 3 ty 78 iM z .i64 .i64 Tryz.underlying44 Tryz.underlying3 hiM hz (some ⟨g,0,none⟩) i cap (xs.take (i * 2)) hold (cap+1 - i) (by omega) (by omega) (by omega) (by omega) (by rw [hby];omega) (by rw [hby,hik];exact growslice_fits (by omega) (by omega))
  rw [hik,← hG,← hROW] at h
  rw [hkk]
  exact h
 have hGn : cap+1≤G:=by rw [hG];exact grownCap_ge w _ _ _
 have hGm : G≤9223372036854775807:=by
  have:=grownCap_le_maxLen w (cap+1) cap 78 (by unfold maxLen;omega)
  rw [← hG] at this
  unfold maxLen at this
  omega
 have hRs : ROW.size=G * 2:=by
  rw [hROW]
  simp only [Array.size_append,List.size_toArray,List.length_take,hxl,size_zeroCells,hzs]
  omega
 have hRt : ROW.toList.take (i * 2)=xs.take (i * 2):=by
  rw [hROW]
  simp only [Array.toList_append,List.append_assoc]
  exact List.take_left' (by simp only [List.length_take,hxl];omega)
 have hdl : (xs.drop (i * 2)).length=(cap - i) * 2:=by rw [List.length_drop,hxl];omega
 obtain ⟨W1,hW1⟩ : ∃ W1,W1=w.drew.alloc (.cells ROW 78):=⟨_,rfl⟩
 have hg1 : W1.heap[w.heap.size]?=some (.cells ROW 78 (0,0)):=by rw [hW1];exact heap_alloc_top w.drew _
 have hold1 : ∀ k,k < w.heap.size→W1.heap[k]?=w.heap[k]?:=fun k hk=>by rw [hW1];exact heap_alloc_low w.drew _ hk
 obtain ⟨c1,hc1⟩ : ∃ c1 : List Value,c1=ROW.toList.take (i * 2) ++ [a,b] ++ ROW.toList.drop (i * 2+2):=⟨_,rfl⟩
 have hRl : ROW.toList.length=G * 2:=by simpa using hRs
 have hc1l : c1.length=G * 2:=by
  rw [hc1]
  simp only [List.length_append,List.length_take,List.length_drop,hRl,List.length_cons,List.length_nil]
  omega
 have hcpA : ∀ (W : World),W.heap=W1.heap → ∀ ty dc,(Builtin.copy_ #[44,44] ty #[.slice (some ⟨w.heap.size,i * 2,none⟩) (cap+1 - i) dc,.slice (some ⟨vb,0,none⟩) 1 vc]).run Tryz.prog W=.ok (goInt 1) (W.setRow w.heap.size c1.toArray):=fun W hW ty dc=>by
  have hvb1 : W.heap[vb]?=some (.cells #[a,b] 78 (0,0)):=by rw [hW,hold1 vb hvw];exact hvb
  have h:=run_copy_z (P:=Tryz.prog) W 44 44 ty 78 w.heap.size (i * 2) (cap+1 - i) dc ⟨vb,0,none⟩ 1 vc 2 1 ROW 78 [a,b] Tryz.underlying44 hs2 (by rw [hW];exact hg1)
   (by simp only [Nat.min_def];split <;> omega) rfl (fun j u hj=>by
     rw [addr_add,Nat.zero_add]
     refine cell_of_blk hvb1 ?_
     rw [← hj];simp) (by rw [hRs];simp;omega) (fun u hu=>by
     simp only [List.mem_cons,List.not_mem_nil,or_false] at hu
     rcases hu with rfl | rfl
     ·exact o0
     ·exact o1)
  change _=Result.ok (goInt 1) (W.setRow w.heap.size (List.take (i * 2) ROW.toList ++ [a,b] ++ List.drop (i * 2+2) ROW.toList).toArray) at h
  rw [← hc1] at h
  exact h
 have hg2 : (W1.setRow w.heap.size c1.toArray).heap[w.heap.size]?=some (.cells c1.toArray 78 (0,0)):=setRow_heap W1 _ ROW _ _ _ hg1
 obtain ⟨c2,hc2⟩ : ∃ c2 : List Value,c2=c1.take ((i+1) * 2) ++ xs.drop (i * 2) ++ c1.drop ((i+1) * 2+(cap - i) * 2):=⟨_,rfl⟩
 have hcpB : ∀ (W : World),W.heap=(W1.setRow w.heap.size c1.toArray).heap → ∀ ty dc sc,(Builtin.copy_ #[44,44] ty #[.slice (some ⟨w.heap.size,(i+1) * 2,none⟩) (cap+1 - (i+1)) dc,.slice (some ⟨g,i * 2,none⟩) (cap - i) sc]).run Tryz.prog W=.ok (goInt ((cap - i : Nat) : Int)) (W.setRow w.heap.size c2.toArray):=fun W hW ty dc sc=>by
  have hgW : W.heap[g]?=some (.cells cur 78 (0,0)):=by rw [hW,setRow_other _ _ _ _ (by omega),hold1 g hgw];exact hg
  have h:=run_copy_z (P:=Tryz.prog) W 44 44 ty 78 w.heap.size ((i+1) * 2) (cap+1 - (i+1)) dc ⟨g,i * 2,none⟩ (cap - i) sc 2 (cap - i) c1.toArray 78 (xs.drop (i * 2)) Tryz.underlying44 hs2 (by rw [hW];exact hg2)
   (by simp only [Nat.min_def];split <;> omega) hdl (fun j u hj=>by
     rw [addr_add]
     rw [List.getElem?_drop,← htake,List.getElem?_take] at hj
     split at hj
     ·refine cell_of_blk hgW ?_
      rw [← hj];simp
     ·cases hj) (by rw [List.size_toArray,hc1l,hdl];omega) (fun u hu=>ox u (List.mem_of_mem_drop hu))
  rw [hdl] at h
  change _=Result.ok (goInt ((cap - i : Nat) : Int)) (W.setRow w.heap.size (List.take ((i+1) * 2) c1 ++ List.drop (i * 2) xs ++ List.drop ((i+1) * 2+(cap - i) * 2) c1).toArray) at h
  rw [← hc2] at h
  exact h
 have hc2l : c2.length=G * 2:=by
  rw [hc2]
  simp only [List.length_append,List.length_take,List.length_drop,hc1l,hxl]
  omega
 have htk : c2.take ((cap+1) * 2)=insV xs i a b:=by
  have e1 : c1.take ((i+1) * 2)=xs.take (i * 2) ++ [a,b]:=by
   rw [hc1,hRt]
   exact List.take_left' (by simp only [List.length_append,List.length_take,List.length_cons,List.length_nil,hxl];omega)
  rw [hc2,e1]
  unfold insV
  exact List.take_left' (by simp only [List.length_append,List.length_take,List.length_cons,List.length_nil,hdl,hxl];omega)
 have HZ:=Lib.hid hrz
 have HA:=Lib.hid hcpA
 have HB:=Lib.hid hcpB
 have HW1:=Lib.hid hW1
 have HT:=Lib.hid htk
 have Hc2l:=Lib.hid hc2l
 have Hg2:=Lib.hid hg2
 have Hold:=Lib.hid hold1
 have hz2 : ¬ ((i : Int)=(cap : Int)):=by omega
 have hz3 : ((i : Int) == (cap : Int))=false:=by simp;omega
 have hcr : (cap : Int) < (cap : Int)+1:=by omega
 have hw1 : IntKind.i64.wrap ((i : Int)+1)=(i : Int)+1:=k64 (by omega) (by omega)
 have htn : ((i : Int)+1).toNat=i+1:=by omega
 have hb1 : (0 : Int)≤(i : Int)+1:=by omega
 have hb2 : ¬ (G=i+1):=by omega
 have hb3 : ¬ (G=i):=by omega
 have hb4 : ¬ (cap=i):=by omega
 have hin : (i : Int)≤(cap : Int):=by omega
 have hin2 : (i : Int)+1≤(cap : Int)+1:=by omega
 clear ho hiM hz hsz hby hs2 hxl hg htake hc1 hdl hrz hcpA hcpB hc1l hg1 hg2 hc2 hc2l htk ox o0 o1 hvb hcs hsrc hzs hold hRs hRt hRl hik hkk hold1 hG hROW hzd hW1
 go_enter Tryz.func78,Tryz.ntmps78
 go_wp2_with (at_builtin;go_must (refine Lib.wpList_append_run _ rfl (.tmp 34) (.tmp 39) 44 3 rfl _ _ rfl rfl _ _ (HZ.out _) ?_))
 rw [HA.out _ (by rw [HW1.out];rfl)]
 go_wp2_with fail
 go_region_law (refine step_copy_z rfl (.tmp 50) (.tmp 53) 44 44 rfl (.slice (some ⟨w.heap.size,(i+1) * 2,none⟩) (cap+1 - (i+1)) (G - (i+1))) (.slice (some ⟨g,i * 2,none⟩) (cap - i) (cap - i)) (by simp [Act.eval,Act.put]) (by simp [Act.eval,Act.put]) (HB.out _ (by rw [HW1.out];rfl) _ _ _) ?_)
 go_wp2_with fail
 go_ret
 obtain ⟨W2,hW2⟩ : ∃ W2,W2=((w.alloc (.cells ROW 78)).drew.setRow w.heap.size c1.toArray).drew:=⟨_,rfl⟩
 rw [← hW2]
 have hW2h : W2.heap=(W1.setRow w.heap.size c1.toArray).heap:=by rw [hW2,HW1.out];rfl
 have h1 : (W2.setRow w.heap.size c2.toArray).heap[w.heap.size]?=some (.cells c2.toArray 78 (0,0)):=setRow_heap W2 _ c1.toArray _ _ _ (by rw [hW2h];exact Hg2.out)
 have hsz : (W2.setRow w.heap.size c2.toArray).heap.size=w.heap.size+1:=by
  have e : (W2.setRow w.heap.size c2.toArray).heap.size=W2.heap.size:=by simp [World.setRow]
  rw [e,hW2h,HW1.out]
  simp [World.setRow]
 have ho2 : Own (W2.setRow w.heap.size c2.toArray) lo (W2.setRow w.heap.size c2.toArray).heap.size 78 2 (.slice (some ⟨w.heap.size,0,none⟩) (cap+1) G) (cap+1) (insV xs i a b):=by
  refine Own.of_row ⟨?_,.inr ⟨w.heap.size,G,c2.toArray,rfl,hlo,h1,hGn,by unfold maxLen;omega,?_,?_⟩⟩
  ·rw [← HT.out,List.length_take,Hc2l.out];omega
  ·simpa using Hc2l.out
  ·exact HT.out
 refine ⟨_,rfl,ho2,?_,.inr rfl⟩
 refine ⟨by rw [hW2];rfl,by rw [hW2];rfl,by rw [hW2];rfl,by rw [hsz];omega,fun k hk _=> ?_⟩
 rw [setRow_other _ _ _ _ (by omega),hW2h,setRow_other _ _ _ _ (by omega)]
 exact Hold.out k hk
theorem insert_any (v : Value) (n lo hi i vb vc : Nat) (xs : List Value) (a b : Value) (w : World) (ho : Own w lo hi 78 2 v n xs) (hi' : i≤n) (hn : n≤1000000) (hlo : lo≤w.heap.size)
 (hvb : w.heap[vb]?=some (.cells #[a,b] 78 (0,0))) (hne : v.ownBlock ≠ some vb) (ox : ∀ u ∈ xs,u.oneCell'=true) (o0 : a.oneCell'=true) (o1 : b.oneCell'=true) :
 Calls Tryz.prog 78 #[v,.int .i64 (i : Int),.slice (some ⟨vb,0,none⟩) 1 vc] w fun e w' =>
  ∃ u,e=.returned u∧Own w' lo w'.heap.size 78 2 u (n+1) (insV xs i a b)∧w.grownBy w' v.ownBlock∧(u.ownBlock=v.ownBlock ∨ u.ownBlock=some w.heap.size):=by
 by_cases hin : i=n
 ·subst hin
  exact insert_end v i lo hi vb vc xs a b w ho hlo hn (cell_of_blk hvb (j:=0) rfl) (cell_of_blk hvb (j:=1) rfl) o0 o1
 ·rcases ho.1.2 with ⟨_,e⟩ | ⟨g,cap,cur,e,_⟩
  ·omega
  ·subst e
   have hne2 : vb ≠ g:=fun e=>hne (by rw [e];rfl)
   by_cases hc : n+1≤cap
   ·exact insert_room n lo hi g cap i vb vc xs a b w ho (by omega) hc hn hvb hne2 ox o0 o1
   ·exact insert_grow n lo hi g cap i vb vc xs a b w ho (by omega) (by omega) hn hlo hvb ox o0 o1
def OwnPl (w : World) (lo hi : Nat) (v : Value) (cs : List Cls) : Prop :=
 ∃ g,OwnS w lo hi 78 2 v cs.length (clF cs g) ∧ ∀ i,i < cs.length→OwnI 3 w lo hi (g i) (cs.getD i clD).1
theorem OwnPl.rd {w : World} {lo hi : Nat} {v : Value} {cs : List Cls} (h : OwnPl w lo hi v cs) : RdCl w v cs:=by
 obtain ⟨g,h1,h2⟩:=h
 exact ⟨g,h1.rd,fun i hi=>(h2 i hi).ints⟩
theorem OwnPl.below {w w' : World} {lo hi : Nat} {v : Value} {cs : List Cls} (h : OwnPl w lo hi v cs) (hb : Below w.heap.size w w') : OwnPl w' lo hi v cs:=by
 obtain ⟨g,h1,h2⟩:=h
 exact ⟨g,h1.below hb,fun i hi=>(h2 i hi).below hb⟩
theorem OwnPl.mono {w : World} {lo hi lo' hi' : Nat} {v : Value} {cs : List Cls} (h : OwnPl w lo hi v cs) (a : lo'≤lo) (b : hi≤hi') : OwnPl w lo' hi' v cs:=by
 obtain ⟨g,h1,h2⟩:=h
 exact ⟨g,h1.mono a b,fun i hi=>(h2 i hi).mono a b⟩
theorem OwnPl.setCell {w : World} {lo hi : Nat} {v : Value} {cs : List Cls} (h : OwnPl w lo hi v cs) {a : Addr} (ho : a.block < lo ∨ hi≤a.block) (u : Value) : OwnPl (w.setCell a u) lo hi v cs:=by
 obtain ⟨g,h1,h2⟩:=h
 exact ⟨g,h1.setCell ho u,fun i hi=>(h2 i hi).setCell ho u⟩
theorem OwnPl.shape {w : World} {lo hi : Nat} {v : Value} {cs : List Cls} (h : OwnPl w lo hi v cs) : ∃ p cap,v=.slice p cs.length cap∧cs.length≤cap∧cap≤maxLen:=by
 obtain ⟨g,h1,_⟩:=h
 obtain ⟨p,cap,e,h2,h3,_⟩:=h1.shape
 exact ⟨p,cap,e,h2,h3⟩
def OwnPd (w : World) (lo hi : Nat) (v : Value) (cs : List Cls) : Prop :=
 ∃ f,OwnS w lo hi 78 2 v cs.length (clF cs f)∧(∀ i,i < cs.length→OwnI 3 w lo hi (f i) (cs.getD i clD).1) ∧
   ∀ i j,i < j→j < cs.length → ∀ k,(f i).ownBlock=some k→(f j).ownBlock ≠ some k
namespace OwnPd
variable {w w' : World} {lo hi : Nat} {v : Value} {cs : List Cls}
theorem cl (h : OwnPd w lo hi v cs) : OwnPl w lo hi v cs:=by
 obtain ⟨f,h1,h2,_⟩:=h
 exact ⟨f,h1,h2⟩
theorem rd (h : OwnPd w lo hi v cs) : RdCl w v cs:=h.cl.rd
theorem keep (h : OwnPd w lo hi v cs) (hb : ∀ k,lo≤k→k < hi→k < w.heap.size→w'.heap[k]?=w.heap[k]?) : OwnPd w' lo hi v cs:=by
 obtain ⟨f,h1,h2,h3⟩:=h
 exact ⟨f,h1.keep hb,fun i hi=>Own.keep (h2 i hi) hb,h3⟩
theorem below (h : OwnPd w lo hi v cs) (hb : Below w.heap.size w w') : OwnPd w' lo hi v cs:=h.keep fun k _ _ h3=>hb.block k h3
theorem frm {lo' hi' : Nat} (h : OwnPd w lo hi v cs) (hb : Frm lo' hi' w w') (ho : hi≤lo' ∨ hi'≤lo) : OwnPd w' lo hi v cs:=h.keep fun k h1 h2 h3=>hb.block k h3 (by omega)
theorem mono {lo' hi' : Nat} (h : OwnPd w lo hi v cs) (h1 : lo'≤lo) (h2 : hi≤hi') : OwnPd w lo' hi' v cs:=by
 obtain ⟨f,g1,g2,g3⟩:=h
 exact ⟨f,g1.mono h1 h2,fun i hi=>(g2 i hi).mono h1 h2,g3⟩
theorem shape (h : OwnPd w lo hi v cs) : ∃ p cap,v=.slice p cs.length cap∧cs.length≤cap∧cap≤maxLen:=h.cl.shape
theorem nil (w : World) (lo hi : Nat) : OwnPd w lo hi (.slice none 0 0) []:=⟨fun _=>undef,OwnS.nil _ _ _ _ _ _,fun i hi=>absurd hi (Nat.not_lt_zero _),fun i j _ hj=>absurd hj (Nat.not_lt_zero _)⟩
theorem made0 (w : World) : OwnPd (w.alloc (.cells #[] 78)) w.heap.size (w.heap.size+1) (.slice (some ⟨w.heap.size,0,none⟩) 0 0) [] :=
 ⟨fun _=>undef,OwnS.made0 _ _ _ _,fun i hi=>absurd hi (Nat.not_lt_zero _),fun i j _ hj=>absurd hj (Nat.not_lt_zero _)⟩
theorem getD_snoc {cs : List Cls} {m : Cls} {i : Nat} : (cs ++ [m]).getD i clD=if i < cs.length then cs.getD i clD else if i=cs.length then m else clD:=by
 by_cases h : i < cs.length
 ·rw [if_pos h];simp [List.getD_eq_getElem?_getD,List.getElem?_append_left h]
 ·rw [if_neg h]
  by_cases e : i=cs.length
  ·subst e;simp [List.getD_eq_getElem?_getD]
  ·rw [if_neg e];simp [List.getD_eq_getElem?_getD];rw [List.getElem?_eq_none (by simp;omega)];rfl
theorem snoc {v' x : Value} {m : Cls} {mid : Nat} {f : Nat→Value} (g1 : OwnS w lo mid 78 2 v cs.length (clF cs f)) (g2 : ∀ i,i < cs.length→OwnI 3 w lo mid (f i) (cs.getD i clD).1)
 (g3 : ∀ i j,i < j→j < cs.length → ∀ k,(f i).ownBlock=some k→(f j).ownBlock ≠ some k) (hx : OwnI 3 w mid hi x m.1) (hm : lo≤mid) (hmh : mid≤hi)
 (hg : w.grownBy w' v.ownBlock) (hsz : hi≤w'.heap.size)
 (hv : OwnS w' lo w'.heap.size 78 2 v' (cs.length+1) (fun i=>if i < cs.length then clF cs f i else fun j=>match j with | 0=>x | _=>.int .i64 m.2)) : OwnPd w' lo w'.heap.size v' (cs ++ [m]):=by
 have hrow : ∀ (y : Value) (ys : List Int) (lo1 hi1 : Nat),OwnI 3 w lo1 hi1 y ys→OwnI 3 w' lo1 hi1 y ys:=fun y ys lo1 hi1 hy =>
  ⟨ownsRow_of_block hy.1 fun k hk=>hg.block k (Own.block hy hk).2.2 fun e=>ne_of_kinds (g1.kind k e.symm) (OwnI.kind hy k hk) (by decide),hy.2⟩
 refine ⟨fun i=>if i < cs.length then f i else x,by
  rw [List.length_append]
  refine hv.congr fun i hi j hj=> ?_
  by_cases h : i < cs.length
  ·rw [if_pos h]
   unfold clF
   rw [getD_snoc,if_pos h]
   have : j=0 ∨ j=1:=by omega
   rcases this with rfl | rfl
   ·show f i=if i < cs.length then f i else x
    rw [if_pos h]
   ·rfl
  ·have e : i=cs.length:=by omega
   rw [if_neg h]
   unfold clF
   rw [getD_snoc,if_neg h,if_pos e]
   have : j=0 ∨ j=1:=by omega
   rcases this with rfl | rfl
   ·show x=if i < cs.length then f i else x
    rw [if_neg h]
   ·rfl,fun i hi=> ?_,fun i j hij hj k hk=> ?_⟩
 ·rw [List.length_append] at hi
  simp only [List.length_singleton] at hi
  rw [getD_snoc]
  by_cases h : i < cs.length
  ·simp only [h,if_true]
   exact (hrow _ _ _ _ (g2 i h)).mono (Nat.le_refl _) (by omega)
  ·have : i=cs.length:=by omega
   simp only [h,if_false]
   rw [if_pos this]
   exact (hrow _ _ _ _ hx).mono hm hsz
 ·rw [List.length_append] at hj
  simp only [List.length_singleton] at hj
  simp only [show i < cs.length by omega,if_true] at hk
  by_cases h : j < cs.length
  ·simp only [h,if_true]
   exact g3 i j hij h k hk
  ·simp only [h,if_false]
   intro e
   have h5:=(Own.block (g2 i (by omega)) hk).2.1
   have h6:=(Own.block hx e).1
   omega
end OwnPd
end
end Go.Proofs.YtincaodpjdeoeaaGreatDoor
