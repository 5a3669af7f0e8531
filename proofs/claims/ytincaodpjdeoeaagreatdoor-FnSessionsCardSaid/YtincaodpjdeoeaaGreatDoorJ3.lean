/-
  A part of the proof of FnSessions (texts of one proof, joined).
-/
import Derived.Test.YtincaodpjdeoeaaGreatDoorJ2
import Derived.Shelf.Strings.PiecesUse
import Derived.Deep.AppendLies
import Derived.Lib.OwnKind
namespace Go.Proofs.YtincaodpjdeoeaaGreatDoor
set_option linter.all false
set_option maxRecDepth 100000
set_option maxHeartbeats 16000000
section
open Go.RowKit
theorem parseInt_digit (d : Nat) (w : World) (hd : d < 10) :
 Calls Tryz.prog 118 #[.string (digB d)] w fun e w'=>e=.returned (.tuple #[.int .i64 (d : Int),.bool true])∧w'=w:=by
 have ht : bytA (Lib.trimPrefix (digB d).data.toList (⟨#[45]⟩ : ByteArray).data.toList)=digB d:=by
  match d,hd with
  | 0,_ | 1,_ | 2,_ | 3,_ | 4,_ | 5,_ | 6,_ | 7,_ | 8,_ | 9,_=>rfl
 have hg0 : (((digB d)[0]'(by show 0 < 1;decide)).toNat : Int)=48+(d : Int):=by
  show ((UInt8.ofNat (48+d)).toNat : Int)=_
  rw [u8_nat (by omega)];omega
 have HT:=Lib.hid (TrimPrefix_any (digB d) ⟨#[45]⟩ w)
 rw [ht] at HT
 have HF:=Lib.hid (FormatInt_small d w hd)
 obtain ⟨s,hs⟩ : ∃ s,s=digB d:=⟨_,rfl⟩
 have hsz : s.size=1:=by rw [hs];rfl
 have hlt : 0 < s.size:=by omega
 have hg : ((s[0]'hlt).toNat : Int)=48+(d : Int):=by
  subst hs
  exact hg0
 rw [← hs] at HT HF ⊢
 have hne : s.toList.isEmpty=false:=by
  rw [Lib.toList_data]
  cases h : s.data.toList with
  | nil=>have:=Lib.size_eq s;rw [h,List.length_nil] at this;omega
  | cons _ _=>rfl
 have hg1 : ¬ (48+(d : Int) < 48):=by omega
 have hg2 : ¬ (57 < 48+(d : Int)):=by omega
 clear ht hg0 hs
 go_enter Tryz.func118,Tryz.ntmps118
 go_wp2_with fail
 refine HT.out.mono ?_
 rintro e w1 ⟨rfl,rfl⟩
 go_wp2_with fail
 go_loopg [5,6,18] 1 (fun g s5 s6 s18 wr=> ∃ k : Nat,k≤1∧g=1 - k∧s18=.int .i64 (k : Int)∧s5=.int .i64 ((k * d : Nat) : Int)∧wr=w1)
 case atStart=>exact ⟨0,Nat.zero_le _,rfl,rfl,by rw [Nat.zero_mul];rfl,rfl⟩
 case round =>
  obtain ⟨k,hk,rfl,rfl,rfl,rfl⟩:=hrel
  rcases Nat.eq_zero_or_pos k with h0 | h0
  ·subst h0
   rw [Nat.zero_mul]
   go_wp2_with fail
   go_roundg (1 - (0+1))
   case measure=>omega
   case rel=>exact ⟨0+1,by omega,rfl,by go_num,by rw [Nat.zero_add,Nat.one_mul];first | rfl | (congr 1;omega),rfl⟩
  ·obtain rfl : k=1:=by omega
   rw [Nat.one_mul]
   go_wp2_with fail
   refine HF.out.mono ?_
   rintro e w2 ⟨rfl,rfl⟩
   go_wp2_with fail
   go_ret2
   exact ⟨rfl,rfl⟩
def dJ : List Nat→List UInt8
 | []=>[]
 | [x]=>[UInt8.ofNat (48+x)]
 | x :: y :: l=>UInt8.ofNat (48+x) :: 32 :: dJ (y :: l)
theorem dg_ne {x : Nat} (h : x < 10) : (UInt8.ofNat (48+x) == (32 : UInt8))=false:=by
 match x,h with
 | 0,_ | 1,_ | 2,_ | 3,_ | 4,_ | 5,_ | 6,_ | 7,_ | 8,_ | 9,_=>rfl
theorem dJ_index1 {x : Nat} (h : x < 10) (l : List UInt8) : Lib.index (UInt8.ofNat (48+x) :: 32 :: l) [32]=1:=by
 rw [index_one]
 unfold Lib.indexByte
 rw [if_neg (by rw [dg_ne h];decide)]
 unfold Lib.indexByte
 rfl
theorem dJ_index0 {x : Nat} (h : x < 10) : Lib.index [UInt8.ofNat (48+x)] [32] = -1:=by
 rw [index_one]
 unfold Lib.indexByte
 rw [if_neg (by rw [dg_ne h];decide)]
 rfl
theorem split_dJ : ∀ (xs : List Nat),xs ≠ []→(∀ x ∈ xs,x < 10)→Lib.countB (bytA (dJ xs)) ⟨#[32]⟩+1=xs.length∧Lib.splitB ⟨#[32]⟩ 0 (xs.length - 1) (bytA (dJ xs))=xs.map digB
 | [],h,_=>absurd rfl h
 | [x],_,h=>by
   have hi : Lib.indexB (bytA (dJ [x])) ⟨#[32]⟩ = -1:=dJ_index0 (h x (List.mem_cons_self ..))
   refine ⟨by rw [Lib.countB_miss _ _ hi];rfl,?_⟩
   rw [Lib.splitB_miss _ _ _ _ hi]
   rfl
 | x :: y :: l,_,h=>by
   have hi : Lib.indexB (bytA (dJ (x :: y :: l))) ⟨#[32]⟩=(1 : Nat):=dJ_index1 (h x (List.mem_cons_self ..)) _
   obtain ⟨ih1,ih2⟩:=split_dJ (y :: l) (by simp) fun z hz=>h z (List.mem_cons_of_mem _ hz)
   have hx : (bytA (dJ (x :: y :: l))).extract (1+(⟨#[32]⟩ : ByteArray).size) (bytA (dJ (x :: y :: l))).size=bytA (dJ (y :: l)):=by
    apply ByteArray.ext
    rw [ByteArray.data_extract]
    show (dJ (x :: y :: l)).toArray.extract (1+1) (dJ (x :: y :: l)).toArray.size=(dJ (y :: l)).toArray
    show (UInt8.ofNat (48+x) :: 32 :: dJ (y :: l)).toArray.extract 2 (UInt8.ofNat (48+x) :: 32 :: dJ (y :: l)).toArray.size=(dJ (y :: l)).toArray
    simp
   have hx0 : (bytA (dJ (x :: y :: l))).extract 0 (1+0)=digB x:=by
    apply ByteArray.ext
    rw [ByteArray.data_extract]
    show (UInt8.ofNat (48+x) :: 32 :: dJ (y :: l)).toArray.extract 0 1 = #[UInt8.ofNat (48+x)]
    simp
   refine ⟨?_,?_⟩
   ·rw [Lib.countB_hit _ _ 1 (Nat.le_refl _) hi,hx]
    simp only [List.length_cons] at ih1 ⊢
    omega
   ·rw [show (x :: y :: l).length - 1=(y :: l).length - 1+1 by simp,Lib.splitB_hit _ _ _ _ 1 hi,hx,ih2,hx0]
    rfl
theorem dJ_len : ∀ xs : List Nat,(dJ xs).length≤2 * xs.length
 | []=>Nat.le_refl _
 | [x]=>by simp [dJ]
 | x :: y :: l=>by
   have:=dJ_len (y :: l)
   simp only [dJ,List.length_cons] at this ⊢
   omega
def inL (xs : List Nat) : List Int:=xs.map fun (x : Nat)=>(x : Int)
theorem inL_take_snoc (xs : List Nat) (k : Nat) (hk : k < xs.length) : inL (xs.take k) ++ [((xs.getD k 0 : Nat) : Int)]=inL (xs.take (k+1)):=by
 unfold inL
 rw [List.take_succ,List.map_append]
 congr 1
 simp [List.getD_eq_getElem?_getD,hk]
theorem ParseInts_any (xs : List Nat) (w : World) (h10 : ∀ x ∈ xs,x < 10) (hl : xs.length≤100) :
 Calls Tryz.prog 91 #[.string (bytA (dJ xs))] w fun e w'=> ∃ u,e=.returned (.tuple #[u,.bool true])∧OwnI 3 w' w.heap.size w'.heap.size u (inL xs)∧Below w.heap.size w w':=by
 obtain ⟨s,hs⟩ : ∃ s,s=bytA (dJ xs):=⟨_,rfl⟩
 have hsl : s.size≤200:=by
  rw [hs,bytA_size]
  have:=dJ_len xs
  omega
 have hsd : s.toList=dJ xs:=by rw [hs,Lib.toList_data];rfl
 rw [← hs]
 have Hs:=Lib.hid hs
 have H10:=Lib.hid h10
 have Ho:=Lib.hid (OwnF.made0 w 3 (iv []))
 rcases Nat.eq_zero_or_pos xs.length with h0 | h0
 ·have hx : xs=[]:=List.length_eq_zero_iff.1 h0
  have hne : s.toList.isEmpty=true:=by rw [hsd,hx];rfl
  have Hx:=Lib.hid hx
  clear hs hsd h10 hx
  go_enter Tryz.func91,Tryz.ntmps91
  go_wp2_with fail
  go_ret2
  refine ⟨_,rfl,?_,below_alloc w _⟩
  rw [Hx.out]
  exact (OwnF.ints (xs:=[]) Ho.out).mono (Nat.le_refl _) (by rw [size_alloc];exact Nat.le_refl _)
 have hne : s.toList.isEmpty=false:=by
  rw [hsd]
  match xs,h0 with
  | [x],_=>rfl
  | x :: y :: l,_=>rfl
 obtain ⟨sp1,sp2⟩:=split_dJ xs (fun e=>by rw [e] at h0;exact absurd h0 (Nat.lt_irrefl _)) h10
 rw [← hs] at sp1 sp2
 have hcb : Lib.countB s ⟨#[32]⟩=xs.length - 1:=by omega
 have HSp:=Lib.hid (fun w=>Split_any s 32 w (by omega))
 rw [hcb,sp2,show xs.length - 1+1=xs.length by omega] at HSp
 clear hs hsd h10 sp1 sp2 hcb
 go_enter Tryz.func91,Tryz.ntmps91
 go_wp2_with fail
 obtain ⟨w1,hw1⟩ : ∃ w1,w1=w.alloc (.cells #[] 3):=⟨_,rfl⟩
 have hb1 : Below w.heap.size w w1:=by rw [hw1];exact below_alloc w _
 rw [← hw1] at Ho ⊢
 have Hw1:=Lib.hid hw1
 have hz1 : w1.heap.size=w.heap.size+1:=by rw [hw1,size_alloc]
 clear hw1
 refine (HSp.out _).mono ?_
 rintro e w2 ⟨rfl,hw2⟩
 have Hcell:=Lib.hid (show ∀ j,j < xs.length→w2.cell? ⟨w.heap.size+1,j,none⟩=some (.string (digB (xs.getD j 0))) from fun j hj=>by
  rw [hw2,← hz1]
  refine Lib.pieces_cell_at w1 (xs.map digB) _ j _ ?_
  rw [List.getElem?_map,List.getElem?_eq_getElem hj,List.getD_eq_getElem?_getD,List.getElem?_eq_getElem hj]
  rfl)
 have Hb2:=Lib.hid (show Below w.heap.size w w2 by rw [hw2];exact hb1.trans ((below_alloc w1 _).mono hb1.size))
 have hz2 : w2.heap.size=w1.heap.size+1:=by rw [hw2,size_alloc]
 have Ho2:=Lib.hid (show OwnF w2 w.heap.size (w.heap.size+1) 3 (.slice (some ⟨w.heap.size,0,none⟩) 0 0) 0 (iv []) by rw [hw2];exact Ho.out.below (below_alloc w1 _))
 clear hw2 hb1
 go_wp2_with fail
 go_loopg [4,6,7,8,16] xs.length (fun g s4 s6 s7 s8 s16 wr=> ∃ k : Nat,k≤xs.length∧g=xs.length - k∧s16=.int .i64 (k : Int)∧Hid (OwnI 3 wr w.heap.size wr.heap.size s4 (inL (xs.take k)))∧Hid (Below w.heap.size w wr)∧Hid (∀ j,j < xs.length→wr.cell? ⟨w.heap.size+1,j,none⟩=some (.string (digB (xs.getD j 0))))∧w2.heap.size≤wr.heap.size∧Hid (∀ q,s4.ownBlock=some q→q ≠ w.heap.size+1))
 case atStart=>exact ⟨0,Nat.zero_le _,rfl,rfl,(OwnF.ints (xs:=[]) Ho2.out).mono (Nat.le_refl _) (by omega),Hb2.out,Hcell.out,Nat.le_refl _,fun q hq=>by simp [Value.ownBlock] at hq;omega⟩
 case round =>
  obtain ⟨k,hk,rfl,rfl,hO,hB,hC,hszr,hN⟩:=hrel
  obtain ⟨wo,rfl⟩ : ∃ x : World,x=wr:=⟨_,rfl⟩
  have HO:=Lib.hid hO.out
  have HB:=Lib.hid hB.out
  have HC:=Lib.hid hC.out
  have HN:=Lib.hid hN.out
  clear hO hB hC hN
  obtain ⟨p3,k3,e3,_,_⟩:=HO.out.shape
  subst e3
  have htl : (inL (xs.take k)).length=k:=by unfold inL;rw [List.length_map,List.length_take];omega
  rw [htl] at HO HN ⊢
  by_cases hlt : k < xs.length
  ·have c1:=HC.out k hlt
   obtain ⟨d,hd⟩ : ∃ d,d=xs.getD k 0:=⟨_,rfl⟩
   rw [← hd] at c1
   have hd10 : d < 10:=by
    rw [hd,List.getD_eq_getElem?_getD,List.getElem?_eq_getElem hlt]
    exact H10.out _ (List.getElem_mem hlt)
   have hsn:=inL_take_snoc xs k hlt
   rw [← hd] at hsn
   have Hsn:=Lib.hid hsn
   have Hof:=Lib.hid (show OwnF wo w.heap.size wo.heap.size 3 (.slice p3 k k3) k (iv (inL (xs.take k))) by
    have:=HO.out.fn
    rw [htl] at this
    exact this)
   have Htl:=Lib.hid htl
   have hkz : (k : Int) < (xs.length : Int):=by omega
   clear hd hsn htl
   go_wp2_with fail
   refine (parseInt_digit d _ hd10).mono ?_
   rintro e w3 ⟨rfl,rfl⟩
   go_wp2_with (at_builtin;go_must (refine wpList_append_G rfl (.tmp 27) (.tmp 29) 24 rfl 3 (.int .i64 0) 8 Tryz.underlying24 info_int rfl w.heap.size w3.heap.size _ k (iv (inL (xs.take k))) rfl (Hof.out.below (below_alloc w3 _)) (by rw [size_alloc];omega) (by rw [size_alloc];omega) _ 1 _ rfl (rd_one _ _ _ rfl) (fun j _=>rfl) (by unfold maxLen;omega) (by omega) ?_;intro v2 w4 ho2 hg2 hv2))
   have hbB : Below w.heap.size (w3.alloc (.cells #[.int .i64 (d : Int)] 3)) w4:=grownBy_below hg2 Hof.out.blocks (Nat.le_refl _) (by rw [size_alloc];omega)
   have HO2:=Lib.hid (show OwnI 3 w4 w.heap.size w4.heap.size v2 (inL (xs.take k) ++ [(d : Int)]) from OwnI.snoc1 (by rw [Htl.out];exact ho2))
   rw [Hsn.out] at HO2
   have HB2:=Lib.hid ((HB.out.trans ((below_alloc w3 (.cells #[.int .i64 (d : Int)] 3)).mono HB.out.size)).trans hbB)
   have hs2:=hbB.size
   rw [size_alloc] at hs2
   have HC2:=Lib.hid (show ∀ j,j < xs.length→w4.cell? ⟨w.heap.size+1,j,none⟩=some (.string (digB (xs.getD j 0))) from fun j hj=>by
    have c:=HC.out j hj
    have hblt:=World.block_lt_of_cell? _ _ c
    have c2:=cell_below (below_alloc w3 (.cells #[.int .i64 (d : Int)] 3)) c
    rw [hg2.cell_far _ (World.block_lt_of_cell? _ _ c2) (fun e=>HN.out _ e.symm rfl)]
    exact c2)
   have HN2:=Lib.hid (show ∀ q,v2.ownBlock=some q→q ≠ w.heap.size+1 from fun q hq=>by
    rcases hv2 q hq with h | h
    ·exact HN.out q h
    ·rw [size_alloc] at h;omega)
   clear ho2 hg2 hbB hv2
   go_wp2_with fail
   go_roundg (xs.length - (k+1))
   case measure=>omega
   case rel=>exact ⟨k+1,by omega,rfl,by go_num,HO2.out,HB2.out,HC2.out,by omega,HN2.out⟩
  ·obtain rfl : k=xs.length:=by omega
   rw [List.take_length] at HO
   go_wp2_with fail
   go_ret2
   exact ⟨_,rfl,HO.out,HB.out⟩
end
section
def lnPerm (t : List UInt8) : List UInt8:=112 :: 101 :: 114 :: 109 :: 32 :: t
def lnBox (t : List UInt8) : List UInt8:=98 :: 111 :: 120 :: 32 :: t
def lnShape (t : List UInt8) : List UInt8:=115 :: 104 :: 97 :: 112 :: 101 :: 32 :: t
theorem cut_perm (t : List UInt8) : Lib.cut (lnPerm t) [32]=([112,101,114,109],t,true):=by
 simp [lnPerm,Lib.cut,Lib.index,List.isPrefixOf]
theorem cut_box (t : List UInt8) : Lib.cut (lnBox t) [32]=([98,111,120],t,true):=by
 simp [lnBox,Lib.cut,Lib.index,List.isPrefixOf]
theorem cut_shape (t : List UInt8) : Lib.cut (lnShape t) [32]=([115,104,97,112,101],t,true):=by
 simp [lnShape,Lib.cut,Lib.index,List.isPrefixOf]
def lnW : Nat→List UInt8
 | 1=>[108,101,110,103,116,104]
 | 2=>[112,111,108,121]
 | 3=>[115,101,116]
 | 4=>[116,105,109,101,115]
 | 7=>[115,113,117,97,114,101]
 | 8=>[100,101,103,114,101,101]
 | 9=>[110,111,116,104,105,110,103]
 | _=>[115,104,111,119]
theorem cut_w (j : Nat) : Lib.cut (lnW j) [32]=(lnW j,[],false):=by
 unfold lnW
 split <;> decide
end
section
open Go.RowKit
def shAt (xs : List Int) (j : Nat) : Prop:=1≤xs.getD j 0∧xs.getD j 0≤16∧(0 < j→xs.getD j 0≤xs.getD (j - 1) 0)
instance (xs : List Int) (j : Nat) : Decidable (shAt xs j):=by unfold shAt;exact inferInstance
def shOk (xs : List Int) : Bool:=decide (xs.length≤16 ∧ ∀ j,j < xs.length→shAt xs j)
theorem shOk_no {xs : List Int} {j : Nat} (hj : j < xs.length) (h : ¬ shAt xs j) : shOk xs=false:=by
 unfold shOk
 exact decide_eq_false fun e=>h (e.2 j hj)
theorem shOk_len {xs : List Int} (h : ¬ xs.length≤16) : shOk xs=false:=by
 unfold shOk
 exact decide_eq_false fun e=>h e.1
theorem shOk_yes {xs : List Int} (h : xs.length≤16) (hj : ∀ j,j < xs.length→shAt xs j) : shOk xs=true:=by
 unfold shOk
 exact decide_eq_true ⟨h,hj⟩
theorem shOk_facts {xs : List Int} (h : shOk xs=true) : xs.length≤16 ∧ ∀ j,j < xs.length→shAt xs j:=by
 unfold shOk at h
 exact of_decide_eq_true h
theorem implIsShape_any (v : Value) (xs : List Int) (w : World) (h : Ints w v xs) :
 Calls Tryz.prog 72 #[v] w fun e w'=>e=.returned (.bool (shOk xs))∧Qt w w':=by
 obtain ⟨p,cap,rfl,⟨hx1,hx2⟩,hxc⟩:=h
 unfold maxLen at hx2
 go_enter Tryz.func72,Tryz.ntmps72
 go_wp2_with fail
 go_loopg [3,4,7] xs.length (fun g s3 s4 i wr=> ∃ k : Nat,k≤xs.length∧g=xs.length - k∧i=.int .i64 k∧Qt w wr∧Hid (∀ j,j < k→shAt xs j))
 case atStart=>exact ⟨0,Nat.zero_le _,rfl,rfl,Qt.refl _,fun j hj=>absurd hj (Nat.not_lt_zero _)⟩
 case round =>
  obtain ⟨k,hk,rfl,rfl,hq,hp⟩:=hrel
  by_cases hlt : k < xs.length
  ·obtain ⟨b,off,rfl,hc⟩:=hxc (by omega)
   obtain ⟨x,hx⟩ : ∃ x,x=xs.getD k 0:=⟨_,rfl⟩
   have c1:=hq.cell (hc k hlt)
   unfold iv at c1
   rw [← hx] at c1
   have Hx:=Lib.hid hx
   have Hc:=Lib.hid hc
   clear hx hc hxc
   have hk1 : (k : Int) < (xs.length : Int):=by omega
   by_cases hx1' : x < 1
   ·go_wp2_with fail
    go_ret
    exact ⟨ret_bool (shOk_no hlt fun e=>by have:=e.1;rw [← Hx.out] at this;omega).symm,hq⟩
   by_cases hx16 : 16 < x
   ·go_wp2_with fail
    go_ret
    exact ⟨ret_bool (shOk_no hlt fun e=>by have:=e.2.1;rw [← Hx.out] at this;omega).symm,hq⟩
   by_cases hk0 : k=0
   ·subst hk0
    rw [Nat.add_zero] at c1
    go_wp2_with fail
    go_roundg (xs.length - (0+1))
    case measure=>omega
    case rel =>
     refine ⟨0+1,by omega,rfl,by go_num,hq,fun j hj=> ?_⟩
     obtain rfl : j=0:=by omega
     exact ⟨by rw [← Hx.out];omega,by rw [← Hx.out];omega,fun h=>absurd h (Nat.lt_irrefl _)⟩
   ·obtain ⟨m,hm⟩ : ∃ m,m=k - 1:=⟨_,rfl⟩
    have hkm : k=m+1:=by omega
    obtain ⟨y,hy⟩ : ∃ y,y=xs.getD m 0:=⟨_,rfl⟩
    have c2:=hq.cell (Hc.out m (by omega))
    unfold iv at c2
    rw [← hy] at c2
    have Hy:=Lib.hid hy
    have hg0 : (0 : Int) < (k : Int):=by omega
    have hm1 : m < xs.length:=by omega
    have hm2 : (m : Int) < (xs.length : Int):=by omega
    have hm3 : (0 : Int)≤(m : Int):=by omega
    have Hkm:=Lib.hid hkm
    have hw0 : (k : Int) - 1=(m : Int):=by omega
    clear hy hm hkm hk0
    by_cases hyx : y < x
    ·go_wp2_with fail
     go_ret
     refine ⟨ret_bool (shOk_no hlt fun e=> ?_).symm,hq⟩
     have:=e.2.2 (by have:=Hkm.out;omega)
     rw [← Hx.out,show k - 1=m by have:=Hkm.out;omega,← Hy.out] at this
     omega
    ·go_wp2_with fail
     go_roundg (xs.length - (k+1))
     case measure=>omega
     case rel =>
      refine ⟨k+1,by omega,rfl,by go_num,hq,fun j hj=> ?_⟩
      by_cases e : j=k
      ·subst e
       exact ⟨by rw [← Hx.out];omega,by rw [← Hx.out];omega,fun _=>by rw [← Hx.out,show j - 1=m by have:=Hkm.out;omega,← Hy.out];omega⟩
      ·exact hp.out j (by omega)
  ·by_cases hl : xs.length≤16
   ·have e1 : (xs.length : Int)≤16:=by omega
    go_wp2_with fail
    go_ret
    exact ⟨ret_bool (by rw [shOk_yes hl fun j hj=>hp.out j (by omega)]),hq⟩
   ·have e1 : ¬ (xs.length : Int)≤16:=by omega
    go_wp2_with fail
    go_ret
    exact ⟨ret_bool (by rw [shOk_len hl]),hq⟩
theorem rowOf_any (v : Value) (xs : List Int) (i : Nat) (w : World) (h : Ints w v xs) (hi : i≤1000000) :
 Calls Tryz.prog 73 #[v,.int .i64 (i : Int)] w fun e w'=>e=.returned (.int .i64 (xs.getD i 0))∧Qt w w':=by
 obtain ⟨p,cap,rfl,⟨hx1,hx2⟩,hxc⟩:=h
 unfold maxLen at hx2
 by_cases hlt : i < xs.length
 ·obtain ⟨b,off,rfl,hc⟩:=hxc (by omega)
  obtain ⟨x,hx⟩ : ∃ x,x=xs.getD i 0:=⟨_,rfl⟩
  have c1:=hc i hlt
  unfold iv at c1
  rw [← hx] at c1 ⊢
  have hi1 : (i : Int) < (xs.length : Int):=by omega
  clear hx hc hxc
  go_enter Tryz.func73,Tryz.ntmps73
  go_wp2_with fail
  go_ret
  exact ⟨rfl,Qt.refl _⟩
 ·have e : xs.getD i 0=0:=by simp [List.getD_eq_getElem?_getD,Nat.le_of_not_lt hlt]
  rw [e]
  have hi1 : ¬ (i : Int) < (xs.length : Int):=by omega
  go_enter Tryz.func73,Tryz.ntmps73
  go_wp2_with fail
  go_ret
  exact ⟨rfl,Qt.refl _⟩
def bxOk (xs : List Int) (r c : Nat) : Bool:=shOk xs && decide (xs.length≤r) && decide (xs.getD 0 0≤(c : Int) - (r : Int))
theorem bx_no1 {xs : List Int} {r c : Nat} (h : shOk xs=false) : bxOk xs r c=false:=by simp [bxOk,h]
theorem bx_no2 {xs : List Int} {r c : Nat} (h : ¬ xs.length≤r) : bxOk xs r c=false:=by simp [bxOk,h]
theorem bx_end {xs : List Int} {r c : Nat} (h : shOk xs=true) (h2 : xs.length≤r) : bxOk xs r c=decide (xs.getD 0 0≤(c : Int) - (r : Int)):=by simp only [bxOk,h,h2,decide_true,Bool.and_true,Bool.true_and]
theorem isBox_yes (r c : Nat) (w : World) (hrc : r≤c) (hc0 : 1≤c) (hc7 : c≤7) :
 Calls Tryz.prog 43 #[.int .i64 (r : Int),.int .i64 (c : Int)] w fun e w'=>e=.returned (.bool true)∧w=w':=by
 have h1 : (1 : Int)≤(c : Int):=by omega
 have h2 : (c : Int)≤7:=by omega
 have h3 : (0 : Int)≤(r : Int):=by omega
 have h4 : (r : Int)≤(c : Int):=by omega
 have hs : ∀ w,Calls Tryz.prog 80 #[.int .i64 (c : Int)] w fun e w'=>e=.returned (.bool true)∧w=w':=fun w=>by
  go_enter Tryz.func80,Tryz.ntmps80
  go_wp2_with fail
  go_ret
  exact ⟨rfl,rfl⟩
 go_enter Tryz.func43,Tryz.ntmps43
 go_wp2_with fail
 refine (hs w).mono ?_
 rintro e w1 ⟨rfl,rfl⟩
 go_wp2_with fail
 go_ret
 exact ⟨rfl,rfl⟩
theorem IsInBox_any (v : Value) (xs : List Int) (r c : Nat) (w : World) (h : Ints w v xs) (hrc : r≤c) (hc0 : 1≤c) (hc7 : c≤7) :
 Calls Tryz.prog 40 #[v,.int .i64 (r : Int),.int .i64 (c : Int)] w fun e w'=>e=.returned (.bool (bxOk xs r c))∧Qt w w':=by
 have Hd:=Lib.hid h
 obtain ⟨p,cap,rfl,⟨hx1,hx2⟩,_⟩:=h
 unfold maxLen at hx2
 cases hs : shOk xs with
 | false =>
   rw [bx_no1 hs]
   have Hs:=Lib.hid hs
   clear hs
   go_enter Tryz.func40,Tryz.ntmps40
   go_wp2_with fail
   refine (isBox_yes _ _ _ hrc hc0 hc7).mono ?_
   rintro e w1 ⟨rfl,rfl⟩
   go_wp2_with fail
   refine (implIsShape_any _ xs _ Hd.out).mono ?_
   rintro e w2 ⟨rfl,hq2⟩
   rw [Hs.out]
   go_wp2_with fail
   go_ret
   exact ⟨rfl,hq2⟩
 | true =>
 have Hs:=Lib.hid hs
 by_cases hl : xs.length≤r
 case neg =>
  rw [bx_no2 hl]
  have hl1 : ¬ (xs.length : Int)≤(r : Int):=by omega
  clear hs hl
  go_enter Tryz.func40,Tryz.ntmps40
  go_wp2_with fail
  refine (isBox_yes _ _ _ hrc hc0 hc7).mono ?_
  rintro e w1 ⟨rfl,rfl⟩
  go_wp2_with fail
  refine (implIsShape_any _ xs _ Hd.out).mono ?_
  rintro e w2 ⟨rfl,hq2⟩
  rw [Hs.out]
  go_wp2_with fail
  go_ret
  exact ⟨rfl,hq2⟩
 rw [bx_end hs hl]
 have hl1 : (xs.length : Int)≤(r : Int):=by omega
 obtain ⟨s,hs0⟩ : ∃ s,s=xs.getD 0 0:=⟨_,rfl⟩
 rw [← hs0]
 have Hs0:=Lib.hid hs0
 clear hs hl hs0
 by_cases hsc : s≤(c : Int) - (r : Int)
 ·have hd : decide (s≤(c : Int) - (r : Int))=true:=decide_eq_true hsc
  rw [hd]
  clear hd
  go_enter Tryz.func40,Tryz.ntmps40
  go_wp2_with fail
  refine (isBox_yes _ _ _ hrc hc0 hc7).mono ?_
  rintro e w1 ⟨rfl,rfl⟩
  go_wp2_with fail
  refine (implIsShape_any _ xs _ Hd.out).mono ?_
  rintro e w2 ⟨rfl,hq2⟩
  rw [Hs.out]
  go_wp2_with fail
  refine (rowOf_any _ xs 0 _ (Hd.out.qt hq2) (by omega)).mono ?_
  rintro e w3 ⟨rfl,hq3⟩
  rw [← Hs0.out]
  go_wp2_with fail
  go_ret
  exact ⟨rfl,hq2.trans hq3⟩
 ·have hd : decide (s≤(c : Int) - (r : Int))=false:=decide_eq_false hsc
  rw [hd]
  clear hd
  go_enter Tryz.func40,Tryz.ntmps40
  go_wp2_with fail
  refine (isBox_yes _ _ _ hrc hc0 hc7).mono ?_
  rintro e w1 ⟨rfl,rfl⟩
  go_wp2_with fail
  refine (implIsShape_any _ xs _ Hd.out).mono ?_
  rintro e w2 ⟨rfl,hq2⟩
  rw [Hs.out]
  go_wp2_with fail
  refine (rowOf_any _ xs 0 _ (Hd.out.qt hq2) (by omega)).mono ?_
  rintro e w3 ⟨rfl,hq3⟩
  rw [← Hs0.out]
  go_wp2_with fail
  go_ret
  exact ⟨ret_bool (decide_eq_false (by omega)),hq2.trans hq3⟩
theorem bx_facts {xs : List Int} {r c : Nat} (h : bxOk xs r c=true) (hrc : r≤c) : ∀ i,i < r→0≤xs.getD i 0∧xs.getD i 0≤(c : Int) - (r : Int):=by
 unfold bxOk at h
 simp only [Bool.and_eq_true,decide_eq_true_eq] at h
 obtain ⟨⟨h1,h2⟩,h3⟩:=h
 obtain ⟨hl,hs⟩:=shOk_facts h1
 have hmon : ∀ i,i < xs.length→xs.getD i 0≤xs.getD 0 0:=by
  intro i
  induction i with
  | zero=>exact fun _=>Int.le_refl _
  | succ i ih =>
    intro hi
    have a:=ih (by omega)
    have b:=(hs (i+1) hi).2.2 (by omega)
    rw [Nat.add_sub_cancel] at b
    omega
 intro i hi
 by_cases e : i < xs.length
 ·have a:=hmon i e
  have b:=(hs i e).1
  omega
 ·have : xs.getD i 0=0:=by simp [List.getD_eq_getElem?_getD,Nat.le_of_not_lt e]
  rw [this]
  omega
theorem l1Ints_any (v : Value) (xs : List Int) (w : World) (h : Ints w v xs) (hl : xs.length≤1000000) :
 Calls Tryz.prog 48 #[v] w (RetI w xs):=by
 have hI:=Lib.hid h
 obtain ⟨p,cap,rfl,⟨hx1,hx2⟩,hxc⟩:=h
 have Hb1:=Lib.hid (show 0+xs.length≤maxLen by unfold maxLen;omega)
 have Hb2:=Lib.hid (show (0+xs.length) * 8≤140737488355328 by omega)
 clear hxc
 go_enter Tryz.func48,Tryz.ntmps48
 go_wp2_with (at_builtin;go_must (refine wpList_append_F rfl (.tmp 3) (.tmp 4) 24 rfl 3 (.int .i64 0) 8 Tryz.underlying24 info_int rfl w.heap.size (w.heap.size+1) _ 0 (fun _=>undef) rfl (OwnF.made0 w _ _) (by simp) (by simp) _ _ _ rfl (hI.out.below (below_alloc w _)) (fun j _=>iv_one _ j) Hb1.out Hb2.out ?_;intro v' w' ho' hg'))
 go_ret
 refine ⟨_,rfl,OwnF.ints ?_,(below_alloc w _).trans (grownBy_below hg' (OwnF.made0 w 3 (fun _=>undef)).blocks (Nat.le_refl _) (by simp))⟩
 rw [Nat.zero_add] at ho'
 exact ho'.congr fun j _=>by simp
theorem step_append_F {P : Program} {w : World} {ops : Array Oper} {o : Oper} {a : Act} {K : Act→World→Prop} {Q : Exit→Act→World→Prop} {E : Prop} (hgd : o.guard=none) (s x : Operand) (t : TypeId)
 (ho : o.op=.call { callee:=.builtin .append,args:=#[s,x],argTypes:=#[t,t] })
 (e : TypeId) (z : Value) (bytes : Nat) (ht : P.underlying t=some (.slice e)) (hinfo : (P.info? e).map (fun i=>(i.zero,i.size,i.bytes))=some (some z,1,bytes)) (hzs : z.cells.size=1)
 (lo hi' : Nat) (v : Value) (n : Nat) (f : Nat→Value) (hs : a.eval s=v) (hown : OwnF w lo hi' e v n f) (hlo : lo≤w.heap.size) (hhi : hi'≤w.heap.size)
 (u : Value) (m : Nat) (g : Nat→Value) (hxu : a.eval x=u) (hx : Rd w u m g) (h1 : ∀ j,j < m→(g j).oneCell'=true) (h63 : n+m≤maxLen) (hbytes : (n+m) * bytes≤140737488355328)
 (h : ∀ v' w',OwnF w' lo w'.heap.size e v' (n+m) (fun j=>if j < n then f j else g (j - n))→w.grownBy w' v.ownBlock→K (a.put o.dst v') w') :
 if Region.wanted o (yielded ops a.tmps)=true then Oper.wp P o a w K Q else E:=by
 have hw : Region.wanted o (yielded ops a.tmps)=true:=by simp [Region.wanted,hgd]
 rw [if_pos hw]
 obtain ⟨i,hi,hz,hsz,hby⟩:=info_parts hinfo
 obtain ⟨v',w',hr,h2,h3⟩:=run_append_F (P:=P) w t o.type e i z bytes ht hi hz hsz hby hzs lo hi' v n f hown hlo hhi u m g hx h1 h63 hbytes
 unfold Oper.wp
 simp [execOp,ho,resolve,invoke,builtin,hs,hxu,hr,Result.andThen]
 exact h v' w' h2 h3
theorem OwnI.one {T : TypeId} {w : World} {lo hi : Nat} {v : Value} {xs : List Int} (h : OwnI T w lo hi v xs) : v.oneCell'=true:=by
 obtain ⟨p,cap,rfl,_,_⟩:=h.shape
 rfl
def RdS (w : World) (size : Nat) (v : Value) (n : Nat) (F : Nat→Nat→Value) : Prop :=
 ∃ p cap,v=.slice p n cap∧(n≤cap∧cap≤maxLen)∧(0 < n → ∃ b,p=some ⟨b,0,none⟩ ∧ ∀ i,i < n → ∀ j,j < size→w.cell? ⟨b,i * size+j,none⟩=some (F i j))
theorem RdS.of_cells {w w' : World} {size : Nat} {v : Value} {n : Nat} {F : Nat→Nat→Value} (h : RdS w size v n F) (hc : ∀ a x,w.cell? a=some x→w'.cell? a=some x) : RdS w' size v n F:=by
 obtain ⟨p,cap,rfl,hm,h⟩:=h
 refine ⟨p,cap,rfl,hm,fun h0=> ?_⟩
 obtain ⟨b,hp,hx⟩:=h h0
 exact ⟨b,hp,fun i hi j hj=>hc _ _ (hx i hi j hj)⟩
theorem RdS.below {w w' : World} {size : Nat} {v : Value} {n : Nat} {F : Nat→Nat→Value} (h : RdS w size v n F) (hb : Below w.heap.size w w') : RdS w' size v n F :=
 h.of_cells fun a x hx=>by rw [hb.cell (World.block_lt_of_cell? w a hx)];exact hx
theorem RdS.qt {w w' : World} {size : Nat} {v : Value} {n : Nat} {F : Nat→Nat→Value} (h : RdS w size v n F) (q : Qt w w') : RdS w' size v n F:=h.of_cells fun _ _ hx=>q.cell hx
theorem RdS.congr {w : World} {size : Nat} {v : Value} {n : Nat} {F G : Nat→Nat→Value} (h : RdS w size v n F) (e : ∀ i,i < n → ∀ j,j < size→F i j=G i j) : RdS w size v n G:=by
 obtain ⟨p,cap,rfl,hm,h⟩:=h
 refine ⟨p,cap,rfl,hm,fun h0=> ?_⟩
 obtain ⟨b,hp,hx⟩:=h h0
 exact ⟨b,hp,fun i hi j hj=>by rw [← e i hi j hj];exact hx i hi j hj⟩
def OwnS (w : World) (lo hi : Nat) (T : TypeId) (size : Nat) (v : Value) (n : Nat) (F : Nat→Nat→Value) : Prop :=
 ∃ xs,Own w lo hi T size v n xs ∧ ∀ i,i < n → ∀ j,j < size→xs[i * size+j]?=some (F i j)
namespace OwnS
variable {w w' : World} {lo hi : Nat} {T : TypeId} {size : Nat} {v : Value} {n : Nat} {F : Nat→Nat→Value}
theorem rd (h : OwnS w lo hi T size v n F) : RdS w size v n F:=by
 obtain ⟨xs,h,hf⟩:=h
 rcases h.1.2 with ⟨rfl,e⟩ | ⟨g,cap,cur,rfl,_,_,hm,hm2,_⟩
 ·exact ⟨none,0,by rw [e],⟨by omega,Nat.zero_le _⟩,fun h0=>absurd h0 (by omega)⟩
 ·refine ⟨_,cap,rfl,⟨hm,hm2⟩,fun _=>⟨g,rfl,fun i hi j hj=> ?_⟩⟩
  have hadd : ∀ j,(⟨g,0,none⟩ : Addr).add j=⟨g,0+j,none⟩:=fun j=>by unfold Addr.add;split <;> simp_all
  have c1:=h.1.cells (g:=g) rfl _ _ (hf i hi j hj)
  rw [hadd,Nat.zero_add] at c1
  exact c1
theorem shape (h : OwnS w lo hi T size v n F) : ∃ p cap,v=.slice p n cap∧n≤cap∧cap≤maxLen∧(0 < n → ∃ g,p=some ⟨g,0,none⟩∧lo≤g∧g < hi∧g < w.heap.size):=by
 obtain ⟨xs,h,hf⟩:=h
 have hb:=fun k hk=>h.block (k:=k) hk
 rcases h.1.2 with ⟨rfl,e⟩ | ⟨g,cap,cur,rfl,_,_,hm,hm2,_⟩
 ·exact ⟨none,0,by rw [e],by omega,Nat.zero_le _,fun h0=>absurd h0 (by omega)⟩
 ·exact ⟨_,cap,rfl,hm,hm2,fun _=>⟨g,rfl,hb g rfl⟩⟩
theorem at_ {p : Option Addr} {cap : Nat} (h : OwnS w lo hi T size (.slice p n cap) n F) (h0 : 0 < n) : ∃ g,p=some ⟨g,0,none⟩∧lo≤g∧g < hi∧g < w.heap.size:=by
 obtain ⟨q,c,e,_,_,h⟩:=h.shape
 injection e with e1 e2 e3
 subst e1
 exact h h0
theorem cell {g n' cap : Nat} (h : OwnS w lo hi T size (.slice (some ⟨g,0,none⟩) n' cap) n F) {i j : Nat} (hi : i < n) (hj : j < size) : w.cell? ⟨g,i * size+j,none⟩=some (F i j):=by
 obtain ⟨p,c,e,_,h⟩:=h.rd
 injection e with e1 _ _
 obtain ⟨b,e2,h⟩:=h (by omega)
 rw [← e1] at e2
 obtain rfl : g=b:=by injection e2 with e2;injection e2
 exact h i hi j hj
theorem frozen {g n' cap : Nat} (h : OwnS w lo hi T size (.slice (some ⟨g,0,none⟩) n' cap) n F) (j : Nat) : w.frozen? ⟨g,j,none⟩=false:=by
 obtain ⟨xs,h,_⟩:=h
 rcases h.1.2 with ⟨h',_⟩ | ⟨g',cap',cur,h',_,hg,_⟩
 ·simp at h'
 ·simp only [Value.slice.injEq,Option.some.injEq,Addr.mk.injEq,and_true,true_and] at h'
  obtain ⟨rfl,_,_⟩:=h'
  exact free_of_blk hg j
theorem congr {G : Nat→Nat→Value} (h : OwnS w lo hi T size v n F) (e : ∀ i,i < n → ∀ j,j < size→F i j=G i j) : OwnS w lo hi T size v n G:=by
 obtain ⟨xs,h,hf⟩:=h
 exact ⟨xs,h,fun i hi j hj=>by rw [← e i hi j hj];exact hf i hi j hj⟩
theorem keep (h : OwnS w lo hi T size v n F) (hb : ∀ k,lo≤k→k < hi→k < w.heap.size→w'.heap[k]?=w.heap[k]?) : OwnS w' lo hi T size v n F:=by
 obtain ⟨xs,h,hf⟩:=h
 exact ⟨xs,h.keep hb,hf⟩
theorem below (h : OwnS w lo hi T size v n F) (hb : Below w.heap.size w w') : OwnS w' lo hi T size v n F:=h.keep fun k _ _ h3=>hb.block k h3
theorem frm {lo' hi' : Nat} (h : OwnS w lo hi T size v n F) (hb : Frm lo' hi' w w') (ho : hi≤lo' ∨ hi'≤lo) : OwnS w' lo hi T size v n F:=h.keep fun k h1 h2 h3=>hb.block k h3 (by omega)
theorem mono {lo' hi' : Nat} (h : OwnS w lo hi T size v n F) (h1 : lo'≤lo) (h2 : hi≤hi') : OwnS w lo' hi' T size v n F:=by
 obtain ⟨xs,h,hf⟩:=h
 exact ⟨xs,h.mono h1 h2,hf⟩
theorem besides {lo' hi' : Nat} (h : OwnS w lo hi T size v n F) (hf : Frm lo' hi' w w') (hne : ∀ b,v.ownBlock=some b→b < lo' ∨ hi'≤b) : OwnS w' lo hi T size v n F:=by
 obtain ⟨xs,h,hx⟩:=h
 exact ⟨xs,⟨ownsRow_of_block h.1 fun b hb=>hf.block b (Own.block h hb).2.2 (hne b hb),h.2⟩,hx⟩
theorem blocks (h : OwnS w lo hi T size v n F) : ∀ k,v.ownBlock=some k→lo≤k∧k < hi:=by
 obtain ⟨xs,h,_⟩:=h
 exact fun k hk=>⟨(h.block hk).1,(h.block hk).2.1⟩
theorem kind (h : OwnS w lo hi T size v n F) : ∀ g,v.ownBlock=some g → ∃ c fz,w.heap[g]?=some (.cells c T fz):=by
 obtain ⟨xs,h,_⟩:=h
 exact Lib.ownsRow_kind h.1
theorem setCell (h : OwnS w lo hi T size v n F) {a : Addr} (ho : a.block < lo ∨ hi≤a.block) (u : Value) : OwnS (w.setCell a u) lo hi T size v n F:=by
 obtain ⟨xs,h,hf⟩:=h
 exact ⟨xs,h.setCell ho u,hf⟩
theorem set {g n' cap : Nat} (h : OwnS w lo hi T size (.slice (some ⟨g,0,none⟩) n' cap) n F) {i0 j0 : Nat} (hi0 : i0 < n) (hj0 : j0 < size) (u : Value) :
 OwnS (w.setCell ⟨g,i0 * size+j0,none⟩ u) lo hi T size (.slice (some ⟨g,0,none⟩) n' cap) n (fun i j=>if i=i0∧j=j0 then u else F i j):=by
 obtain ⟨xs,h,hf⟩:=h
 have hle : ∀ i j,i < n→j < size→i * size+j < n * size:=fun i j hi hj=>by
  have : (i+1) * size≤n * size:=Nat.mul_le_mul_right _ hi
  rw [Nat.add_mul] at this;omega
 obtain ⟨q,c,e,_⟩:=(OwnS.shape ⟨xs,h,hf⟩ : _)
 have en : n'=n:=by injection e
 subst en
 refine ⟨xs.set (i0 * size+j0) u,⟨(World.ownsRow.stored h.1 _ u).1,h.2⟩,fun i hi j hj=> ?_⟩
 rw [List.getElem?_set]
 by_cases e : i=i0∧j=j0
 ·obtain ⟨rfl,rfl⟩:=e
  have hlt : i * size+j < xs.length:=by rw [h.len];exact hle _ _ hi0 hj0
  simp [hlt]
 ·show _=some (if i=i0∧j=j0 then u else F i j)
  rw [if_neg e,if_neg fun c=>e ?_]
  ·exact hf i hi j hj
  ·have h1:=Nat.mul_add_mod' i size j
   have h2:=Nat.mul_add_mod' i0 size j0
   rw [Nat.mod_eq_of_lt hj] at h1
   rw [Nat.mod_eq_of_lt hj0] at h2
   have : j=j0:=by rw [← h1,← h2,c]
   subst this
   exact ⟨Nat.eq_of_mul_eq_mul_right (by omega) (by omega : i * size=i0 * size),rfl⟩
theorem nil (w : World) (lo hi : Nat) (T : TypeId) (size : Nat) (F : Nat→Nat→Value) : OwnS w lo hi T size (.slice none 0 0) 0 F :=
 ⟨[],⟨World.ownsRow_nil _ _ _ _,fun k hk=>by simp [Value.ownBlock] at hk⟩,fun i hi=>absurd hi (Nat.not_lt_zero _)⟩
theorem made0 (w : World) (T : TypeId) (size : Nat) (F : Nat→Nat→Value) : OwnS (w.alloc (.cells #[] T)) w.heap.size (w.heap.size+1) T size (.slice (some ⟨w.heap.size,0,none⟩) 0 0) 0 F :=
 ⟨[],⟨World.ownsRow_made w #[] 0 (Nat.le_refl _) (Nat.zero_le _) (by simp),fun k hk=>by simp [Value.ownBlock] at hk;omega⟩,fun i hi=>absurd hi (Nat.not_lt_zero _)⟩
theorem grown {u : Value} (h : OwnS w lo hi T size v n F) (hg : w.grownBy w' u.ownBlock) (hne : ∀ k,v.ownBlock=some k→u.ownBlock ≠ some k) : OwnS w' lo hi T size v n F:=by
 obtain ⟨xs,h,hf⟩:=h
 exact ⟨xs,⟨ownsRow_of_block h.1 fun k hk=>hg.block k (h.block hk).2.2 fun e=>hne k hk e.symm,h.2⟩,hf⟩
end OwnS
theorem ne_of_kinds {w : World} {T U : TypeId} {g : Nat} (h1 : ∃ c fz,w.heap[g]?=some (.cells c T fz)) (h2 : ∃ c fz,w.heap[g]?=some (.cells c U fz)) (hT : T ≠ U) : False:=by
 obtain ⟨c,fz,h1⟩:=h1
 obtain ⟨c',fz',h2⟩:=h2
 rw [h1] at h2
 injection h2 with h2
 injection h2 with _ h2
 exact hT h2
theorem OwnI.kind {T : TypeId} {w : World} {lo hi : Nat} {v : Value} {xs : List Int} (h : OwnI T w lo hi v xs) : ∀ g,v.ownBlock=some g → ∃ c fz,w.heap[g]?=some (.cells c T fz):=Lib.ownsRow_kind h.1
theorem run_append_S {P : Program} {w : World} {t ty e : TypeId} {i : TypeInfo} {z : Value} {size bytes : Nat} (ht : P.underlying t=some (.slice e)) (hi : P.info? e=some i) (hz : i.zero=some z)
 (hsize : i.size=size) (hby : i.bytes=bytes) (hzs : z.cells.size=size) (h0 : 0 < size)
 (lo hi' : Nat) (v : Value) (n : Nat) (F : Nat→Nat→Value) (hown : OwnS w lo hi' e size v n F) (hlo : lo≤w.heap.size)
 (b c : Nat) (G : Nat→Value) (hc : ∀ j,j < size→w.cell? ⟨b,j,none⟩=some (G j)) (h1 : ∀ j,j < size→(G j).oneCell'=true) (h63 : n+1≤maxLen) (hbytes : (n+1) * bytes≤140737488355328) :
 ∃ v' w',(Builtin.append_ #[t,t] ty #[v,.slice (some ⟨b,0,none⟩) 1 c]).run P w=.ok v' w'∧OwnS w' lo w'.heap.size e size v' (n+1) (fun k=>if k < n then F k else G)∧w.grownBy w' v.ownBlock:=by
 obtain ⟨xs,ho,hf⟩:=hown
 have hG : ∀ (j : Nat) (u : Value),((List.range size).map G)[j]?=some u→j < size∧u=G j:=fun j u hj=>by
  have hlt : j < size:=by
   rcases Nat.lt_or_ge j size with h | h
   ·exact h
   ·rw [List.getElem?_eq_none (by simpa using h)] at hj;cases hj
  simp [hlt] at hj
  exact ⟨hlt,hj.symm⟩
 obtain ⟨v',w',hr,h2,h3,_⟩:=run_append_own (P:=P) w lo t ty e i z size bytes ht hi hz hsize hby hzs h0 v n xs ho.1 ⟨b,0,none⟩ 1 c ((List.range size).map G) (by simp)
  (fun j u hj=>by
    obtain ⟨hlt,rfl⟩:=hG j u hj
    have hadd : (⟨b,0,none⟩ : Addr).add j=⟨b,0+j,none⟩:=by unfold Addr.add;split <;> simp_all
    rw [hadd,Nat.zero_add]
    exact hc j hlt)
  (fun u hu=>by
    simp only [List.mem_map,List.mem_range] at hu
    obtain ⟨j,hj,rfl⟩:=hu
    exact h1 j hj) h63 hbytes hlo
 refine ⟨v',w',hr,⟨_,Own.of_row h2,fun i hi j hj=> ?_⟩,h3⟩
 have hl : xs.length=n * size:=ho.len
 by_cases h : i < n
 ·have hle : i * size+j < n * size:=by
   have : (i+1) * size≤n * size:=Nat.mul_le_mul_right _ h
   rw [Nat.add_mul] at this;omega
  simp only [h,if_true]
  rw [List.getElem?_append_left (by omega),hf i h j hj]
 ·have : i=n:=by omega
  subst this
  simp only [h,if_false]
  rw [List.getElem?_append_right (by omega),hl,Nat.add_sub_cancel_left]
  simp [hj]
theorem info_partsS {P : Program} {t : TypeId} {z : Value} {size bytes : Nat} (h : (P.info? t).map (fun i=>(i.zero,i.size,i.bytes))=some (some z,size,bytes)) : ∃ i,P.info? t=some i∧i.zero=some z∧i.size=size∧i.bytes=bytes:=by
 cases hi : P.info? t with
 | none=>rw [hi] at h;cases h
 | some i =>
   rw [hi] at h
   simp only [Option.map_some,Option.some.injEq,Prod.mk.injEq] at h
   exact ⟨i,rfl,h.1,h.2.1,h.2.2⟩
theorem wpList_append_S {P : Program} {w : World} {ops : Array Oper} {rest : List Oper} {o : Oper} {a : Act} {Q : Exit→Act→World→Prop} (hgd : o.guard=none) (s x : Operand) (t : TypeId)
 (ho : o.op=.call { callee:=.builtin .append,args:=#[s,x],argTypes:=#[t,t] })
 (e : TypeId) (z : Value) (size bytes : Nat) (ht : P.underlying t=some (.slice e)) (hinfo : (P.info? e).map (fun i=>(i.zero,i.size,i.bytes))=some (some z,size,bytes)) (hzs : z.cells.size=size) (h0 : 0 < size)
 (lo hi' : Nat) (v : Value) (n : Nat) (F : Nat→Nat→Value) (hs : a.eval s=v) (hown : OwnS w lo hi' e size v n F) (hlo : lo≤w.heap.size)
 (b c : Nat) (G : Nat→Value) (hxu : a.eval x=.slice (some ⟨b,0,none⟩) 1 c) (hc : ∀ j,j < size→w.cell? ⟨b,j,none⟩=some (G j)) (h1 : ∀ j,j < size→(G j).oneCell'=true) (h63 : n+1≤maxLen) (hbytes : (n+1) * bytes≤140737488355328)
 (h : ∀ v' w',OwnS w' lo w'.heap.size e size v' (n+1) (fun k=>if k < n then F k else G)→w.grownBy w' v.ownBlock→wpList P ops Q rest (a.put o.dst v') w') :
 wpList P ops Q (o :: rest) a w:=by
 refine wpList_plain hgd fun K hK'=> ?_
 obtain ⟨i,hi,hz,hsz,hby⟩:=info_partsS hinfo
 obtain ⟨v',w',hr,h2,h3⟩:=run_append_S (P:=P) (ty:=o.type) ht hi hz hsz hby hzs h0 lo hi' v n F hown hlo b c G hc h1 h63 hbytes
 unfold Oper.wp
 simp [execOp,ho,resolve,invoke,builtin,hs,hxu,hr,Result.andThen]
 exact hK' _ _ (h v' w' h2 h3)
theorem step_append_S {P : Program} {w : World} {ops : Array Oper} {o : Oper} {a : Act} {K : Act→World→Prop} {Q : Exit→Act→World→Prop} {E : Prop} (hgd : o.guard=none) (s x : Operand) (t : TypeId)
 (ho : o.op=.call { callee:=.builtin .append,args:=#[s,x],argTypes:=#[t,t] })
 (e : TypeId) (z : Value) (size bytes : Nat) (ht : P.underlying t=some (.slice e)) (hinfo : (P.info? e).map (fun i=>(i.zero,i.size,i.bytes))=some (some z,size,bytes)) (hzs : z.cells.size=size) (h0 : 0 < size)
 (lo hi' : Nat) (v : Value) (n : Nat) (F : Nat→Nat→Value) (hs : a.eval s=v) (hown : OwnS w lo hi' e size v n F) (hlo : lo≤w.heap.size)
 (b c : Nat) (G : Nat→Value) (hxu : a.eval x=.slice (some ⟨b,0,none⟩) 1 c) (hc : ∀ j,j < size→w.cell? ⟨b,j,none⟩=some (G j)) (h1 : ∀ j,j < size→(G j).oneCell'=true) (h63 : n+1≤maxLen) (hbytes : (n+1) * bytes≤140737488355328)
 (h : ∀ v' w',OwnS w' lo w'.heap.size e size v' (n+1) (fun k=>if k < n then F k else G)→w.grownBy w' v.ownBlock→K (a.put o.dst v') w') :
 if Region.wanted o (yielded ops a.tmps)=true then Oper.wp P o a w K Q else E:=by
 have hw : Region.wanted o (yielded ops a.tmps)=true:=by simp [Region.wanted,hgd]
 rw [if_pos hw]
 obtain ⟨i,hi,hz,hsz,hby⟩:=info_partsS hinfo
 obtain ⟨v',w',hr,h2,h3⟩:=run_append_S (P:=P) (ty:=o.type) ht hi hz hsz hby hzs h0 lo hi' v n F hown hlo b c G hc h1 h63 hbytes
 unfold Oper.wp
 simp [execOp,ho,resolve,invoke,builtin,hs,hxu,hr,Result.andThen]
 exact h v' w' h2 h3
abbrev Cls:=List Int × Int
def clD : Cls:=([],0)
def clF (cs : List Cls) (f : Nat→Value) (i j : Nat) : Value :=
 match j with
 | 0=>f i
 | _=>.int .i64 (cs.getD i clD).2
def RdCl (w : World) (v : Value) (cs : List Cls) : Prop:=∃ f,RdS w 2 v cs.length (clF cs f) ∧ ∀ i,i < cs.length→Ints w (f i) (cs.getD i clD).1
theorem RdCl.below {w w' : World} {v : Value} {cs : List Cls} (h : RdCl w v cs) (hb : Below w.heap.size w w') : RdCl w' v cs:=by
 obtain ⟨f,h1,h2⟩:=h
 exact ⟨f,h1.below hb,fun i hi=>(h2 i hi).below hb⟩
theorem RdS.two {w : World} {v : Value} {cs : List Cls} {f : Nat→Value} (h : RdS w 2 v cs.length (clF cs f)) : ∃ p cap,v=.slice p cs.length cap∧(cs.length≤cap∧cap≤maxLen) ∧
 (0 < cs.length → ∃ b,p=some ⟨b,0,none⟩ ∧ ∀ i,i < cs.length→w.cell? ⟨b,i * 2,none⟩=some (f i)∧w.cell? ⟨b,i * 2+1,none⟩=some (.int .i64 (cs.getD i clD).2)):=by
 obtain ⟨p,cap,rfl,hm,h⟩:=h
 refine ⟨p,cap,rfl,hm,fun h0=> ?_⟩
 obtain ⟨b,hp,hx⟩:=h h0
 exact ⟨b,hp,fun i hi=>⟨hx i hi 0 (by omega),hx i hi 1 (by omega)⟩⟩
def OwnCl (w : World) (lo hi : Nat) (v : Value) (cs : List Cls) : Prop :=
 ∃ g,OwnS w lo hi 42 2 v cs.length (clF cs g) ∧ ∀ i,i < cs.length→OwnI 3 w lo hi (g i) (cs.getD i clD).1
theorem OwnCl.rd {w : World} {lo hi : Nat} {v : Value} {cs : List Cls} (h : OwnCl w lo hi v cs) : RdCl w v cs:=by
 obtain ⟨g,h1,h2⟩:=h
 exact ⟨g,h1.rd,fun i hi=>(h2 i hi).ints⟩
theorem OwnCl.below {w w' : World} {lo hi : Nat} {v : Value} {cs : List Cls} (h : OwnCl w lo hi v cs) (hb : Below w.heap.size w w') : OwnCl w' lo hi v cs:=by
 obtain ⟨g,h1,h2⟩:=h
 exact ⟨g,h1.below hb,fun i hi=>(h2 i hi).below hb⟩
theorem OwnCl.mono {w : World} {lo hi lo' hi' : Nat} {v : Value} {cs : List Cls} (h : OwnCl w lo hi v cs) (a : lo'≤lo) (b : hi≤hi') : OwnCl w lo' hi' v cs:=by
 obtain ⟨g,h1,h2⟩:=h
 exact ⟨g,h1.mono a b,fun i hi=>(h2 i hi).mono a b⟩
theorem OwnCl.setCell {w : World} {lo hi : Nat} {v : Value} {cs : List Cls} (h : OwnCl w lo hi v cs) {a : Addr} (ho : a.block < lo ∨ hi≤a.block) (u : Value) : OwnCl (w.setCell a u) lo hi v cs:=by
 obtain ⟨g,h1,h2⟩:=h
 exact ⟨g,h1.setCell ho u,fun i hi=>(h2 i hi).setCell ho u⟩
theorem OwnCl.shape {w : World} {lo hi : Nat} {v : Value} {cs : List Cls} (h : OwnCl w lo hi v cs) : ∃ p cap,v=.slice p cs.length cap∧cs.length≤cap∧cap≤maxLen:=by
 obtain ⟨g,h1,_⟩:=h
 obtain ⟨p,cap,e,h2,h3,_⟩:=h1.shape
 exact ⟨p,cap,e,h2,h3⟩
def RdClA (w : World) (v : Value) (cs : List Cls) : Prop :=
 ∃ (p : Option Addr) (cap : Nat) (f : Nat→Value),v=.slice p cs.length cap∧(cs.length≤cap∧cap≤maxLen) ∧
   (0 < cs.length → ∃ b off,p=some ⟨b,off,none⟩ ∧ ∀ i,i < cs.length→w.cell? ⟨b,off+i * 2,none⟩=some (f i)∧w.cell? ⟨b,off+i * 2+1,none⟩=some (.int .i64 (cs.getD i clD).2)) ∧
   ∀ i,i < cs.length→Ints w (f i) (cs.getD i clD).1
theorem RdClA.below {w w' : World} {v : Value} {cs : List Cls} (h : RdClA w v cs) (hb : Below w.heap.size w w') : RdClA w' v cs:=by
 obtain ⟨p,cap,f,e,h1,h2,h3⟩:=h
 refine ⟨p,cap,f,e,h1,fun h0=> ?_,fun i hi=>(h3 i hi).below hb⟩
 obtain ⟨b,off,hp,hx⟩:=h2 h0
 exact ⟨b,off,hp,fun i hi=>⟨cell_below hb (hx i hi).1,cell_below hb (hx i hi).2⟩⟩
theorem blk2 {w : World} {b : Nat} {x0 x1 : Value} {T : TypeId} (h : w.heap[b]?=some (.cells #[x0,x1] T (0,0))) :
 w.cell? ⟨b,0,none⟩=some x0∧w.cell? ⟨b,1,none⟩=some x1∧(∀ j,w.frozen? ⟨b,j,none⟩=false)∧b < w.heap.size :=
 ⟨cell_of_blk h rfl,cell_of_blk h rfl,free_of_blk h,blk_lt h⟩
theorem info_cls : (Tryz.prog.info? 42).map (fun i=>(i.zero,i.size,i.bytes))=some (some (.agg #[.slice none 0 0,.int .i64 0]),2,32):=by kernel_rfl
theorem keep4w {wr W W' : World} {a0 a1 a2 a3 : Addr} {v0 v1 v2 v3 : Value} (hb : Below W.heap.size W W') (h : (W.cell? a0=some v0∧W.cell? a1=some v1∧W.cell? a2=some v2∧W.cell? a3=some v3)∧Below wr.heap.size wr W) :
 (W'.cell? a0=some v0∧W'.cell? a1=some v1∧W'.cell? a2=some v2∧W'.cell? a3=some v3)∧Below wr.heap.size wr W' :=
 ⟨⟨cell_below hb h.1.1,cell_below hb h.1.2.1,cell_below hb h.1.2.2.1,cell_below hb h.1.2.2.2⟩,below_trans h.2 hb⟩
def ltB : List Int→List Int→Bool
 | [],[]=>false
 | [],_ :: _=>true
 | _ :: _,[]=>false
 | x :: xs,y :: ys=>if x < y then true else if y < x then false else ltB xs ys
def cmpB : List Int→List Int→Int
 | [],[]=>0
 | [],_ :: _=> -1
 | _ :: _,[]=>1
 | x :: xs,y :: ys=>if x < y then -1 else if y < x then 1 else cmpB xs ys
theorem cmpB_lt : ∀ xs ys,decide (0≤cmpB xs ys) = !ltB xs ys
 | [],[]=>rfl
 | [],_ :: _=>rfl
 | _ :: _,[]=>rfl
 | x :: xs,y :: ys=>by
   unfold cmpB ltB
   by_cases h1 : x < y
   ·simp [h1]
   ·by_cases h2 : y < x
    ·simp [h1,h2]
    ·simp only [h1,h2,if_false];exact cmpB_lt xs ys
theorem cmpB_cases : ∀ xs ys,cmpB xs ys = -1 ∨ cmpB xs ys=0 ∨ cmpB xs ys=1
 | [],[]=>by simp [cmpB]
 | [],_ :: _=>by simp [cmpB]
 | _ :: _,[]=>by simp [cmpB]
 | x :: xs,y :: ys=>by
   unfold cmpB
   by_cases h1 : x < y
   ·simp [h1]
   ·by_cases h2 : y < x
    ·simp [h1,h2]
    ·simp only [h1,h2,if_false];exact cmpB_cases xs ys
theorem drop_at {xs : List Int} {k : Nat} (h : k < xs.length) : xs.drop k=xs.getD k 0 :: xs.drop (k+1):=by
 rw [List.drop_eq_getElem_cons h,List.getD_eq_getElem?_getD,List.getElem?_eq_getElem h];rfl
theorem drop_end {xs : List Int} {k : Nat} (h : xs.length≤k) : xs.drop k=[]:=List.drop_eq_nil_iff.2 h
def trimN (xs : List Int) : Nat→Nat
 | 0=>0
 | n+1=>if 1≤n∧xs.getD n 0=(n : Int) then trimN xs n else n+1
theorem trimN_le (xs : List Int) : ∀ n,trimN xs n≤n
 | 0=>Nat.le_refl _
 | n+1=>by
   unfold trimN
   split
   ·exact Nat.le_trans (trimN_le xs n) (Nat.le_succ _)
   ·exact Nat.le_refl _
def trimL (xs : List Int) : List Int:=xs.take (trimN xs xs.length)
theorem trimL_length (xs : List Int) : (trimL xs).length=trimN xs xs.length:=by
 unfold trimL;rw [List.length_take];have:=trimN_le xs xs.length;omega
theorem ints_take2 {w : World} {p : Option Addr} {cap : Nat} {xs : List Int} (h : Ints w (.slice p xs.length cap) xs) {i : Nat} (hi : i≤xs.length) : Ints w (.slice p i cap) (xs.take i):=by
 obtain ⟨q,c,e,⟨h1,h2⟩,h3⟩:=h
 injection e with e1 e2 e3
 subst e1 e3
 have hl : (xs.take i).length=i:=by rw [List.length_take];omega
 refine ⟨p,cap,by rw [hl],⟨by omega,h2⟩,fun h0=> ?_⟩
 obtain ⟨b,off,hp,hx⟩:=h3 (by omega)
 refine ⟨b,off,hp,fun j hj=> ?_⟩
 rw [hx j (by omega)]
 unfold iv
 rw [List.getD_eq_getElem?_getD,List.getD_eq_getElem?_getD,List.getElem?_take_of_lt (by omega)]
theorem isNaN_any (n : Int) (w : World) : Calls Tryz.prog 138 #[.int .i64 n] w fun e w'=>e=.returned (.bool false)∧w=w':=by
 have h : (n != n)=false:=by simp
 go_enter Tryz.func138,Tryz.ntmps138
 go_wp2
 go_ret
 exact ⟨rfl,rfl⟩
theorem cmpInt_any (a b : Int) (w : World) : Calls Tryz.prog 112 #[.int .i64 a,.int .i64 b] w fun e w'=>e=.returned (.int .i64 (if a < b then -1 else if b < a then 1 else 0))∧w=w':=by
 go_enter Tryz.func112,Tryz.ntmps112
 by_cases h1 : a < b
 ·go_wp2_with (go_at_call 138;refine (isNaN_any _ _).mono ?_;rintro e w' ⟨rfl,rfl⟩)
  go_ret
  exact ⟨ret_int (by simp [h1]),rfl⟩
 ·by_cases h2 : b < a
  ·go_wp2_with (go_at_call 138;refine (isNaN_any _ _).mono ?_;rintro e w' ⟨rfl,rfl⟩)
   go_ret
   exact ⟨ret_int (by simp [h1,h2]),rfl⟩
  ·go_wp2_with (go_at_call 138;refine (isNaN_any _ _).mono ?_;rintro e w' ⟨rfl,rfl⟩)
   go_ret
   exact ⟨ret_int (by simp [h1,h2]),rfl⟩
theorem compare_any (u v : Value) (xs ys : List Int) (w : World) (h1 : Ints w u xs) (h2 : Ints w v ys) :
 Calls Tryz.prog 71 #[u,v] w fun e w'=>e=.returned (.int .i64 (cmpB xs ys))∧w=w':=by
 obtain ⟨p,cap,rfl,⟨hx1,hx⟩,hxc⟩:=h1
 obtain ⟨q,cap',rfl,⟨hy1,hy⟩,hyc⟩:=h2
 unfold maxLen at hx hy
 have Hxc:=Lib.hid hxc
 have Hyc:=Lib.hid hyc
 clear hxc hyc
 go_enter Tryz.func71,Tryz.ntmps71
 go_wp2
 go_loop [11] (fun s=> ∃ k : Nat,k≤xs.length∧k≤ys.length∧s=.int .i64 k∧Hid (cmpB xs ys=cmpB (xs.drop k) (ys.drop k))) (fun s=>xs.length - (intOf s).toNat)
 case atStart=>exact ⟨0,Nat.zero_le _,Nat.zero_le _,rfl,rfl⟩
 case round =>
  obtain ⟨k,hk,hk2,rfl,hc⟩:=hrel
  by_cases hlt : k < xs.length
  ·have hlt1 : (k : Int) < (xs.length : Int):=by omega
   have hlt0 : (0 : Int)≤(k : Int):=by omega
   obtain ⟨b,off,rfl,hcx⟩:=Hxc.out (by omega)
   have c1:=hcx k hlt
   unfold iv at c1
   by_cases hlt2 : k < ys.length
   ·have hlt3 : ¬ (ys.length : Int)≤(k : Int):=by omega
    have hlt4 : (k : Int) < (ys.length : Int):=by omega
    obtain ⟨b',off',rfl,hcy⟩:=Hyc.out (by omega)
    have c2:=hcy k hlt2
    unfold iv at c2
    have Hd:=Lib.hid (show cmpB xs ys=if xs.getD k 0 < ys.getD k 0 then -1 else if ys.getD k 0 < xs.getD k 0 then 1 else cmpB (xs.drop (k+1)) (ys.drop (k+1)) by rw [hc.out,drop_at hlt,drop_at hlt2];rfl)
    obtain ⟨x,hx'⟩ : ∃ x,x=xs.getD k 0:=⟨_,rfl⟩
    obtain ⟨y,hy'⟩ : ∃ y,y=ys.getD k 0:=⟨_,rfl⟩
    rw [← hx',← hy'] at Hd
    rw [← hx'] at c1
    rw [← hy'] at c2
    clear hx' hy' hcx hcy hc
    go_wp2_with fail
    refine (cmpInt_any _ _ _).mono ?_
    rintro e w' ⟨rfl,rfl⟩
    by_cases h1 : x < y
    ·rw [if_pos h1]
     have Hf:=Lib.hid (show cmpB xs ys = -1 by rw [Hd.out,if_pos h1])
     go_wp2_with fail
     go_ret
     exact ⟨ret_int Hf.out.symm,rfl⟩
    ·by_cases h2 : y < x
     ·rw [if_neg h1,if_pos h2]
      have Hf:=Lib.hid (show cmpB xs ys=1 by rw [Hd.out,if_neg h1,if_pos h2])
      go_wp2_with fail
      go_ret
      exact ⟨ret_int Hf.out.symm,rfl⟩
     ·rw [if_neg h1,if_neg h2]
      have Hf:=Lib.hid (show cmpB xs ys=cmpB (xs.drop (k+1)) (ys.drop (k+1)) by rw [Hd.out,if_neg h1,if_neg h2])
      clear Hd
      go_wp2_with fail
      go_round
      case rel=>exact ⟨k+1,by omega,by omega,by go_num,Hf.out⟩
      case measure=>simp [intOf];omega
   ·obtain rfl : k=ys.length:=by omega
    have hlt3 : (ys.length : Int)≤(ys.length : Int):=by omega
    have Hf:=Lib.hid (show cmpB xs ys=1 by rw [hc.out,drop_at hlt,drop_end (Nat.le_refl _)];rfl)
    clear hc
    go_wp2_with fail
    go_ret
    exact ⟨ret_int Hf.out.symm,rfl⟩
  ·obtain rfl : k=xs.length:=by omega
   have hlt1 : ¬ (xs.length : Int) < (xs.length : Int):=by omega
   by_cases hl : xs.length < ys.length
   ·have hl2 : (xs.length : Int) < (ys.length : Int):=by omega
    have Hf:=Lib.hid (show cmpB xs ys = -1 by rw [hc.out,drop_end (Nat.le_refl _),drop_at hl];rfl)
    clear hc
    go_wp2_with fail
    go_ret
    exact ⟨ret_int Hf.out.symm,rfl⟩
   ·have hl2 : ¬ (xs.length : Int) < (ys.length : Int):=by omega
    have Hf:=Lib.hid (show cmpB xs ys=0 by rw [hc.out,drop_end (Nat.le_refl _),drop_end (by omega)];rfl)
    have hl3 : decide (xs.length < ys.length)=false:=by simp;omega
    clear hc
    go_wp2_with fail
    go_ret
    exact ⟨ret_int Hf.out.symm,rfl⟩
theorem implTrim_yes (v : Value) (xs : List Int) (w : World) (h : Ints w v xs) (hp : permOk xs=true) :
 Calls Tryz.prog 15 #[v] w (RetI w (trimL xs)):=by
 have hl : xs.length≤7:=(of_decide_eq_true hp).2.1
 have Hp:=Lib.hid hp
 clear hp
 have Hh:=Lib.hid h
 obtain ⟨p,cap,rfl,⟨hx1,hx⟩,hxc⟩:=h
 unfold maxLen at hx
 clear hxc
 go_enter Tryz.func15,Tryz.ntmps15
 go_wp2_with fail
 refine (implIsPerm_b _ xs _ Hp.out _ Hh.out).mono ?_
 rintro e w1 ⟨rfl,hb⟩
 have Hb:=Lib.hid hb
 have Hh1:=Lib.hid (Hh.out.below hb)
 clear hb
 go_wp2_with fail
 go_loop [3] (fun s=> ∃ n : Nat,n≤xs.length∧s=.int .i64 n∧Hid (trimN xs xs.length=trimN xs n)) (fun s=>(intOf s).toNat)
 case atStart=>exact ⟨xs.length,Nat.le_refl _,rfl,rfl⟩
 case round =>
  obtain ⟨n,hn,rfl,ht⟩:=hrel
  have fin : trimN xs n=n→Hid (trimN xs xs.length=n):=fun h=>by rw [Hid,ht.out,h]
  by_cases h1 : 1 < n
  ·have h2 : (1 : Int) < (n : Int):=by omega
   have i1 : (0 : Int)≤(n : Int) - 1:=by omega
   have i2 : (n : Int) - 1 < (xs.length : Int):=by omega
   have i3 : ((n : Int) - 1).toNat=n - 1:=by omega
   obtain ⟨_,_,e,_,hxc⟩:=Hh1.out
   injection e with e1 e2 e3
   subst e1 e3
   obtain ⟨b,off,rfl,hc⟩:=hxc (by omega)
   have c1:=hc (n - 1) (by omega)
   unfold iv at c1
   obtain ⟨x,hx'⟩ : ∃ x,x=xs.getD (n - 1) 0:=⟨_,rfl⟩
   rw [← hx'] at c1
   have Ht:=Lib.hid (show trimN xs n=if 1≤n - 1∧x=((n - 1 : Nat) : Int) then trimN xs (n - 1) else n by
    obtain ⟨m,rfl⟩ : ∃ m,n=m+1:=⟨n - 1,by omega⟩
    rw [hx'];rfl)
   clear hx' hxc hc
   by_cases he : x=(n : Int) - 1
   ·subst he
    have Hf:=Lib.hid (show trimN xs xs.length=trimN xs (n - 1) by rw [ht.out,Ht.out,if_pos ⟨by omega,by omega⟩])
    clear Ht ht fin
    go_wp2_with fail
    go_round
    case rel=>exact ⟨n - 1,by omega,by congr 1;omega,Hf.out⟩
    case measure=>simp [intOf];omega
   ·have hz : (x == (n : Int) - 1)=false:=by simp [he]
    have Hn:=fin (by rw [Ht.out,if_neg (by rintro ⟨_,h⟩;omega)])
    have j1 : (0 : Int)≤(n : Int):=by omega
    have j2 : (n : Int)≤(cap : Int):=by omega
    clear Ht ht fin
    go_wp2_with fail
    refine (clone_any _ (xs.take n) _ (ints_take2 Hh1.out hn) (by rw [List.length_take];omega)).mono ?_
    rintro e w2 ⟨u,rfl,ho,hb2⟩
    obtain ⟨pv,kv,rfl,_,_⟩:=ho.shape
    rw [show (xs.take n).length=n by rw [List.length_take];omega] at ho ⊢
    have Ho:=Lib.hid ho
    clear ho
    go_wp2_with fail
    go_ret
    refine ⟨_,rfl,?_,?_⟩
    ·show OwnI _ _ _ _ _ (xs.take (trimN xs xs.length))
     rw [Hn.out]
     exact Ho.out.mono Hb.out.size (Nat.le_refl _)
    ·exact Hb.out.trans (hb2.mono Hb.out.size)
  ·have h2 : ¬ (1 : Int) < (n : Int):=by omega
   have Hn:=fin (by
    match n,h1 with
    | 0,_=>rfl
    | 1,_=>rfl
    | n+2,h=>omega)
   have j1 : (0 : Int)≤(n : Int):=by omega
   have j2 : (n : Int)≤(cap : Int):=by omega
   clear ht fin
   go_wp2_with fail
   refine (clone_any _ (xs.take n) _ (ints_take2 Hh1.out hn) (by rw [List.length_take];omega)).mono ?_
   rintro e w2 ⟨u,rfl,ho,hb2⟩
   obtain ⟨pv,kv,rfl,_,_⟩:=ho.shape
   rw [show (xs.take n).length=n by rw [List.length_take];omega] at ho ⊢
   have Ho:=Lib.hid ho
   clear ho
   go_wp2_with fail
   go_ret
   refine ⟨_,rfl,?_,?_⟩
   ·show OwnI _ _ _ _ _ (xs.take (trimN xs xs.length))
    rw [Hn.out]
    exact Ho.out.mono Hb.out.size (Nat.le_refl _)
   ·exact Hb.out.trans (hb2.mono Hb.out.size)
def clAt (cs : List Cls) (k : Nat) : Bool :=
 permOk (cs.getD k clD).1 && decide (trimN (cs.getD k clD).1 (cs.getD k clD).1.length=(cs.getD k clD).1.length) && !decide ((cs.getD k clD).2=0) && !decide ((cs.getD k clD).2 < -1000000) && !decide (1000000 < (cs.getD k clD).2) &&
  (!decide (0 < k) || ltB (cs.getD (k - 1) clD).1 (cs.getD k clD).1)
def clsOk (cs : List Cls) : Bool:=decide (cs.length≤100) && (List.range cs.length).all (clAt cs)
theorem clsOk_big {cs : List Cls} (h : 100 < cs.length) : clsOk cs=false:=by
 unfold clsOk;rw [decide_eq_false (by omega)];rfl
theorem clsOk_bad {cs : List Cls} {k : Nat} (hk : k < cs.length) (h : clAt cs k=false) : clsOk cs=false:=by
 unfold clsOk
 have : (List.range cs.length).all (clAt cs)=false:=List.all_eq_false.2 ⟨k,List.mem_range.2 hk,by simp [h]⟩
 rw [this,Bool.and_false]
theorem clsOk_yes {cs : List Cls} (hl : cs.length≤100) (h : ∀ k,k < cs.length→clAt cs k=true) : clsOk cs=true:=by
 unfold clsOk
 rw [decide_eq_true hl,Bool.true_and,List.all_eq_true]
 exact fun k hk=>h k (List.mem_range.1 hk)
theorem implTrim_sh (v : Value) (xs : List Int) (w : World) (h : Ints w v xs) (hp : permOk xs=true) :
 Calls Tryz.prog 15 #[v] w fun e w'=> ∃ (p : Option Addr) (k : Nat),e=.returned (.slice p (trimN xs xs.length) k)∧Below w.heap.size w w' :=
 (implTrim_yes v xs w h hp).mono fun e w' ⟨u,h1,h2,h3⟩=>by
   obtain ⟨p,k,rfl,_,_⟩:=h2.shape
   exact ⟨p,k,by rw [h1,trimL_length],h3⟩
theorem keep3w {wr W W' : World} {a0 a1 a2 : Addr} {v0 v1 v2 : Value} (hb : Below W.heap.size W W') (h : (W.cell? a0=some v0∧W.cell? a1=some v1∧W.cell? a2=some v2)∧Below wr.heap.size wr W) :
 (W'.cell? a0=some v0∧W'.cell? a1=some v1∧W'.cell? a2=some v2)∧Below wr.heap.size wr W' :=
 ⟨⟨cell_below hb h.1.1,cell_below hb h.1.2.1,cell_below hb h.1.2.2⟩,below_trans h.2 hb⟩
theorem Qt.belowS {w w' : World} (h : Qt w w') : Below w.heap.size w w':=h.below _
end
end Go.Proofs.YtincaodpjdeoeaaGreatDoor
