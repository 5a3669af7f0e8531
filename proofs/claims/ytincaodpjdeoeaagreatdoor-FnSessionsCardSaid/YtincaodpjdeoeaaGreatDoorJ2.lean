/-
  A part of the proof of FnSessions (texts of one proof, joined).
-/
import Derived.Test.YtincaodpjdeoeaaGreatDoorJ1
import Derived.Test.YtincaodpjdeoeaaGreatDoorShelf
namespace Go.Proofs.YtincaodpjdeoeaaGreatDoor
set_option linter.all false
set_option maxRecDepth 100000
set_option maxHeartbeats 16000000
section
open Go.RowKit
def digB (n : Nat) : ByteArray:=⟨#[UInt8.ofNat (48+n)]⟩
theorem enc_digit {n : Nat} (hn : n < 10) : Utf8.encode (48+(n : Int))=digB n:=by
 match n,hn with
 | 0,_ | 1,_ | 2,_ | 3,_ | 4,_ | 5,_ | 6,_ | 7,_ | 8,_ | 9,_=>rfl
theorem FormatInt_small (n : Nat) (w : World) (hn : n < 10) :
 Calls Tryz.prog 9 #[.int .i64 (n : Int)] w fun e w'=>e=.returned (.string (digB n))∧w'=w:=by
 have h1 : decide ((n : Int) < 0)=false:=by simp
 have h2 : decide ((n : Int) < 10)=true:=by simp;omega
 have h3 : ¬ ((n : Int) < 0):=by omega
 go_enter Tryz.func9,Tryz.ntmps9
 go_wp2_with fail
 rw [enc_digit hn]
 go_ret
 exact ⟨rfl,rfl⟩
def fmtL (xs : List Int) : List UInt8:=xs.map fun x=>UInt8.ofNat (48+(x.toNat+1))
def fmtA (xs : List Int) : ByteArray:=⟨(fmtL xs).toArray⟩
theorem fmtA_size (xs : List Int) : (fmtA xs).size=xs.length:=by simp [fmtA,ByteArray.size,fmtL]
theorem fmtA_snoc (xs : List Int) (x : Int) : fmtA (xs ++ [x])=fmtA xs ++ digB (x.toNat+1):=by
 apply ByteArray.ext
 rw [ByteArray.data_append]
 simp [fmtA,fmtL,digB]
theorem FormatPerm_any (v : Value) (xs : List Int) (w : World) (h : Ints w v xs) (hp : permOk xs=true) :
 Calls Tryz.prog 7 #[v] w fun e w'=>e=.returned (.string (fmtA xs))∧Below w.heap.size w w':=by
 have Hh:=Lib.hid h
 have Hp:=Lib.hid hp
 obtain ⟨p,cap,rfl,⟨hx1,hx⟩,hxc⟩:=h
 unfold maxLen at hx
 obtain ⟨hl1,hl7,hr,_⟩:=of_decide_eq_true hp
 have Hr:=Lib.hid hr
 clear hp hr
 go_enter Tryz.func7,Tryz.ntmps7
 go_wp2_with fail
 refine (implIsPerm_any _ xs _ Hh.out).mono ?_
 rintro e w1 ⟨rfl,hb1⟩
 rw [Hp.out]
 have Hb1:=Lib.hid hb1
 clear hb1
 go_wp2_with fail
 go_loopg [3,11] xs.length (fun g s3 i wr=> ∃ k : Nat,k≤xs.length∧g=xs.length - k∧i=.int .i64 k∧Below w.heap.size w wr∧s3=.string (fmtA (xs.take k)))
 case atStart=>exact ⟨0,Nat.zero_le _,rfl,rfl,Hb1.out,rfl⟩
 case round =>
  obtain ⟨k,hk,rfl,rfl,hb,rfl⟩:=hrel
  by_cases hlt : k < xs.length
  ·obtain ⟨b,off,rfl,hc⟩:=hxc (by omega)
   have c1:=cell_below hb (hc k hlt)
   obtain ⟨m,hm,hm7⟩ : ∃ m : Nat,xs.getD k 0=(m : Int)∧m < xs.length:=by
    have:=Hr.out _ (getD_mem hlt)
    exact ⟨(xs.getD k 0).toNat,by omega,by omega⟩
   unfold iv at c1
   rw [hm] at c1
   have hsn:=fmtA_snoc (xs.take k) (xs.getD k 0)
   rw [← take_snoc xs k hlt,hm,Int.toNat_natCast] at hsn
   have Hs:=Lib.hid hsn
   obtain ⟨s,hs⟩ : ∃ s,s=fmtA (xs.take k):=⟨_,rfl⟩
   have hz : s.size=k:=by rw [hs,fmtA_size,List.length_take];omega
   have HS:=Lib.hid hs
   have Hb:=Lib.hid hb
   rw [← hs]
   clear hxc hc hm hs hsn hb
   have hdz : (digB (m+1)).size=1:=rfl
   go_wp2_with fail
   refine (FormatInt_small (m+1) _ (by omega)).mono ?_
   rintro e w2 ⟨rfl,rfl⟩
   go_wp2_with fail
   go_roundg (xs.length - (k+1))
   case measure=>omega
   case rel=>exact ⟨k+1,by omega,rfl,by go_num,Hb.out,by rw [Hs.out,HS.out]⟩
  ·obtain rfl : k=xs.length:=by omega
   have Hb:=Lib.hid hb
   clear hb
   go_wp2_with fail
   go_ret
   rw [List.take_length]
   exact ⟨rfl,Hb.out⟩
def fmtF : Nat→Nat→List UInt8
 | 0,n=>[UInt8.ofNat (48+n % 10)]
 | f+1,n=>if n < 10 then [UInt8.ofNat (48+n)] else fmtF f (n / 10) ++ [UInt8.ofNat (48+n % 10)]
def fmtN (n : Nat) : List UInt8:=fmtF 17 n
def bytA (l : List UInt8) : ByteArray:=⟨l.toArray⟩
theorem bytA_size (l : List UInt8) : (bytA l).size=l.length:=rfl
theorem bytA_append (a b : List UInt8) : bytA (a ++ b)=bytA a ++ bytA b:=by
 apply ByteArray.ext
 rw [ByteArray.data_append]
 simp [bytA]
theorem fmtF_len : ∀ f n,(fmtF f n).length≤f+1
 | 0,n=>Nat.le_refl _
 | f+1,n=>by
   unfold fmtF
   split
   ·simp
   ·rw [List.length_append]
    have:=fmtF_len f (n / 10)
    simp;omega
theorem digB_eq (n : Nat) : digB n=bytA [UInt8.ofNat (48+n)]:=rfl
theorem FormatInt_f : ∀ (f n : Nat) (w : World),f≤17→n < 10 ^ (f+1) →
 Calls Tryz.prog 9 #[.int .i64 (n : Int)] w fun e w'=>e=.returned (.string (bytA (fmtF f n)))∧w'=w
 | 0,n,w,_,hn=>by
   have e : fmtF 0 n=[UInt8.ofNat (48+n)]:=by unfold fmtF;rw [Nat.mod_eq_of_lt (by simpa using hn)]
   rw [e]
   exact FormatInt_small n w (by simpa using hn)
 | f+1,n,w,hf,hn=>by
   by_cases h10 : n < 10
   ·have e : fmtF (f+1) n=[UInt8.ofNat (48+n)]:=by unfold fmtF;rw [if_pos h10]
    rw [e]
    exact FormatInt_small n w h10
   have e : fmtF (f+1) n=fmtF f (n / 10) ++ [UInt8.ofNat (48+n % 10)]:=by rw [fmtF,if_neg h10]
   rw [e]
   have hd : n / 10 < 10 ^ (f+1):=by
    rw [Nat.div_lt_iff_lt_mul (by omega)]
    exact hn
   have hp : 10 ^ (f+2)≤1000000000000000000 * 10:=by
    have : 10 ^ (f+2)≤10 ^ 19:=Nat.pow_le_pow_right (by omega) (by omega)
    exact this
   have hbig : n < 9223372036854775807:=by
    have h18 : 10 ^ (f+1+1)≤10 ^ 18 ∨ f=17:=by
     rcases Nat.lt_or_ge f 17 with h | h
     ·exact .inl (Nat.pow_le_pow_right (by omega) (by omega))
     ·omega
    rcases h18 with h | h
    ·have : (10 : Nat) ^ 18=1000000000000000000:=by decide
     omega
    ·omega
   have HI:=Lib.hid (fun w=>FormatInt_f f (n / 10) w (by omega) hd)
   obtain ⟨q,hq⟩ : ∃ q,q=n / 10:=⟨_,rfl⟩
   obtain ⟨r,hr⟩ : ∃ r,r=n % 10:=⟨_,rfl⟩
   have hqi : (n : Int) / 10=(q : Int):=by omega
   have hqr : (n : Int).tdiv 10=(q : Int):=by rw [Int.tdiv_eq_ediv_of_nonneg (by omega)];exact hqi
   have hri : (n : Int) % 10=(r : Int):=by omega
   have hrr : (n : Int).tmod 10=(r : Int):=by rw [Int.tmod_eq_emod_of_nonneg (by omega)];exact hri
   have hr10 : r < 10:=by omega
   have hen:=enc_digit hr10
   have hsz:=fmtF_len f q
   rw [← hq] at HI ⊢
   rw [← hr]
   have h1 : ¬ ((n : Int) < 0):=by omega
   have h2 : ¬ ((n : Int) < 10):=by omega
   have hap:=bytA_append (fmtF f q) [UInt8.ofNat (48+r)]
   rw [← digB_eq] at hap
   have Hap:=Lib.hid hap
   obtain ⟨s,hs⟩ : ∃ s,s=bytA (fmtF f q):=⟨_,rfl⟩
   have hsz2 : s.size≤20:=by rw [hs,bytA_size];omega
   rw [← hs] at HI Hap
   have hdz : (digB r).size=1:=rfl
   clear hd hp e hap hs hq hr
   go_enter Tryz.func9,Tryz.ntmps9
   go_wp2_with fail
   refine (HI.out _).mono ?_
   rintro e w2 ⟨rfl,rfl⟩
   go_wp2_with fail
   go_ret
   rw [Hap.out]
   exact ⟨rfl,rfl⟩
theorem FormatInt_any (n : Nat) (w : World) (hn : n < 1000000000000000000) :
 Calls Tryz.prog 9 #[.int .i64 (n : Int)] w fun e w'=>e=.returned (.string (bytA (fmtN n)))∧w'=w :=
 FormatInt_f 17 n w (Nat.le_refl _) hn
end
section
open Go.RowKit Go.Shelf Go.Lib
def strV (xs : List (List UInt8)) (j : Nat) : Value:=.string (bytA (xs.getD j []))
theorem bytA_data (l : List UInt8) : (bytA l).data.toList=l:=rfl
theorem data_bytA (s : ByteArray) : bytA s.data.toList=s:=rfl
theorem Join_any (v : Value) (xs : List (List UInt8)) (sep : List UInt8) (w : World) (h : Rd w v xs.length (strV xs)) (hN : xs.length≤100000) (hl : (Lib.join xs sep).length≤100000000) :
 Calls Tryz.prog 31 #[v,.string (bytA sep)] w fun e w'=>e=.returned (.string (bytA (Lib.join xs sep)))∧Below w.heap.size w w':=by
 obtain ⟨p,cap,rfl,⟨m1,m2⟩,hc⟩:=h
 rcases Nat.eq_zero_or_pos xs.length with h0 | h0
 ·have hx : xs=[]:=List.length_eq_zero_iff.1 h0
  have hcon:=Any.strings_Join_none (P:=Tryz.prog) (ρ:=Tryz.joinS_ren) Tryz.joinS Tryz.joinX p cap (bytA sep) w
  change Calls Tryz.prog 31 _ _ _ at hcon
  rw [h0]
  refine hcon.mono fun e w' ⟨he,hw⟩=> ?_
  rw [hw,he,hx]
  exact ⟨rfl,Below.refl _ _⟩
 ·obtain ⟨b,off,rfl,hd⟩:=hc h0
  have hlt:=World.block_lt_of_cell? w _ (hd 0 h0)
  have em : (xs.map bytA).map (·.data.toList)=xs:=by
   rw [List.map_map]
   exact List.map_id' _
  have hcon:=Any.strings_Join (P:=Tryz.prog) (ρ:=Tryz.joinS_ren) Tryz.joinS Tryz.joinX b off cap (xs.map bytA) (bytA sep) w (fun j x hx=>by
   rw [List.getElem?_map] at hx
   cases hxj : xs[j]? with
   | none=>rw [hxj] at hx;cases hx
   | some y =>
     rw [hxj] at hx
     cases hx
     have hj:=(List.getElem?_eq_some_iff.1 hxj).1
     rw [hd j hj]
     unfold strV
     rw [List.getD_eq_getElem?_getD,hxj]
     rfl) hlt (by rw [List.length_map];omega) (by rw [List.length_map];exact m1) (by rw [em];rw [bytA_data];omega)
  change Calls Tryz.prog 31 _ _ _ at hcon
  rw [em,List.length_map,bytA_data] at hcon
  exact hcon
theorem TrimPrefix_any (s p : ByteArray) (w : World) :
 Calls Tryz.prog 147 #[.string s,.string p] w fun e w'=>e=.returned (.string (bytA (Lib.trimPrefix s.data.toList p.data.toList)))∧w'=w :=
 Any.strings_TrimPrefix (P:=Tryz.prog) (ρ:=Tryz.trimS_ren) Tryz.trimS s p w
theorem index_one (l : List UInt8) (c : UInt8) : Lib.index l [c]=Lib.indexByte l c:=by
 induction l with
 | nil=>rfl
 | cons b l ih =>
   unfold Lib.index Lib.indexByte
   rw [ih]
   have e : [c].isPrefixOf (b :: l)=(b == c):=by
    show (c == b && [].isPrefixOf l)=(b == c)
    simp [Bool.beq_comm]
   rw [e]
theorem info_str : (Tryz.prog.info? 9).map (fun i=>(i.zero,i.size,i.bytes))=some (some (.string ByteArray.empty),1,16):=by kernel_rfl
theorem Split_any (s : ByteArray) (c : UInt8) (w : World) (hs : s.size≤1000000) :
 Calls Tryz.prog 117 #[.string s,.string ⟨#[c]⟩] w fun e w' =>
  e=.returned (.slice (some ⟨w.heap.size,0,none⟩) (Lib.countB s ⟨#[c]⟩+1) (Lib.countB s ⟨#[c]⟩+1))∧w'=w.alloc (.cells ((Lib.splitB ⟨#[c]⟩ 0 (Lib.countB s ⟨#[c]⟩) s).map Value.string).toArray 9):=by
 have hcon : Calls Tryz.prog (Tryz.splitS_ren.f 221) #[.string s,.string ⟨#[c]⟩,.int .i64 (0 : Nat),.int .i64 (-1)] w _ :=
  Any.strings_genSplit_core (P:=Tryz.prog) (ρ:=Tryz.splitS_ren) { Tryz.splitS with } info_str s ⟨#[c]⟩ 0 (-1) (Lib.countB s ⟨#[c]⟩+1) w (by omega) (Nat.le_refl _) (Nat.zero_le _)
   (fun x cc _=>(Any.strings_Index_one (P:=Tryz.prog) (ρ:=Tryz.splitS_ren) { Tryz.splitS with } x c _).mono fun e w' ⟨he,hw⟩=>⟨by rw [he];show _=Ending.returned (Value.int .i64 (Lib.index x.data.toList [c]));rw [index_one],hw⟩)
   ((Any.strings_Count_one (P:=Tryz.prog) (ρ:=Tryz.splitS_ren) { Tryz.splitS with } s c w).mono fun e w' ⟨he,hw⟩=>⟨by rw [he];show _=Ending.returned (Value.int .i64 ((Lib.count s.data.toList [c] : Nat) : Int));rw [Lib.count_one];rfl,hw⟩)
   (by decide) (by decide) (by
     have:=Lib.countB_le ⟨#[c]⟩ (Nat.le_refl _) s.size s (Nat.le_refl _)
     rw [if_pos (by decide)];omega)
 rw [Nat.add_sub_cancel,Lib.splitB_all ⟨#[c]⟩ (Nat.le_refl _) 0 _ s rfl] at hcon
 have e2 : Lib.cellsOf (Lib.splitB ⟨#[c]⟩ 0 (Lib.countB s ⟨#[c]⟩) s) (Lib.countB s ⟨#[c]⟩+1)=((Lib.splitB ⟨#[c]⟩ 0 (Lib.countB s ⟨#[c]⟩) s).map Value.string).toArray:=by
  rw [← Lib.splitB_all ⟨#[c]⟩ (Nat.le_refl _) 0 _ s rfl];exact Lib.cellsOf_full _
 rw [e2] at hcon
 change Calls Tryz.prog 146 _ _ _ at hcon
 have Hcon:=Lib.hid hcon
 clear hcon e2
 go_enter Tryz.func117,Tryz.ntmps117
 go_wp2_with fail
 refine Hcon.out.mono ?_
 rintro e w1 ⟨rfl,rfl⟩
 go_wp2_with fail
 go_ret
 exact ⟨rfl,rfl⟩
section
variable {P : Program} {ρ : Ren}
theorem cut1 (L : Lays.n220 P ρ) (s sep : ByteArray) (c : UInt8) (hsep : sep=⟨#[c]⟩) (w : World) (hs : s.size < 4294967281) :
 Calls P (ρ.f 220) #[.string s,.string sep] w fun e w'=>e=.returned (.tuple #[.string ⟨(Lib.cut s.data.toList sep.data.toList).1.toArray⟩,.string ⟨(Lib.cut s.data.toList sep.data.toList).2.1.toArray⟩,.bool (Lib.cut s.data.toList sep.data.toList).2.2]) ∧ ∃ n,w'=w.drewN n:=by
 have HI:=Lib.hid (show ∀ w,Calls P (ρ.f 219) #[.string s,.string sep] w fun e w'=>e=.returned (.int .i64 (Lib.index s.data.toList sep.data.toList))∧w'=w from fun w=>by
  rw [hsep]
  exact (Any.stringslite_Index_one { L with } s c w).mono fun e w' ⟨he,hw⟩=>⟨by rw [he,index_one],hw⟩)
 clear hsep
 rcases Lib.indexB_cases s sep with hix | ⟨i,hix,hroom⟩
 ·obtain ⟨e1,e2,e3⟩:=Lib.cutB_miss s sep hix
  rw [e1,e2,e3]
  have t3:=L.t3;have t4:=L.t4;have t9:=L.t9
  have a3 : ∀ w,(isAgg (ρ.t 3)).run P w=.ok false w:=run_isAgg_plain L.t3 rfl;have a4 : ∀ w,(isAgg (ρ.t 4)).run P w=.ok false w:=run_isAgg_plain L.t4 rfl;have a9 : ∀ w,(isAgg (ρ.t 9)).run P w=.ok false w:=run_isAgg_plain L.t9 rfl
  have e219 : ∀ args w,(callFunc (ρ.f 219) args).run P w=.ok (.enter (ρ.f 219) args) w:=enters_of L.f219 (by kernel_rfl) rfl
  have mixed:=L.mixed;have z3:=L.z3;have v3:=L.v3;have z4:=L.z4;have v4:=L.v4;have z9:=L.z9;have v9:=L.v9
  go_enter L.f220,Body.n220_ntmps ρ
  go_wp2_with (go_at_fn (ρ.f 219);refine (HI.out _).mono ?_;rintro e w' ⟨rfl,rfl⟩;rw [show Lib.index s.data.toList sep.data.toList=_ from hix])
  go_ret3
  exact ⟨rfl,0,rfl⟩
 ·obtain ⟨e1,e2,e3⟩:=Lib.cutB_hit s sep i hix
  rw [e1,e2,e3]
  have c1 : (0 : Int) ≤ ↑i:=by omega
  have c2 : (↑i : Int) ≤ ↑s.size:=by omega
  have c3 : (0 : Int) ≤ ↑i + ↑sep.size:=by omega
  have c4 : (↑i + ↑sep.size : Int) ≤ ↑s.size:=by omega
  have t3:=L.t3;have t4:=L.t4;have t9:=L.t9
  have a3 : ∀ w,(isAgg (ρ.t 3)).run P w=.ok false w:=run_isAgg_plain L.t3 rfl;have a4 : ∀ w,(isAgg (ρ.t 4)).run P w=.ok false w:=run_isAgg_plain L.t4 rfl;have a9 : ∀ w,(isAgg (ρ.t 9)).run P w=.ok false w:=run_isAgg_plain L.t9 rfl
  have e219 : ∀ args w,(callFunc (ρ.f 219) args).run P w=.ok (.enter (ρ.f 219) args) w:=enters_of L.f219 (by kernel_rfl) rfl
  have mixed:=L.mixed;have z3:=L.z3;have v3:=L.v3;have z4:=L.z4;have v4:=L.v4;have z9:=L.z9;have v9:=L.v9
  go_enter L.f220,Body.n220_ntmps ρ
  go_wp2_with (go_at_fn (ρ.f 219);refine (HI.out _).mono ?_;rintro e w' ⟨rfl,rfl⟩;rw [show Lib.index s.data.toList sep.data.toList=_ from hix])
  go_region_o
  go_wp2
  go_ret3
  exact ⟨rfl,1,rfl⟩
theorem cut2 (L : Lays.n145 P ρ) (s : ByteArray) (c : UInt8) (w : World) (hs : s.size < 4294967281) :
 Calls P (ρ.f 145) #[.string s,.string ⟨#[c]⟩] w fun e w'=>e=.returned (.tuple #[.string ⟨(Lib.cut s.data.toList [c]).1.toArray⟩,.string ⟨(Lib.cut s.data.toList [c]).2.1.toArray⟩,.bool (Lib.cut s.data.toList [c]).2.2]) ∧ ∃ n,w'=w.drewN n:=by
 have HI:=Lib.hid (fun w=>cut1 { L with } s ⟨#[c]⟩ c rfl w hs)
 obtain ⟨a,ha⟩ : ∃ a,a=(Lib.cut s.data.toList [c]).1:=⟨_,rfl⟩
 obtain ⟨b,hb⟩ : ∃ b,b=(Lib.cut s.data.toList [c]).2.1:=⟨_,rfl⟩
 obtain ⟨d,hd⟩ : ∃ d,d=(Lib.cut s.data.toList [c]).2.2:=⟨_,rfl⟩
 rw [show (⟨#[c]⟩ : ByteArray).data.toList=[c] from rfl] at HI
 rw [← ha,← hb,← hd] at HI ⊢
 have t4:=L.t4;have t9:=L.t9;have t59:=L.t59
 have a4 : ∀ w,(isAgg (ρ.t 4)).run P w=.ok false w:=run_isAgg_plain L.t4 rfl;have a9 : ∀ w,(isAgg (ρ.t 9)).run P w=.ok false w:=run_isAgg_plain L.t9 rfl;have a59 : ∀ w,(isAgg (ρ.t 59)).run P w=.ok false w:=run_isAgg_plain L.t59 rfl
 have e220 : ∀ args w,(callFunc (ρ.f 220) args).run P w=.ok (.enter (ρ.f 220) args) w:=enters_of L.f220 (by kernel_rfl) rfl
 have mixed:=L.mixed;have z4:=L.z4;have v4:=L.v4;have z9:=L.z9;have v9:=L.v9;have z59:=L.z59;have v59:=L.v59
 clear ha hb hd
 go_enter L.f145,Body.n145_ntmps ρ
 go_wp2_with (go_at_fn (ρ.f 220);refine (HI.out _).mono ?_;rintro e w' ⟨rfl,n,rfl⟩)
 go_ret3
 exact ⟨rfl,_,rfl⟩
end
theorem Cut_any (s : ByteArray) (c : UInt8) (w : World) (hs : s.size≤1000000) :
 Calls Tryz.prog 56 #[.string s,.string ⟨#[c]⟩] w fun e w'=>e=.returned (.tuple #[.string (bytA (Lib.cut s.data.toList [c]).1),.string (bytA (Lib.cut s.data.toList [c]).2.1),.bool (Lib.cut s.data.toList [c]).2.2]) ∧ ∃ n,w'=w.drewN n :=
 cut2 (P:=Tryz.prog) (ρ:=Tryz.cutS_ren) Tryz.cutS s c w (by omega)
end
section
open Go.RowKit
def OwnSt (w : World) (lo hi : Nat) (v : Value) (xs : List (List UInt8)) : Prop:=OwnF w lo hi 9 v xs.length (strV xs)
theorem OwnSt.snoc {w : World} {lo hi : Nat} {v : Value} {xs : List (List UInt8)} {y : List UInt8} (h : OwnF w lo hi 9 v (xs.length+1) (fun j=>if j < xs.length then strV xs j else Value.string (bytA y))) : OwnSt w lo hi v (xs ++ [y]):=by
 unfold OwnSt
 rw [List.length_append,List.length_singleton]
 refine OwnF.congr h fun j hj=> ?_
 unfold strV
 by_cases hl : j < xs.length
 ·rw [if_pos hl]
  simp [List.getD_eq_getElem?_getD,List.getElem?_append_left hl]
 ·have : j=xs.length:=by omega
  subst this
  rw [if_neg hl]
  simp [List.getD_eq_getElem?_getD]
theorem OwnSt.made0 (w : World) : OwnSt (w.alloc (.cells #[] 9)) w.heap.size (w.heap.size+1) (.slice (some ⟨w.heap.size,0,none⟩) 0 0) []:=OwnF.made0 w 9 (strV [])
def fmtI (x : Int) : List UInt8:=fmtN x.toNat
def fmtIs (xs : List Int) : List UInt8:=Lib.join (xs.map fmtI) [32]
theorem fmtN_len (n : Nat) : (fmtN n).length≤18:=fmtF_len 17 n
theorem join_len {m : Nat} : ∀ (xs : List (List UInt8)) (sep : List UInt8),(∀ x ∈ xs,x.length≤m)→(Lib.join xs sep).length≤xs.length * (m+sep.length)
 | [],sep,_=>by simp [Lib.join,List.intercalate]
 | [x],sep,h=>by
   have:=h x (List.mem_cons_self ..)
   simp [Lib.join,List.intercalate];omega
 | x :: y :: l,sep,h=>by
   have h1:=h x (List.mem_cons_self ..)
   have ih:=join_len (y :: l) sep fun z hz=>h z (List.mem_cons_of_mem _ hz)
   have e : Lib.join (x :: y :: l) sep=x ++ sep ++ Lib.join (y :: l) sep:=by simp [Lib.join,List.intercalate,List.intersperse]
   rw [e,List.length_append,List.length_append,List.length_cons,Nat.add_mul]
   omega
theorem map_take_snoc {α : Type} (g : Int→α) (xs : List Int) (k : Nat) (hk : k < xs.length) : (xs.take k).map g ++ [g (xs.getD k 0)]=(xs.take (k+1)).map g:=by
 rw [List.take_succ,List.map_append]
 congr 1
 simp [List.getD_eq_getElem?_getD,hk]
theorem FormatInts_any (v : Value) (xs : List Int) (w : World) (h : Ints w v xs) (hb : ∀ x ∈ xs,0≤x∧x < 1000000000000) (hl : xs.length≤1000) :
 Calls Tryz.prog 10 #[v] w fun e w'=>e=.returned (.string (bytA (fmtIs xs)))∧Below w.heap.size w w':=by
 obtain ⟨p,cap,rfl,⟨hx1,hx2⟩,hxc⟩:=h
 unfold maxLen at hx2
 have Hxc:=Lib.hid hxc
 have Hb:=Lib.hid hb
 clear hxc hb
 go_enter Tryz.func10,Tryz.ntmps10
 go_wp2_with fail
 have Ho:=Lib.hid (OwnSt.made0 w)
 go_loopg [3,5,9] xs.length (fun g s3 s5 s9 wr=> ∃ k : Nat,k≤xs.length∧g=xs.length - k∧s9=.int .i64 k∧Hid (OwnSt wr w.heap.size wr.heap.size s3 ((xs.take k).map fmtI))∧Hid (Below w.heap.size w wr)∧w.heap.size≤wr.heap.size)
 case atStart=>exact ⟨0,Nat.zero_le _,rfl,rfl,OwnF.mono Ho.out (Nat.le_refl _) (by rw [size_alloc];exact Nat.le_refl _),below_alloc w _,by rw [size_alloc];omega⟩
 case round =>
  obtain ⟨k,hk,rfl,rfl,hO,hB,hsz⟩:=hrel
  obtain ⟨wo,rfl⟩ : ∃ x : World,x=wr:=⟨_,rfl⟩
  have HO:=Lib.hid hO.out
  have HB:=Lib.hid hB.out
  clear hO hB
  obtain ⟨p3,k3,e3,_,_⟩:=HO.out.shape
  subst e3
  have htl : ((xs.take k).map fmtI).length=k:=by rw [List.length_map,List.length_take];omega
  have HO1:=HO.out
  unfold OwnSt at HO1
  rw [htl] at HO1 ⊢
  have Htl:=Lib.hid htl
  by_cases hlt : k < xs.length
  ·obtain ⟨b,off,rfl,hc⟩:=Hxc.out (by omega)
   have c1:=cell_below HB.out (hc k hlt)
   obtain ⟨h1,h2⟩:=Hb.out _ (getD_mem hlt)
   obtain ⟨m,hm⟩:=Int.eq_ofNat_of_zero_le h1
   have hsn:=map_take_snoc fmtI xs k hlt
   have hfm : fmtI (xs.getD k 0)=fmtN m:=by rw [hm];rfl
   rw [hfm] at hsn
   unfold iv at c1
   rw [hm] at c1 h2
   have Hsn:=Lib.hid hsn
   have HO2:=Lib.hid HO1
   clear hc hsn HO1 hm h1 hfm htl
   have hkz : (k : Int) < (xs.length : Int):=by omega
   go_wp2_with fail
   refine (FormatInt_any m _ (by omega)).mono ?_
   rintro e w2 ⟨rfl,rfl⟩
   go_wp2_with (at_builtin;go_must (refine wpList_append_F rfl (.tmp 13) (.tmp 16) 30 rfl 9 (.string ByteArray.empty) 16 Tryz.underlying30 info_str rfl w.heap.size w2.heap.size _ k (strV ((xs.take k).map fmtI)) rfl (HO2.out.below (below_alloc w2 _)) (by rw [size_alloc];omega) (by rw [size_alloc];omega) _ 1 _ rfl (rd_one _ _ _ rfl) (fun j _=>rfl) (by unfold maxLen;omega) (by omega) ?_;intro v2 w3 ho2 hg2))
   have hbB : Below w.heap.size (w2.alloc (.cells #[.string (bytA (fmtN m))] 9)) w3:=grownBy_below hg2 HO2.out.blocks (Nat.le_refl _) (by rw [size_alloc];omega)
   have HO3:=Lib.hid (show OwnSt w3 w.heap.size w3.heap.size v2 ((xs.take k).map fmtI ++ [fmtN m]) from OwnSt.snoc (by rw [Htl.out];exact ho2))
   rw [Hsn.out] at HO3
   have HB3:=Lib.hid ((HB.out.trans ((below_alloc w2 (.cells #[.string (bytA (fmtN m))] 9)).mono HB.out.size)).trans hbB)
   have hs3:=hbB.size
   rw [size_alloc] at hs3
   clear ho2 hg2 hbB
   go_wp2_with fail
   go_roundg (xs.length - (k+1))
   case measure=>omega
   case rel=>exact ⟨k+1,by omega,rfl,by go_num,HO3.out,HB3.out,by omega⟩
  ·obtain rfl : k=xs.length:=by omega
   have HJ:=Lib.hid (Join_any (.slice p3 xs.length k3) (xs.map fmtI) [32] wo (by
    have:=HO1.rd
    rw [List.take_length] at this
    rw [List.length_map]
    exact this) (by rw [List.length_map];omega) (by
    have:=join_len (m:=18) (xs.map fmtI) [32] fun x hx=>by
     obtain ⟨y,_,rfl⟩:=List.mem_map.1 hx
     exact fmtN_len _
    rw [List.length_map] at this
    simp at this
    omega))
   clear HO1 htl
   go_wp2_with fail
   refine HJ.out.mono ?_
   rintro e w2 ⟨rfl,hb2⟩
   have HB2:=Lib.hid (HB.out.trans (hb2.mono HB.out.size))
   clear hb2
   go_wp2_with fail
   go_ret
   exact ⟨rfl,HB2.out⟩
theorem keep2 {wr W W' : World} {a0 a1 : Addr} {v0 v1 : Value} (hb : Below W.heap.size W W') (h : (W.cell? a0=some v0∧W.cell? a1=some v1)∧Below wr.heap.size wr W) :
 (W'.cell? a0=some v0∧W'.cell? a1=some v1)∧Below wr.heap.size wr W':=⟨⟨cell_below hb h.1.1,cell_below hb h.1.2⟩,below_trans h.2 hb⟩
theorem own_types {Ts Ti : TypeId} {w : World} {lo hi lo1 hi1 n : Nat} {v y : Value} {f : Nat→Value} {ys : List Int} (g1 : OwnF w lo hi Ts v n f) (hy : OwnI Ti w lo1 hi1 y ys) (hT : Ts ≠ Ti)
 {k : Nat} (hv : v.ownBlock=some k) (hk : y.ownBlock=some k) : False:=by
 obtain ⟨zs,hz,_⟩:=g1
 rcases Own.row hz with ⟨e1,_⟩ | ⟨g,cap',F,e1,_,_,_,_,hr,_⟩
 ·rw [e1] at hv;simp [Value.ownBlock] at hv
 ·rw [e1] at hv
  simp only [Value.ownBlock,Option.some.injEq] at hv
  subst hv
  rcases Own.row hy with ⟨e2,_⟩ | ⟨g',cap2,F2,e2,_,_,_,_,hr2,_⟩
  ·rw [e2] at hk;simp [Value.ownBlock] at hk
  ·rw [e2] at hk
   simp only [Value.ownBlock,Option.some.injEq] at hk
   subst hk
   obtain ⟨c,hc,_⟩:=hr
   obtain ⟨c2,hc2,_⟩:=hr2
   rw [hc] at hc2
   injection hc2 with hc2
   injection hc2 with _ hc2
   exact hT hc2
def pre (rows : List (List Int)) (k : Nat) : Nat:=(rows.take k).flatten.length
theorem run_append_where {P : Program} (w : World) (t ty e : TypeId) (i : TypeInfo) (z : Value) (bytes : Nat) (ht : P.underlying t=some (.slice e)) (hi : P.info? e=some i) (hz : i.zero=some z)
 (hsize : i.size=1) (hby : i.bytes=bytes) (hzs : z.cells.size=1)
 (lo hi' : Nat) (v : Value) (n : Nat) (f : Nat→Value) (hown : OwnF w lo hi' e v n f)
 (u : Value) (m : Nat) (g : Nat→Value) (hx : Rd w u m g) (h1 : ∀ j,j < m→(g j).oneCell'=true) (h63 : n+m≤maxLen) (hbytes : (n+m) * bytes≤140737488355328) {v' : Value} {w' : World}
 (hr : (Builtin.append_ #[t,t] ty #[v,u]).run P w=.ok v' w') : ∀ b,v'.ownBlock=some b→v.ownBlock=some b ∨ w.heap.size≤b:=by
 obtain ⟨q,c,rfl,⟨hmc,hcm⟩,hxc⟩:=hx
 have hsm : n+m≤9223372036854775807:=by unfold maxLen at h63;omega
 by_cases hm : m=0
 ·subst hm
  obtain ⟨p,cap,rfl,hnc,_,_⟩:=hown.shape
  rw [run_append_none w t ty e i ht hi p q n cap c hnc] at hr
  injection hr with e1 e2
  subst e1
  exact fun b hb=>.inl hb
 ·obtain ⟨b,off,rfl,hc⟩:=hxc (by omega)
  have hnews : ∀ (j : Nat) (v : Value),((List.range m).map g)[j]?=some v→w.cell? ((⟨b,off,none⟩ : Addr).add j)=some v:=fun j x hx=>by
   have hj : j < m:=by
    rcases Nat.lt_or_ge j m with h | h
    ·exact h
    ·rw [List.getElem?_eq_none (by simpa using h)] at hx;cases hx
   simp [hj] at hx
   subst hx
   have hadd : (⟨b,off,none⟩ : Addr).add j=⟨b,off+j,none⟩:=by unfold Addr.add;split <;> simp_all
   rw [hadd]
   exact hc j hj
  obtain ⟨xs,ho,hf⟩:=hown
  rcases ho.1.2 with ⟨rfl,rfl⟩ | ⟨gg,cap,cur,rfl,hbg,hg,hnc,hcm2,hcs,htake⟩
  ·have hr2:=run_append_nil (P:=P) w t ty e i z ht hi hz ⟨b,off,none⟩ m c ((List.range m).map g) (by simp [hsize]) hnews (by omega) (by omega) (by rw [hby];simp only [Nat.zero_add] at hbytes;omega)
   rw [hr2] at hr
   injection hr with e1 e2
   subst e1
   intro b hb
   simp [Value.ownBlock] at hb
   exact .inr (by omega)
  ·by_cases hroom : n+m≤cap
   ·have hr2:=run_append_room (P:=P) w t ty e i ht hi gg n cap cur hg ⟨b,off,none⟩ m c ((List.range m).map g) (by simp [hsize]) hnews (fun x hx=>by
     simp only [List.mem_map,List.mem_range] at hx
     obtain ⟨j,hj,rfl⟩:=hx
     exact h1 j hj) hroom (by simp [hsize,hcs];omega)
    rw [hr2] at hr
    injection hr with e1 e2
    subst e1
    exact fun b hb=>.inl hb
   ·have hr2:=run_append_grow (P:=P) w t ty e i z ht hi hz ⟨gg,0,none⟩ n cap xs (by rw [ho.len,hsize]) (ho.1.cells (g:=gg) rfl) ⟨b,off,none⟩ m c ((List.range m).map g) (by simp [hsize]) hnews (by omega) (by omega) (growslice_fits (by omega) (by rw [hby];exact hbytes))
    rw [hr2] at hr
    injection hr with e1 e2
    subst e1
    intro b hb
    simp [Value.ownBlock] at hb
    exact .inr (by omega)
theorem wpList_append_G {P : Program} {w : World} {ops : Array Oper} {rest : List Oper} {o : Oper} {a : Act} {Q : Exit→Act→World→Prop} (hgd : o.guard=none) (s x : Operand) (t : TypeId)
 (ho : o.op=.call { callee:=.builtin .append,args:=#[s,x],argTypes:=#[t,t] })
 (e : TypeId) (z : Value) (bytes : Nat) (ht : P.underlying t=some (.slice e)) (hinfo : (P.info? e).map (fun i=>(i.zero,i.size,i.bytes))=some (some z,1,bytes)) (hzs : z.cells.size=1)
 (lo hi' : Nat) (v : Value) (n : Nat) (f : Nat→Value) (hs : a.eval s=v) (hown : OwnF w lo hi' e v n f) (hlo : lo≤w.heap.size) (hhi : hi'≤w.heap.size)
 (u : Value) (m : Nat) (g : Nat→Value) (hxu : a.eval x=u) (hx : Rd w u m g) (h1 : ∀ j,j < m→(g j).oneCell'=true) (h63 : n+m≤maxLen) (hbytes : (n+m) * bytes≤140737488355328)
 (h : ∀ v' w',OwnF w' lo w'.heap.size e v' (n+m) (fun j=>if j < n then f j else g (j - n))→w.grownBy w' v.ownBlock→(∀ b,v'.ownBlock=some b→v.ownBlock=some b ∨ w.heap.size≤b)→wpList P ops Q rest (a.put o.dst v') w') :
 wpList P ops Q (o :: rest) a w:=by
 refine wpList_plain hgd fun K hK'=> ?_
 obtain ⟨i,hi,hz,hsz,hby⟩:=info_parts hinfo
 obtain ⟨v',w',hr,h2,h3⟩:=run_append_F (P:=P) w t o.type e i z bytes ht hi hz hsz hby hzs lo hi' v n f hown hlo hhi u m g hx h1 h63 hbytes
 have h4:=run_append_where (P:=P) w t o.type e i z bytes ht hi hz hsz hby hzs lo hi' v n f hown u m g hx h1 h63 hbytes hr
 unfold Oper.wp
 simp [execOp,ho,resolve,invoke,builtin,hs,hxu,hr,Result.andThen]
 exact hK' _ _ (h v' w' h2 h3 h4)
theorem below_of_drew {B : Nat} {w w' : World} (h : Below B w.drew w') : Below B w w':=⟨h.os,h.tape,h.output,h.size,h.block⟩
theorem OwnII.grown {Ts Ti : TypeId} {w w' : World} {lo hi : Nat} {v u : Value} {rows : List (List Int)} (h : OwnII Ts Ti w lo hi v rows) (hg : w.grownBy w' u.ownBlock) (hne : ∀ b,u.ownBlock=some b→b < lo ∨ hi≤b) : OwnII Ts Ti w' lo hi v rows :=
 h.keep fun k h1 h2 h3=>hg.block k h3 fun e=>by have:=hne k e.symm;omega
def fact : Nat→Nat
 | 0=>1
 | n+1=>(n+1) * fact n
def decGo (out : List Int) : Nat→Nat→Nat→List Int
 | 0,_,_=>out
 | f+1,v,left=>if (v : Int) ∈ out then decGo out f (v+1) left else if left=0 then out ++ [(v : Int)] else decGo out f (v+1) (left - 1)
def decL (n : Nat) (c : List Nat) : List Int:=c.foldl (fun out left=>decGo out n 0 left) []
theorem decL_snoc (n : Nat) (c : List Nat) (x : Nat) : decL n (c ++ [x])=decGo (decL n c) n 0 x:=by simp [decL]
theorem decGo_len (out : List Int) (f v left : Nat) : (decGo out f v left).length≤out.length+1:=by
 induction f generalizing v left with
 | zero=>simp [decGo]
 | succ f ih =>
   unfold decGo
   split
   ·exact ih _ _
   ·split
    ·simp
    ·exact ih _ _
theorem decL_len (n : Nat) (c : List Nat) (k : Nat) : (decL n (c.take k)).length≤k:=by
 induction k with
 | zero=>simp [decL]
 | succ k ih =>
   by_cases h : k < c.length
   ·have e : c.take (k+1)=c.take k ++ [c[k]]:=by rw [List.take_add_one,List.getElem?_eq_getElem h];rfl
    rw [e,decL_snoc]
    exact Nat.le_trans (decGo_len _ _ _ _) (by omega)
   ·rw [List.take_of_length_le (by omega)]
    rw [List.take_of_length_le (by omega)] at ih
    omega
theorem specDecode_any (v : Value) (c : List Nat) (w : World) (h : Ints w v (c.map Int.ofNat)) (hn : c.length≤100) (hs : ∀ x ∈ c,x≤1000000) :
 Calls Tryz.prog 47 #[v] w (RetI w (decL c.length c)):=by
 obtain ⟨p,cap,rfl,⟨hx1,hx⟩,hxc⟩:=h
 rw [List.length_map] at *
 unfold maxLen at hx
 have Hxc:=Lib.hid hxc
 have Hs:=Lib.hid hs
 clear hxc hs
 go_enter Tryz.func47,Tryz.ntmps47
 go_wp2
 go_loopg [3,4] c.length (fun g s3 i wr=> ∃ k : Nat,k≤c.length∧g=c.length - k∧i=.int .i64 k∧Below w.heap.size w wr∧OwnI 3 wr w.heap.size wr.heap.size s3 (decL c.length (c.take k)))
 case atStart=>exact ⟨0,Nat.zero_le _,rfl,rfl,below_alloc _ _,(OwnF.ints (xs:=[]) ((OwnF.made0 w _ _))).mono (Nat.le_refl _) (by simp)⟩
 case round =>
  obtain ⟨k,hk,rfl,rfl,hb,ho⟩:=hrel
  by_cases hlt : k < c.length
  ·obtain ⟨b,off,rfl,hc⟩:=Hxc.out (by omega)
   have c1:=cell_below hb (hc k hlt)
   have e1 : iv (c.map Int.ofNat) k=.int .i64 (c.getD k 0 : Nat):=by simp [iv,List.getD_eq_getElem?_getD,hlt]
   rw [e1] at c1
   have hck : c.getD k 0≤1000000:=Hs.out _ (by simp [List.getD_eq_getElem?_getD,hlt])
   have e2 : decL c.length (c.take (k+1))=decGo (decL c.length (c.take k)) c.length 0 (c.getD k 0):=by
    rw [List.take_add_one,List.getElem?_eq_getElem hlt]
    simp only [Option.toList]
    rw [decL_snoc]
    simp [List.getD_eq_getElem?_getD,hlt]
   have hln:=decL_len c.length c k
   generalize hX : c.getD k 0=X at c1 hck e2
   generalize hO : decL c.length (c.take k)=out at ho e2 hln
   have E2:=Lib.hid e2
   have Ho:=Lib.hid ho
   obtain ⟨p3,k3,rfl,_,_⟩:=ho.shape
   clear hc e1 e2 hX hO ho
   obtain ⟨wo,rfl⟩ : ∃ x : World,x=wr:=⟨_,rfl⟩
   go_wp2
   go_loopg [3,5,6] c.length (fun g s3 s5 s6 wr=> ∃ left v : Nat,v≤c.length∧left≤1000000∧g=c.length - v∧s3=.slice p3 out.length k3∧s5=.int .i64 left∧s6=.int .i64 v∧Qt wo wr∧Hid (decGo out (c.length - v) v left=decGo out c.length 0 X))
   case atStart=>exact ⟨X,0,Nat.zero_le _,hck,rfl,rfl,rfl,rfl,Qt.refl _,rfl⟩
   case round =>
    obtain ⟨left,v,hv,hleft,rfl,rfl,rfl,rfl,hq,hg⟩:=hrel
    by_cases hvlt : v < c.length
    ·by_cases hmem : (v : Int) ∈ out
     ·have hc:=l1Has_any _ out v wr (Ho.out.ints.qt hq)
      rw [decide_eq_true hmem] at hc
      have Hc:=Lib.hid hc
      have hg2 : decGo out (c.length - (v+1)) (v+1) left=decGo out c.length 0 X:=by
       rw [← hg.out,show c.length - v=(c.length - (v+1))+1 by omega]
       simp [decGo,hmem]
      have Hg2:=Lib.hid hg2
      clear hc hg hg2 hmem
      go_wp2_with fail
      refine Hc.out.mono ?_
      rintro e w1 ⟨rfl,hq1⟩
      go_wp2_with fail
      go_roundg (c.length - (v+1))
      case measure=>omega
      case rel=>exact ⟨left,v+1,by omega,hleft,rfl,rfl,rfl,by go_num,hq.trans hq1,Hg2.out⟩
     ·have hc:=l1Has_any _ out v wr (Ho.out.ints.qt hq)
      rw [decide_eq_false hmem] at hc
      have Hc:=Lib.hid hc
      by_cases hl0 : left=0
      ·subst hl0
       have hg2 : out ++ [(v : Int)]=decGo out c.length 0 X:=by
        rw [← hg.out,show c.length - v=(c.length - (v+1))+1 by omega]
        simp [decGo,hmem]
       have Hg2:=Lib.hid hg2
       clear hc hg hg2 hmem
       go_wp2_with fail
       refine Hc.out.mono ?_
       rintro e w1 ⟨rfl,hq1⟩
       have Hq1:=Lib.hid (hq.trans hq1)
       have Ho1:=Lib.hid (Ho.out.below (Hq1.out.below _))
       have Hb1:=Lib.hid (show out.length+1≤maxLen by unfold maxLen;omega)
       have Hb2:=Lib.hid (show (out.length+1) * 8≤140737488355328 by omega)
       have Hsz : Hid (w1.heap.size=wo.heap.size):=by unfold Hid;rw [Hq1.out.size]
       have hsw:=hb.size
       go_wp2_with (at_builtin;go_must (refine wpList_append_F rfl (.tmp 29) (.tmp 31) 24 rfl 3 (.int .i64 0) 8 Tryz.underlying24 info_int rfl w.heap.size wo.heap.size _ out.length (iv out) rfl ((Ho1.out.below (below_alloc _ _)).fn) (by have:=Hsz.out;simp;omega) (by have:=Hsz.out;simp;omega) _ _ _ rfl (rd_one _ _ _ rfl) (fun j _=>rfl) Hb1.out Hb2.out ?_;intro v' w' ho' hg'))
       have hsw':=hg'.size
       simp only [size_alloc] at hsw'
       have hsz:=Hsz.out
       have hblow : Below w.heap.size wo w':=(Hq1.out.below _).trans (((below_alloc w1 _).mono (by omega)).trans (grownBy_below hg' Ho1.out.fn.blocks (Nat.le_refl _) (by simp;omega)))
       go_roundg (c.length - (k+1))
       case measure=>omega
       case rel =>
        refine ⟨k+1,by omega,rfl,by go_num,hb.trans hblow,?_⟩
        rw [E2.out,← Hg2.out]
        refine OwnF.ints ?_
        rw [List.length_append]
        exact ho'.congr fun j hj=>by
         by_cases h : j < out.length
         ·simp [h,iv,List.getD_eq_getElem?_getD,List.getElem?_append_left h]
         ·have : j=out.length:=by omega
          subst this
          simp [iv,List.getD_eq_getElem?_getD]
      ·have hg2 : decGo out (c.length - (v+1)) (v+1) (left - 1)=decGo out c.length 0 X:=by
        rw [← hg.out,show c.length - v=(c.length - (v+1))+1 by omega]
        simp [decGo,hmem,hl0]
       have Hg2:=Lib.hid hg2
       clear hc hg hg2 hmem
       go_wp2_with fail
       refine Hc.out.mono ?_
       rintro e w1 ⟨rfl,hq1⟩
       go_wp2_with fail
       go_roundg (c.length - (v+1))
       case measure=>omega
       case rel=>exact ⟨left - 1,v+1,by omega,by omega,rfl,rfl,by go_num,by go_num,hq.trans hq1,Hg2.out⟩
    ·have hv2 : v=c.length:=by omega
     subst hv2
     have hg2 : out=decGo out c.length 0 X:=by
      rw [← hg.out,Nat.sub_self];rfl
     have Hg2:=Lib.hid hg2
     clear hg hg2
     go_wp2_with fail
     go_roundg (c.length - (k+1))
     case measure=>omega
     case rel =>
      refine ⟨k+1,by omega,rfl,by go_num,hb.trans (hq.below _),?_⟩
      rw [E2.out,← Hg2.out,hq.size]
      exact Ho.out.below (hq.below _)
  ·go_wp2
   go_ret
   obtain rfl : k=c.length:=by omega
   rw [List.take_length] at ho
   exact ⟨_,rfl,ho,hb⟩
theorem OwnII.join {Ts Ti : TypeId} {w w' : World} {lo mid hi : Nat} {v v' : Value} {rows rows2 : List (List Int)} {f g : Nat→Value}
 (g1 : OwnF w lo mid Ts v rows.length f) (g2 : ∀ i,i < rows.length→OwnI Ti w lo mid (f i) (rows.getD i []))
 (g3 : ∀ i j,i < j→j < rows.length → ∀ k,(f i).ownBlock=some k→(f j).ownBlock ≠ some k)
 (h2 : ∀ i,i < rows2.length→OwnI Ti w mid hi (g i) (rows2.getD i []))
 (h3 : ∀ i j,i < j→j < rows2.length → ∀ k,(g i).ownBlock=some k→(g j).ownBlock ≠ some k)
 (hm : lo≤mid) (hmh : mid≤hi) (hT : Ts ≠ Ti) (hg : w.grownBy w' v.ownBlock) (hsz : hi≤w'.heap.size)
 (hv : OwnF w' lo w'.heap.size Ts v' (rows.length+rows2.length) (fun j=>if j < rows.length then f j else g (j - rows.length))) :
 OwnII Ts Ti w' lo w'.heap.size v' (rows ++ rows2):=by
 have hrow : ∀ (y : Value) (ys : List Int) (lo1 hi1 : Nat),OwnI Ti w lo1 hi1 y ys→OwnI Ti w' lo1 hi1 y ys:=fun y ys lo1 hi1 hy =>
  ⟨ownsRow_of_block hy.1 fun k hk=>hg.block k (Own.block hy hk).2.2 fun e=>own_types g1 hy hT e.symm hk,hy.2⟩
 refine ⟨_,by rw [List.length_append];exact hv,fun i hi=> ?_,fun i j hij hj k hk=> ?_⟩
 ·rw [List.length_append] at hi
  by_cases hlt : i < rows.length
  ·have e : (rows ++ rows2).getD i []=rows.getD i []:=by simp [List.getD_eq_getElem?_getD,List.getElem?_append_left hlt]
   simp only [hlt,if_true]
   rw [e]
   exact (hrow _ _ _ _ (g2 i hlt)).mono (Nat.le_refl _) (by omega)
  ·have e : (rows ++ rows2).getD i []=rows2.getD (i - rows.length) []:=by
    simp [List.getD_eq_getElem?_getD,List.getElem?_append_right (Nat.le_of_not_lt hlt)]
   simp only [hlt,if_false]
   rw [e]
   exact (hrow _ _ _ _ (h2 _ (by omega))).mono hm hsz
 ·rw [List.length_append] at hj
  by_cases hlt : j < rows.length
  ·simp only [hlt,if_true]
   simp only [show i < rows.length by omega,if_true] at hk
   exact g3 i j hij hlt k hk
  ·simp only [hlt,if_false]
   by_cases hil : i < rows.length
   ·simp only [hil,if_true] at hk
    intro e
    have h5:=(Own.block (g2 i hil) hk).2.1
    have h6:=(Own.block (h2 _ (by omega)) e).1
    omega
   ·simp only [hil,if_false] at hk
    exact h3 _ _ (by omega) (by omega) k hk
theorem OwnI.snoc1 {T : TypeId} {w : World} {lo hi : Nat} {v : Value} {out : List Int} {x : Int} (h : OwnF w lo hi T v (out.length+1) (fun j=>if j < out.length then iv out j else .int .i64 x)) : OwnI T w lo hi v (out ++ [x]):=by
 refine OwnF.ints ?_
 rw [List.length_append]
 exact h.congr fun j hj=>by
  by_cases h : j < out.length
  ·simp [h,iv,List.getD_eq_getElem?_getD,List.getElem?_append_left h]
  ·have : j=out.length:=by omega
   subst this
   simp [iv,List.getD_eq_getElem?_getD]
def idL (n : Nat) : List Int:=(List.range n).map fun (i : Nat)=>(i : Int)
theorem idL_length (n : Nat) : (idL n).length=n:=by simp [idL]
theorem idL_getD {n i : Nat} (h : i < n) : (idL n).getD i 0=i:=by simp [idL,List.getD_eq_getElem?_getD,h]
theorem idL_succ (n : Nat) : idL (n+1)=idL n ++ [(n : Int)]:=by simp [idL,List.range_succ]
theorem idL_ok {n : Nat} (h1 : 1≤n) (h7 : n≤7) : permOk (idL n)=true:=by
 have : n=1 ∨ n=2 ∨ n=3 ∨ n=4 ∨ n=5 ∨ n=6 ∨ n=7:=by omega
 rcases this with rfl | rfl | rfl | rfl | rfl | rfl | rfl <;> decide
theorem specIdentity_any (n : Nat) (w : World) (h1 : 1≤n) (h7 : n≤7) :
 Calls Tryz.prog 52 #[.int .i64 (n : Int)] w (RetI w (idL n)):=by
 have hin : Hid ((1 : Int)≤n∧(n : Int)≤7):=⟨by omega,by omega⟩
 go_enter Tryz.func52,Tryz.ntmps52
 go_wp2_with fail
 refine (l1In_yes _ _ _ _ hin.out).mono ?_
 rintro e w' ⟨rfl,rfl⟩
 go_wp2_with fail
 go_loopg [3,4] n (fun g s3 s4 wr=> ∃ i : Nat,i≤n∧g=n - i∧s4=.int .i64 i∧Hid (Below w.heap.size w wr)∧Hid (OwnI 3 wr w.heap.size wr.heap.size s3 (idL i)))
 case atStart =>
  refine ⟨0,Nat.zero_le _,rfl,rfl,below_alloc w _,?_⟩
  exact OwnF.ints ((OwnF.made0 w 3 (iv [])).mono (Nat.le_refl _) (by simp))
 case round =>
  obtain ⟨i,hi,rfl,rfl,hb,ho⟩:=hrel
  have hsr:=hb.out.size
  by_cases hlt : i < n
  ·have hlt2 : (i : Int) < (n : Int):=by omega
   obtain ⟨p5,k5,rfl,_,_⟩:=ho.out.shape
   have hofn:=ho.out.fn
   rw [idL_length] at hofn ⊢
   have Ho:=Lib.hid hofn
   have Hb:=Lib.hid hb.out
   have Hb1:=Lib.hid (show i+1≤maxLen by unfold maxLen;omega)
   have Hb2:=Lib.hid (show (i+1) * 8≤140737488355328 by omega)
   clear ho hofn hb
   go_wp2_with (at_builtin;go_must (refine wpList_append_F rfl (.tmp 14) (.tmp 16) 24 rfl 3 (.int .i64 0) 8 Tryz.underlying24 info_int rfl w.heap.size wr.heap.size _ i (iv (idL i)) rfl (Ho.out.below (below_alloc wr _)) (by rw [size_alloc];omega) (by rw [size_alloc];omega) _ 1 _ rfl (rd_one _ _ _ rfl) (fun j _=>rfl) Hb1.out Hb2.out ?_;intro v2 w2 ho2 hg2))
   go_roundg (n - (i+1))
   case measure=>omega
   case rel =>
    have hbx : Below w.heap.size wr w2:=((below_alloc wr _).mono (by omega)).trans (grownBy_below hg2 Ho.out.blocks (Nat.le_refl _) (by rw [size_alloc];omega))
    refine ⟨i+1,by omega,rfl,by go_num,Hb.out.trans hbx,?_⟩
    rw [idL_succ]
    exact OwnI.snoc1 (by rw [idL_length];exact ho2)
  ·obtain rfl : i=n:=by omega
   have hlt2 : ¬ (i : Int) < (i : Int):=by omega
   have Ho:=Lib.hid ho.out
   have Hb:=Lib.hid hb.out
   clear ho hb
   go_wp2_with fail
   go_ret
   exact ⟨_,rfl,Ho.out,Hb.out⟩
def Byts8 (w : World) (v : Value) (n : Nat) : Prop:=∃ f : Nat→Int,(Rd w v n fun j=>.int .u8 (f j)) ∧ ∀ j,j < n→0≤f j∧f j≤255
theorem Byts8.below {w w' : World} {v : Value} {n : Nat} (h : Byts8 w v n) (hb : Below w.heap.size w w') : Byts8 w' v n:=by
 obtain ⟨f,h,h2⟩:=h
 exact ⟨f,h.below hb,h2⟩
theorem implIdentity_any (n : Nat) (w : World) (h1 : 1≤n) (h7 : n≤7) :
 Calls Tryz.prog 108 #[.int .i64 (n : Int)] w (RetI w (idL n)):=by
 have hmk:=run_make_row' (P:=Tryz.prog) 24 3 (.int .i64 0) 8 Tryz.underlying24 info_int rfl .i64 .i64 n (by omega) (by omega)
 have hn1 : (1 : Int)≤n:=by omega
 have hn7 : (n : Int)≤7:=by omega
 have hns : ¬ (n : Int) < 1:=by omega
 have hns2 : ¬ (7 : Int) < n:=by omega
 have hs : ∀ w,Calls Tryz.prog 80 #[.int .i64 (n : Int)] w fun e w'=>e=.returned (.bool true)∧w=w':=fun w=>by
  go_enter Tryz.func80,Tryz.ntmps80
  go_wp2_with fail
  go_ret
  exact ⟨rfl,rfl⟩
 go_enter Tryz.func108,Tryz.ntmps108
 go_wp2_with fail
 refine (hs w).mono ?_
 rintro e w1 ⟨rfl,rfl⟩
 go_wp2_with fail
 go_loopg [12] n (fun g s14 wr=> ∃ k : Nat,k≤n∧g=n - k∧s14=.int .i64 k∧Below w.heap.size w wr∧Hid (wr.rowIs w.heap.size 3 n (fun j=>.int .i64 (if j < k then (j : Int) else 0))))
 case atStart =>
  refine ⟨0,Nat.zero_le _,rfl,rfl,below_alloc _ _,?_⟩
  exact (World.rowIs_made w (.int .i64 0) n 3).congr fun j _=>by simp
 case round =>
  obtain ⟨k,hk,rfl,rfl,hbw,hrow⟩:=hrel
  by_cases hlt : k < n
  ·obtain ⟨z,c2⟩ : ∃ z,wr.cell? ⟨w.heap.size,k,none⟩=some (.int .i64 z):=⟨_,hrow.out.cell hlt⟩
   have c3:=hrow.out.frozen k
   have i1 : (k : Int) < (n : Int):=by omega
   have Hrow:=Lib.hid hrow.out
   clear hrow
   go_wp2_with fail
   go_roundg (n - (k+1))
   case measure=>omega
   case rel =>
    refine ⟨k+1,by omega,rfl,by go_num,hbw.setCell (Nat.le_refl _) _,(Hrow.out.set k _).congr fun j hj=> ?_⟩
    by_cases e : j=k
    ·subst e;simp
    ·have : j < k+1 ↔ j < k:=by omega
     simp [e,this]
  ·obtain rfl : k=n:=by omega
   have i1 : ¬ (k : Int) < (k : Int):=by omega
   have ho:=rowIs_ints (xs:=idL k) (by rw [idL_length];exact hrow.out.congr fun j hj=>by rw [iv,idL_getD hj,if_pos hj]) (by rw [idL_length];unfold maxLen;omega)
   rw [idL_length] at ho
   have Ho:=Lib.hid ho
   clear ho hrow
   go_wp2_with fail
   go_ret
   exact ⟨_,rfl,Ho.out,hbw⟩
section
open Go.ChangeShapes Go.WideShapes Go.RowKit Go.Deep Go.WideElems Go.Maps
end
end
section
open Go.RowKit Go.Sort Go.Shelf
theorem eraseIdx_getD {xs : List Int} {i j : Nat} (hi : i < xs.length) : (xs.eraseIdx i).getD j 0=if j < i then xs.getD j 0 else xs.getD (j+1) 0:=by
 rw [List.getD_eq_getElem?_getD,List.getElem?_eraseIdx]
 split <;> rw [List.getD_eq_getElem?_getD]
theorem delete_any (g cap i n : Nat) (lo hi : Nat) (xs : List Int) (w : World) (h : OwnI 3 w lo hi (.slice (some ⟨g,0,none⟩) n cap) xs) (hn : xs.length=n) (hi' : i < n) :
 Calls Tryz.prog 109 #[.slice (some ⟨g,0,none⟩) n cap,.int .i64 (i : Int),.int .i64 ((i : Int)+1)] w fun e w' =>
  e=.returned (.slice (some ⟨g,0,none⟩) (n - 1) cap)∧OwnI 3 w' lo hi (.slice (some ⟨g,0,none⟩) (n - 1) cap) (xs.eraseIdx i)∧Frm lo hi w w':=by
 have hf:=h.fn
 rw [hn] at hf
 obtain ⟨F,⟨c,hc1,hc2,hc3⟩,hF,hl,hh,hnc,hcm,_⟩:=hf.opened
 have hH : Holds encI w g 0 xs.toArray:=fun j hj=>by
  have hj' : j < n:=by rw [← hn];simpa using hj
  refine ⟨?_,?_⟩
  ·rw [Nat.zero_add,hf.cell hj']
   show some (Value.int .i64 (xs.getD j 0))=some (Value.int .i64 (xs.toArray[j]!))
   rw [getElem!_pos xs.toArray j hj,getD_lt (by rw [hn];exact hj')]
   simp
  ·rw [Nat.zero_add];exact hf.frozen j
 have es : xs.toArray.size=n:=by simpa using hn
 have hcon:=AnyG.slices_Delete_int_arr (P:=Tryz.prog) (ρ:=Tryz.delI_ren) { Tryz.delI with } g 0 cap i (i+1) xs.toArray w hH (by rw [es];exact hnc) (by unfold maxLen at hcm;omega) (by omega) (by rw [es];omega)
 change Calls Tryz.prog 109 _ _ _ at hcon
 rw [es,show i+1 - i=1 by omega,show ((i+1 : Nat) : Int)=(i : Int)+1 by omega] at hcon
 refine hcon.mono ?_
 rintro e w' ⟨rfl,q,rfl⟩
 obtain ⟨D,hD⟩ : ∃ D,D=(xs.toArray.toList.take i ++ xs.toArray.toList.drop (i+1) ++ List.replicate 1 0).toArray:=⟨_,rfl⟩
 rw [← hD]
 have hDs : D.size=n:=by rw [hD];simp;omega
 have hDg : ∀ j,j < n - 1→D[j]! = (xs.eraseIdx i).getD j 0:=fun j hj=>by
  rw [getElem!_pos D j (by omega)]
  have : D[j]?=some ((xs.eraseIdx i).getD j 0):=by
   rw [hD,List.getElem?_toArray,List.getElem?_append_left (by simp;omega),eraseIdx_getD (by omega)]
   have e2 : (xs.toArray.toList.take i).length=i:=by simp;omega
   by_cases hji : j < i
   ·rw [List.getElem?_append_left (by omega),if_pos hji,List.getElem?_take,if_pos hji]
    simp [List.getD_eq_getElem?_getD,show j < xs.length by omega]
   ·rw [List.getElem?_append_right (by omega),e2,if_neg hji,List.getElem?_drop,show i+1+(j - i)=j+1 by omega]
    simp [List.getD_eq_getElem?_getD,show j+1 < xs.length by omega]
  rw [Array.getElem?_eq_getElem (by omega)] at this
  exact Option.some.inj this
 have hblk : (putRow encI (Sort.ahead w q) g 0 D).heap[g]?=some (.cells (putCells encI 0 D c) 3 (0,0)):=by
  unfold putRow mapBlock
  simp only [Array.getElem?_modify]
  have : (Sort.ahead w q).heap=w.heap:=rfl
  rw [this,hc1]
  simp [onCells]
 have hoth : ∀ k,k < w.heap.size→k ≠ g→(putRow encI (Sort.ahead w q) g 0 D).heap[k]?=w.heap[k]?:=fun k hk hne=>by
  unfold putRow mapBlock
  simp only [Array.getElem?_modify]
  have : (Sort.ahead w q).heap=w.heap:=rfl
  rw [this,if_neg (fun e=>hne e.symm)]
 refine ⟨rfl,?_,⟨rfl,rfl,rfl,by rw [size_putRow];exact Nat.le_refl _,fun k hk ho=>hoth k hk (fun e=>by omega)⟩⟩
 have hlen : (xs.eraseIdx i).length=n - 1:=by rw [List.length_eraseIdx,if_pos (by omega),hn]
 have hown : OwnF (putRow encI (Sort.ahead w q) g 0 D) lo hi 3 (.slice (some ⟨g,0,none⟩) (n - 1) cap) (n - 1) (iv (xs.eraseIdx i)):=by
  refine OwnF.mk' (F:=fun j=>if j < n then .int .i64 (D[j]!) else F j) ⟨_,hblk,by simp [putCells,hc2],fun j hj=> ?_⟩ hl hh (by omega) hcm (fun j hj=> ?_)
  ·simp only [putCells,Array.getElem?_mapIdx,hc3 j hj,Option.map_some,Nat.zero_le,true_and,Nat.zero_add,Nat.sub_zero,hDs]
  ·rw [if_pos (by omega)]
   show Value.int .i64 (D[j]!)=.int .i64 ((xs.eraseIdx i).getD j 0)
   rw [hDg j hj]
 rw [← hlen] at hown ⊢
 exact OwnF.ints hown
def poR (c : List Int) : Nat→List Int
 | 0=>idL c.length
 | k+1=>(poR c k).eraseIdx (c.getD k 0).toNat
def poO (c : List Int) : Nat→List Int
 | 0=>[]
 | k+1=>poO c k ++ [(poR c k).getD (c.getD k 0).toNat 0]
def poB (c : List Int) : Bool:=(List.range c.length).all fun k=>decide (0≤c.getD k 0) && decide (c.getD k 0 < ((c.length - k : Nat) : Int))
theorem poB_at {c : List Int} (h : poB c=true) {k : Nat} (hk : k < c.length) : 0≤c.getD k 0∧c.getD k 0 < ((c.length - k : Nat) : Int):=by
 unfold poB at h
 have:=List.all_eq_true.1 h k (List.mem_range.2 hk)
 simpa using this
theorem poR_len {c : List Int} (h : poB c=true) : ∀ k,k≤c.length→(poR c k).length=c.length - k
 | 0,_=>by simp [poR,idL]
 | k+1,hk=>by
   have ih:=poR_len h k (by omega)
   have:=poB_at h (k:=k) (by omega)
   unfold poR
   rw [List.length_eraseIdx,if_pos (by omega),ih]
   omega
theorem poO_len (c : List Int) : ∀ k,(poO c k).length=k
 | 0=>rfl
 | k+1=>by unfold poO;rw [List.length_append,poO_len c k];rfl
theorem PermOfCode_any (v : Value) (c : List Int) (w : World) (h : Ints w v c) (h1 : 1≤c.length) (h7 : c.length≤7) (hb : poB c=true) :
 Calls Tryz.prog 68 #[v] w (RetI w (poO c c.length)):=by
 obtain ⟨p,cap,rfl,⟨m1,m2⟩,hq⟩:=h
 obtain ⟨b,off,rfl,hc⟩:=hq (by omega)
 clear hq
 unfold maxLen at m2
 obtain ⟨n,hn⟩ : ∃ n,n=c.length:=⟨_,rfl⟩
 have Hn:=Lib.hid hn
 have HB:=Lib.hid hb
 have HRl:=Lib.hid (show ∀ k,k≤n→(poR c k).length=n - k from fun k hk=>by rw [hn];exact poR_len hb k (by omega))
 have Hat:=Lib.hid (show ∀ k,k < n→0≤c.getD k 0∧c.getD k 0 < ((n - k : Nat) : Int) from fun k hk=>by rw [hn];exact poB_at hb (by omega))
 rw [← hn] at h1 h7 m1 hc ⊢
 have Hc:=Lib.hid hc
 have h0:=idL_length n
 clear hn hb hc
 go_enter Tryz.func68,Tryz.ntmps68
 go_wp2_with fail
 refine (implIdentity_any n _ h1 h7).mono ?_
 rintro e w1 ⟨u,rfl,ho,hb1⟩
 obtain ⟨pu,ku,rfl,hk1,hk2⟩:=ho.shape
 rw [h0] at hk1 ⊢
 obtain ⟨gu,rfl,_,_,_⟩:=ho.fn.at_ (by rw [h0];exact h1)
 unfold maxLen at hk2
 have keq:=Lib.run_eql_slice_nil (P:=Tryz.prog) w1 24 3 (some ⟨gu,0,none⟩) n ku 0 0 Tryz.underlying24
 have Ho:=Lib.hid (show OwnI 3 w1 w.heap.size w1.heap.size (.slice (some ⟨gu,0,none⟩) n ku) (idL n) by
  have:=ho
  rw [h0] at this
  exact this)
 have Hb1:=Lib.hid hb1
 have hs1:=hb1.size
 clear ho hb1 h0
 go_wp2_with fail
 clear keq
 go_loopg [3,4,6,15] n (fun g s3 s4 s6 s15 wr=> ∃ (k : Nat),k≤n∧g=n - k∧s15=.int .i64 k∧s3=.slice (some ⟨gu,0,none⟩) (n - k) ku∧Hid (OwnI 3 wr w.heap.size w1.heap.size s3 (poR c k))∧Hid (OwnI 3 wr w1.heap.size wr.heap.size s4 (poO c k))∧Hid (Below w.heap.size w wr)∧w1.heap.size≤wr.heap.size)
 case atStart =>
  refine ⟨0,Nat.zero_le _,rfl,rfl,rfl,?_,?_,Hb1.out.trans ((below_alloc w1 _).mono hs1),by rw [size_alloc];omega⟩
  ·show OwnI _ _ _ _ _ (idL c.length)
   rw [← Hn.out]
   exact Ho.out.below (below_alloc w1 _)
  ·exact (OwnF.ints (xs:=[]) (OwnF.made0 w1 3 (iv []))).mono (Nat.le_refl _) (by rw [size_alloc];exact Nat.le_refl _)
 case round =>
  obtain ⟨k,hk,rfl,rfl,rfl,hR,hO,hb,hsz1⟩:=hrel
  obtain ⟨wo,rfl⟩ : ∃ x : World,x=wr:=⟨_,rfl⟩
  have HR:=Lib.hid hR.out
  have HO:=Lib.hid hO.out
  have Hb:=Lib.hid hb.out
  clear hR hO hb
  by_cases hlt : k < n
  ·have hkz : (k : Int) < (n : Int):=by omega
   have c0 : wo.cell? ⟨b,off+k,none⟩=some (.int .i64 (c.getD k 0)):=cell_below Hb.out (Hc.out k hlt)
   obtain ⟨r1,r2⟩:=Hat.out k hlt
   obtain ⟨x,hx⟩:=Int.eq_ofNat_of_zero_le r1
   rw [hx] at c0 r2
   have Hx:=Lib.hid hx
   have hxn : x < n - k:=by omega
   have hlen:=HRl.out k (by omega)
   have c1:=HR.out.fn.cell (j:=x) (by rw [hlen];exact hxn)
   obtain ⟨y,hy⟩ : ∃ y,y=(poR c k).getD x 0:=⟨_,rfl⟩
   have c1' : wo.cell? ⟨gu,x,none⟩=some (.int .i64 y):=by rw [hy];exact c1
   have Hy:=Lib.hid hy
   have hx0 : ¬ ((x : Nat) : Int) < 0:=by omega
   have hxl : ¬ (((n - k : Nat) : Int)≤(x : Int)):=by omega
   have hxl2 : (x : Int) < ((n - k : Nat) : Int):=by omega
   obtain ⟨p4,k4,e4,_,_⟩:=HO.out.shape
   subst e4
   have hol:=poO_len c k
   rw [hol] at HO ⊢
   have hofn:=HO.out.fn
   rw [hol] at hofn
   have Ho4:=Lib.hid hofn
   have Hol:=Lib.hid hol
   have hw1 : IntKind.i64.wrap ((x : Int)+1)=(x : Int)+1:=k64 (by omega) (by omega)
   have Hlen:=Lib.hid hlen
   clear c1 hy hlen hx hol hofn r1 r2
   go_wp2_with (at_builtin;go_must (refine wpList_append_F rfl (.tmp 27) (.tmp 32) 24 rfl 3 (.int .i64 0) 8 Tryz.underlying24 info_int rfl w1.heap.size wo.heap.size _ k (iv (poO c k)) rfl (Ho4.out.below (below_alloc wo _)) (by rw [size_alloc];omega) (by rw [size_alloc];omega) _ 1 _ rfl (rd_one _ _ _ rfl) (fun j _=>rfl) (by unfold maxLen;omega) (by omega) ?_;intro v2 w2 ho2 hg2))
   have hbB : Below w1.heap.size (wo.alloc (.cells #[.int .i64 y] 3)) w2:=grownBy_below hg2 Ho4.out.blocks (Nat.le_refl _) (by rw [size_alloc];omega)
   have HR2:=Lib.hid (show OwnI 3 w2 w.heap.size w1.heap.size (.slice (some ⟨gu,0,none⟩) (n - k) ku) (poR c k) from
    Own.keep HR.out fun t _ ht1 ht2=>(hbB.block t ht1).trans ((below_alloc wo _).block t ht2))
   have HO2:=Lib.hid (show OwnI 3 w2 w1.heap.size w2.heap.size v2 (poO c k ++ [y]) from OwnI.snoc1 (by rw [Hol.out];exact ho2))
   have Hb2:=Lib.hid ((Hb.out.trans ((below_alloc wo (.cells #[.int .i64 y] 3)).mono Hb.out.size)).trans (hbB.mono hs1))
   have hs2:=hbB.size
   rw [size_alloc] at hs2
   have HD:=Lib.hid (delete_any gu ku x (n - k) w.heap.size w1.heap.size (poR c k) w2 HR2.out Hlen.out hxn)
   obtain ⟨pv,lv,kv,rfl⟩ : ∃ p l k,v2=.slice p l k:=by obtain ⟨p,k,e,_⟩:=HO2.out.shape;exact ⟨_,_,_,e⟩
   clear ho2 hg2 hbB
   refine HD.out.mono ?_
   rintro e w3 ⟨rfl,hR3,hf3⟩
   have HR3:=Lib.hid hR3
   have HO3:=Lib.hid ((HO2.out.frm hf3 (Or.inr (Nat.le_refl _))).mono (Nat.le_refl _) hf3.size)
   have Hb3:=Lib.hid (Hb2.out.trans (hf3.below (Nat.le_refl _) (by have:=Hb2.out.size;omega)))
   have hs3:=hf3.size
   clear hR3 hf3
   go_wp2_with fail
   go_roundg (n - (k+1))
   case measure=>omega
   case rel =>
    have ex : (c.getD k 0).toNat=x:=by rw [Hx.out];rfl
    refine ⟨k+1,by omega,rfl,by go_num,by rw [Nat.sub_sub],?_,?_,Hb3.out,by omega⟩
    ·show OwnI _ _ _ _ _ ((poR c k).eraseIdx (c.getD k 0).toNat)
     rw [ex]
     exact HR3.out
    ·show OwnI _ _ _ _ _ (poO c k ++ [(poR c k).getD (c.getD k 0).toNat 0])
     rw [ex,← Hy.out]
     exact HO3.out
  ·obtain rfl : k=n:=by omega
   obtain ⟨p4,k4,e4,_,_⟩:=HO.out.shape
   subst e4
   go_wp2_with fail
   go_ret
   exact ⟨_,rfl,HO.out.mono hs1 (Nat.le_refl _),Hb.out⟩
end
section
open Go.RowKit
theorem fmtA_get (xs : List Int) (k : Nat) (hk : k < (fmtA xs).size) : ((fmtA xs)[k]'hk)=UInt8.ofNat (48+((xs.getD k 0).toNat+1)):=by
 have h : k < xs.length:=by rw [fmtA_size] at hk;exact hk
 show (fmtL xs).toArray[k]'_=_
 unfold fmtL
 simp [List.getD_eq_getElem?_getD,h]
theorem u8_nat {n : Nat} (h : n < 256) : ((UInt8.ofNat n).toNat : Int)=(n : Int):=by
 rw [UInt8.toNat_ofNat']
 omega
theorem ParsePerm_any (xs : List Int) (w : World) (hp : permOk xs=true) :
 Calls Tryz.prog 90 #[.string (fmtA xs)] w fun e w'=> ∃ u,e=.returned (.tuple #[u,.bool true])∧OwnI 3 w' w.heap.size w'.heap.size u xs∧Below w.heap.size w w':=by
 have Hp:=Lib.hid hp
 obtain ⟨hl1,hl7,hr,_⟩:=of_decide_eq_true hp
 have Hr:=Lib.hid hr
 obtain ⟨s,hs⟩ : ∃ s,s=fmtA xs:=⟨_,rfl⟩
 have hsz : s.size=xs.length:=by rw [hs,fmtA_size]
 have Hg:=Lib.hid (show ∀ k (hk : k < s.size),((s[k]'hk).toNat : Int)=48+(xs.getD k 0+1) from fun k hk=>by
  subst hs
  rw [fmtA_get xs k hk]
  have hk' : k < xs.length:=by rw [fmtA_size] at hk;exact hk
  have:=hr _ (getD_mem hk')
  rw [u8_nat (by omega)]
  omega)
 rw [← hs]
 have Hsz:=Lib.hid hsz
 have hz7 : (s.size : Int)≤7:=by omega
 clear hp hr hs
 go_enter Tryz.func90,Tryz.ntmps90
 go_wp2_with fail
 have Ho:=Lib.hid (OwnF.made0 w 3 (iv []))
 go_loopg [4,5,12] xs.length (fun g s4 s5 s12 wr=> ∃ k : Nat,k≤xs.length∧g=xs.length - k∧s12=.int .i64 k∧Hid (OwnI 3 wr w.heap.size wr.heap.size s4 (xs.take k))∧Hid (Below w.heap.size w wr)∧w.heap.size≤wr.heap.size)
 case atStart=>exact ⟨0,Nat.zero_le _,rfl,rfl,(OwnF.ints (xs:=[]) Ho.out).mono (Nat.le_refl _) (by rw [size_alloc];exact Nat.le_refl _),below_alloc w _,by rw [size_alloc];omega⟩
 case round =>
  obtain ⟨k,hk,rfl,rfl,hO,hB,hszr⟩:=hrel
  obtain ⟨wo,rfl⟩ : ∃ x : World,x=wr:=⟨_,rfl⟩
  have HO:=Lib.hid hO.out
  have HB:=Lib.hid hB.out
  clear hO hB
  obtain ⟨p3,k3,e3,_,_⟩:=HO.out.shape
  subst e3
  have htl : (xs.take k).length=k:=by rw [List.length_take];omega
  rw [htl] at HO ⊢
  by_cases hk' : k < xs.length
  ·have hlt : k < s.size:=by rw [hsz];exact hk'
   have hg:=Hg.out k hlt
   obtain ⟨y,hy⟩ : ∃ y,y=xs.getD k 0:=⟨_,rfl⟩
   have hrk:=Hr.out _ (getD_mem hk')
   rw [← hy] at hg hrk
   have hsn:=take_snoc xs k hk'
   rw [← hy] at hsn
   have Hsn:=Lib.hid hsn
   have Hof:=Lib.hid (show OwnF wo w.heap.size wo.heap.size 3 (.slice p3 k k3) k (iv (xs.take k)) by
    have:=HO.out.fn
    rw [htl] at this
    exact this)
   have Htl:=Lib.hid htl
   have hkz : (k : Int) < (xs.length : Int):=by omega
   obtain ⟨ch,hch⟩ : ∃ ch : UInt8,ch=s[k]'hlt:=⟨_,rfl⟩
   rw [← hch] at hg
   have Hch:=Lib.hid hch
   clear hy hsn htl
   go_wp2_with (at_builtin;go_must (refine wpList_append_F rfl (.tmp 15) (.tmp 21) 24 rfl 3 (.int .i64 0) 8 Tryz.underlying24 info_int rfl w.heap.size wo.heap.size _ k (iv (xs.take k)) rfl (Hof.out.below (below_alloc wo _)) (by rw [size_alloc];omega) (by rw [size_alloc];omega) _ 1 _ rfl (rd_one _ _ _ rfl) (fun j _=>rfl) (by unfold maxLen;omega) (by omega) ?_;intro v2 w2 ho2 hg2))
   have hval : wrap64 (wrap64 ((s[k]'hlt).toNat : Int) - 49)=y:=by
    have h1 : wrap64 (48+(y+1))=48+(y+1):=by unfold wrap64;omega
    have h2 : wrap64 (48+(y+1) - 49)=48+(y+1) - 49:=by unfold wrap64;omega
    rw [← Hch.out,hg,h1,h2]
    omega
   rw [hval] at ho2 hg2
   have hbB : Below w.heap.size (wo.alloc (.cells #[.int .i64 y] 3)) w2:=grownBy_below hg2 Hof.out.blocks (Nat.le_refl _) (by rw [size_alloc];omega)
   have HO2:=Lib.hid (show OwnI 3 w2 w.heap.size w2.heap.size v2 (xs.take k ++ [y]) from OwnI.snoc1 (by rw [Htl.out];exact ho2))
   rw [← Hsn.out] at HO2
   have HB2:=Lib.hid ((HB.out.trans ((below_alloc wo (.cells #[.int .i64 y] 3)).mono HB.out.size)).trans hbB)
   have hs2:=hbB.size
   rw [size_alloc] at hs2
   clear ho2 hg2 hbB hval
   go_wp2_with fail
   go_roundg (xs.length - (k+1))
   case measure=>omega
   case rel=>exact ⟨k+1,by omega,rfl,by go_num,HO2.out,HB2.out,by omega⟩
  ·obtain rfl : k=xs.length:=by omega
   rw [List.take_length] at HO
   have HP:=Lib.hid (implIsPerm_b (.slice p3 xs.length k3) xs true Hp.out wo HO.out.ints)
   have HOw:=Lib.hid HO.out
   clear htl
   go_wp2_with fail
   refine HP.out.mono ?_
   rintro e w2 ⟨rfl,hb2⟩
   have HO2:=Lib.hid ((HOw.out.below hb2).mono (Nat.le_refl _) hb2.size)
   have HB2:=Lib.hid (HB.out.trans (hb2.mono HB.out.size))
   clear hb2
   go_wp2_with fail
   go_ret2
   exact ⟨_,rfl,HO2.out,HB2.out⟩
end
end Go.Proofs.YtincaodpjdeoeaaGreatDoor
