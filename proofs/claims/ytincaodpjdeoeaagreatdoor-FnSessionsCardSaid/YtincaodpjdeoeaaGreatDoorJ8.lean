/-
  A part of the proof of FnSessions (texts of one proof, joined).
-/
import Derived.Test.YtincaodpjdeoeaaGreatDoorJ7
namespace Go.Proofs.YtincaodpjdeoeaaGreatDoor
set_option linter.all false
set_option maxRecDepth 100000
set_option maxHeartbeats 16000000
section
open Go.RowKit Go.Maps Go.WideMaps Go.WideElems Go.MapKept Go.ChangeMaps Go.ChangeShapes
def dvS (i : Nat) (e : List Int) (s t : Int) : List Int:=(e.set (i+1) t).set i (s - 1 - t)
def dvK (i : Nat) (e : List Int) (lo hi : Int) (c : Int) (n : Nat) : Pl:=(List.range n).map fun (j : Nat)=>(dvS i e (lo+hi) (lo+(j : Int)),c)
def dvE (i : Nat) (e : List Int) : Pl :=
 if e.getD i 0 < e.getD (i+1) 0 then dvK i e (e.getD i 0) (e.getD (i+1) 0) (-1) (e.getD (i+1) 0 - e.getD i 0).toNat
 else dvK i e (e.getD (i+1) 0) (e.getD i 0) 1 (e.getD i 0 - e.getD (i+1) 0).toNat
def dvP (i : Nat) (P : Pl) : Pl:=P.flatMap fun p=>sclP p.2 (dvE i p.1)
theorem Ev_dv (i : Nat) (P : Pl) (g : List Int→Int) : Ev (dvP i P) g=Ev P fun e=>Ev (dvE i e) g:=by
 induction P with
 | nil=>rfl
 | cons p l ih =>
   show Ev (sclP p.2 (dvE i p.1) ++ dvP i l) g=p.2 * Ev (dvE i p.1) g+Ev l _
   rw [Ev_append,ih,Ev_scl,Ev_mul]
theorem dvK_succ (i : Nat) (e : List Int) (lo hi c : Int) (n : Nat) : dvK i e lo hi c (n+1)=dvK i e lo hi c n ++ [(dvS i e (lo+hi) (lo+(n : Int)),c)]:=by
 unfold dvK
 rw [List.range_succ,List.map_append]
 rfl
theorem Ev_dvK (i : Nat) (e : List Int) (lo hi c c' sg : Int) (h : Cg c' (c * sg)) (g : List Int→Int) : ∀ n,Cg (Ev (dvK i e lo hi c' n) g) (c * Ev (dvK i e lo hi sg n) g)
 | 0=>Cg.of _ _ (by simp [dvK,Ev])
 | n+1=>by
   rw [dvK_succ,dvK_succ,Ev_append,Ev_append,Int.mul_add]
   refine (Ev_dvK i e lo hi c c' sg h g n).add ?_
   simp only [Ev,Int.add_zero]
   rw [← Int.mul_assoc]
   exact h.mul (Cg.refl _)
theorem cnt_room {N g c d T : Nat} (h : N+g * d≤T) (hc : c < g) : N+d+c * d≤T:=by
 have:=Nat.mul_le_mul_right d hc
 have e : (c+1) * d=c * d+d:=by rw [Nat.add_mul,Nat.one_mul]
 rw [Nat.succ_eq_add_one,e] at this
 omega
theorem dvE_le {i : Nat} {e : List Int} (h : e.getD i 0 < e.getD (i+1) 0) : dvE i e=dvK i e (e.getD i 0) (e.getD (i+1) 0) (-1) (e.getD (i+1) 0 - e.getD i 0).toNat:=if_pos h
theorem dvE_ge {i : Nat} {e : List Int} (h : ¬ e.getD i 0 < e.getD (i+1) 0) : dvE i e=dvK i e (e.getD (i+1) 0) (e.getD i 0) 1 (e.getD i 0 - e.getD (i+1) 0).toNat:=if_neg h
theorem gb_setCell (w : World) (b j : Nat) (u : Value) : w.grownBy (w.setCell ⟨b,j,none⟩ u) (some b) :=
 ⟨rfl,rfl,rfl,by rw [size_setCell];exact Nat.le_refl _,fun k _ hk=>Below.heap_setCell _ _ _ _ (fun e=>hk (by rw [e]))⟩
theorem K7.dv {d i : Nat} {e : List Int} (h : K7 d e) {t s : Int} (h1 : 0≤t∧t≤(d : Int)) (h2 : 0≤s - 1 - t∧s - 1 - t≤(d : Int)) : K7 d (dvS i e s t):=by
 refine ⟨by unfold dvS;simpa using h.1,fun x hx=> ?_⟩
 rcases List.mem_or_eq_of_mem_set hx with hx | rfl
 ·rcases List.mem_or_eq_of_mem_set hx with hx | rfl
  ·exact h.2 x hx
  ·exact h1
 ·exact h2
theorem divided7_any (u : Value) (i d nf : Nat) (P : Pl) (w : World) (hf : PolV w u d nf P) (hi : i < 6) (hd : d < 1000000) (hn : nf * d < 1000000000000000) :
 Calls Tryz.prog 106 #[u,.int .i64 (i : Int)] w fun e w'=> ∃ u',e=.returned u'∧PolV w' u' d (nf * d) (dvP i P)∧Below w.heap.size w w':=by
 obtain ⟨bf,Df,rfl,hf1,hf2⟩:=hf
 have hmm:=@run_makeMap Tryz.prog
 have hblf:=hf1.lt
 have hszf:=hf1.size_le
 have e1 : (w.alloc (.map #[] 0)).heap.size=w.heap.size+1:=by simp
 have HF2:=Lib.hid hf2
 obtain ⟨B,hB⟩ : ∃ B,B=w.heap.size:=⟨_,rfl⟩
 have HB:=Lib.hid hB
 have hG0:=Lib.hid (Gath.start (T:=fun g e=>Ev (dvE i e) g) hf1 hf2)
 have hi' : i=0 ∨ i=1 ∨ i=2 ∨ i=3 ∨ i=4 ∨ i=5:=by omega
 obtain ⟨ii,hii⟩ : ∃ ii : Nat,ii=i:=⟨_,rfl⟩
 have Hii:=Lib.hid hii
 rw [← hii] at hG0
 obtain ⟨T,hT⟩ : ∃ T,T=nf * d:=⟨_,rfl⟩
 have hT0 : Maps.size Df * d≤T:=by rw [hT];exact Nat.mul_le_mul_right _ hszf
 show Calls Tryz.prog 106 #[.map (some bf),.int .i64 (i : Int)] w fun e w'=> ∃ u',e=.returned u'∧PolV w' u' d (nf * d) (dvP i P)∧Below w.heap.size w w'
 rw [← hT] at hn ⊢
 conv in dvP i P=>rw [← hii]
 clear hf2 hii hT
 go_enter Tryz.func106,Tryz.ntmps106
 go_wp2_with (first
  | (at_range;refine wpList_range_own _ rfl _ 105 rfl 109 3 klaw und41 _ bf nf _ rfl (hf1.alloc _) ?_;intro w0 hrg0 hg0 hs0)
  | fail)
 go_frame
 rw [e1] at hrg0 hs0 ⊢
 have hown0 : OwnMp w0 w.heap.size 0 (.map []):=(World.ownsMap_made _ _ _ _).kept hg0 (by simp)
 have hbel0 : Below w.heap.size w w0:=((Below.refl _ _).alloc (Nat.le_refl _) _).grown hg0 (by simp) (fun j hj=>by cases hj)
 rw [← hB] at hrg0 hs0 hown0 hbel0 hblf ⊢
 have Hbel0:=Lib.hid hbel0
 clear hbel0 hg0 e1 hB
 go_loopg [6,7,8,9,10] (Maps.size Df) (fun g s6 s7 s8 s9 s10 wr=> ∃ (left : Lit→Bool) (Dout : DU) (A : Pl) (N : Nat),RanP wr bf (B+1) nf Df left g∧N+g * d≤T∧(∀ l,left l=true→has Df l=true) ∧
  OwnMp wr B N Dout∧Hid (PolM d Dout A)∧Hid (Gath Df P (fun g e=>Ev (dvE ii e) g) left A)∧Hid (Below B w wr))
 case atStart=>exact ⟨_,.map [],[],0,hrg0,by omega,fun _ h=>h,hown0,Lib.hid (PolM.empty _),hG0,Hbel0⟩
 case round =>
  obtain ⟨left,Dout,A,N,hrg,hgs,hleft,hout,hpm,hga,hbel⟩:=hrel
  obtain ⟨wx,rfl⟩ : ∃ x : World,x=wr:=⟨_,rfl⟩
  go_wp2_with (first
   | (at_next;refine wpList_next_poly _ rfl _ rfl bf (B+1) nf d Df P left gk rfl hrg HF2.out (by omega) hleft ?_ ?_)
   | fail)
  ·intro hc0 hl0
   have hend:=(hga.out.end hl0)
   go_wp2_with fail
   go_ret
   refine ⟨_,rfl,⟨B,Dout,rfl,hout.mono (by omega),hpm.out.alt fun g=> ?_⟩,HB.out ▸ hbel.out⟩
   rw [Ev_dv]
   exact hend g
  ·intro a0 a1 a2 a3 a4 a5 a6 c w1 cnt1 hK hlx hwf hat hrg1 hlt hgr1 hs1 hen
   have Hat:=Lib.hid hat
   have Hgr1:=Lib.hid hgr1
   have HK:=Lib.hid hK
   have HK':=Lib.hid hK
   have hroom:=cnt_room hgs hlt
   have hout1:=hout.kept hgr1 (by intro h;injection h with h;omega)
   have hBx:=hout.lt
   have hBr:=hrg.lt
   have b0:=hK.2 a0 (by simp)
   have b1:=hK.2 a1 (by simp)
   have b2:=hK.2 a2 (by simp)
   have b3:=hK.2 a3 (by simp)
   have b4:=hK.2 a4 (by simp)
   have b5:=hK.2 a5 (by simp)
   have b6:=hK.2 a6 (by simp)
   have Hbel1:=Lib.hid (hbel.out.grown Hgr1.out (by omega) (fun j hj=>by cases hj;omega))
   have hiii:=Hii.out
   obtain ⟨E,hE⟩ : ∃ E,E=wx.heap.size:=⟨_,rfl⟩
   have hE1 : w1.heap.size=E:=by rw [hs1,hE]
   have hEB : B+1 < E:=by rw [hE];exact hBr
   have hq0:=heap_alloc_top w1 (.cells #[.int .i64 a0,.int .i64 a1,.int .i64 a2,.int .i64 a3,.int .i64 a4,.int .i64 a5,.int .i64 a6] 109)
   rw [hE1] at hq0
   have hrgU:=hrg1.alloc (.cells #[.int .i64 a0,.int .i64 a1,.int .i64 a2,.int .i64 a3,.int .i64 a4,.int .i64 a5,.int .i64 a6] 109)
   have houtU:=hout1.alloc (.cells #[.int .i64 a0,.int .i64 a1,.int .i64 a2,.int .i64 a3,.int .i64 a4,.int .i64 a5,.int .i64 a6] 109)
   have hqU : (w1.alloc (.cells #[.int .i64 a0,.int .i64 a1,.int .i64 a2,.int .i64 a3,.int .i64 a4,.int .i64 a5,.int .i64 a6] 109)).drew.heap[E]?=some (.cells #[.int .i64 a0,.int .i64 a1,.int .i64 a2,.int .i64 a3,.int .i64 a4,.int .i64 a5,.int .i64 a6] 109 (0,0)):=hq0
   have HbelU:=Lib.hid (Below.drewN (Hbel1.out.alloc (by omega) (.cells #[.int .i64 a0,.int .i64 a1,.int .i64 a2,.int .i64 a3,.int .i64 a4,.int .i64 a5,.int .i64 a6] 109)) 1)
   obtain ⟨f0,f1,f2,f3,f4,f5,f6,ff,_⟩:=blk7 hqU
   obtain ⟨U,hU⟩ : ∃ U,U=w1.alloc (.cells #[.int .i64 a0,.int .i64 a1,.int .i64 a2,.int .i64 a3,.int .i64 a4,.int .i64 a5,.int .i64 a6] 109):=⟨_,rfl⟩
   obtain ⟨LF,hLF⟩ : ∃ LF : Lit→Bool,LF=fun z=>left z && !z.sameKey (kl [a0,a1,a2,a3,a4,a5,a6]):=⟨_,rfl⟩
   obtain ⟨L,hL⟩ : ∃ L,L=[a0,a1,a2,a3,a4,a5,a6]:=⟨_,rfl⟩
   rw [← hU] at hrgU houtU hqU HbelU f0 f1 f2 f3 f4 f5 f6 ff
   rw [← hLF] at hrgU
   rw [← hL] at HK
   have HU:=Lib.hid hU
   have HE:=Lib.hid hE
   have HL:=Lib.hid hL
   have HLF:=Lib.hid hLF
   have hrgU : RanP U.drew bf (B+1) nf Df LF cnt1:=hrgU
   have houtU : OwnMp U.drew B N Dout:=houtU
   clear hat hgr1 hK hrg hbel hout hU hLF hL hrg1 hout1 hq0 Hbel1 hE hE1
   rcases hi' with h0 | h0 | h0 | h0 | h0 | h0 <;> subst h0
   obtain ⟨X,hX⟩ : ∃ X,X=a0:=⟨_,rfl⟩;obtain ⟨Y,hY⟩ : ∃ Y,Y=a1:=⟨_,rfl⟩;subst hX hY;rotate_left
   obtain ⟨X,hX⟩ : ∃ X,X=a1:=⟨_,rfl⟩;obtain ⟨Y,hY⟩ : ∃ Y,Y=a2:=⟨_,rfl⟩;subst hX hY;rotate_left
   obtain ⟨X,hX⟩ : ∃ X,X=a2:=⟨_,rfl⟩;obtain ⟨Y,hY⟩ : ∃ Y,Y=a3:=⟨_,rfl⟩;subst hX hY;rotate_left
   obtain ⟨X,hX⟩ : ∃ X,X=a3:=⟨_,rfl⟩;obtain ⟨Y,hY⟩ : ∃ Y,Y=a4:=⟨_,rfl⟩;subst hX hY;rotate_left
   obtain ⟨X,hX⟩ : ∃ X,X=a4:=⟨_,rfl⟩;obtain ⟨Y,hY⟩ : ∃ Y,Y=a5:=⟨_,rfl⟩;subst hX hY;rotate_left
   obtain ⟨X,hX⟩ : ∃ X,X=a5:=⟨_,rfl⟩;obtain ⟨Y,hY⟩ : ∃ Y,Y=a6:=⟨_,rfl⟩;subst hX hY;rotate_left
   all_goals
    go_wp2_with fail
    rw [← HE.out,← HU.out]
    go_region
    by_cases hxy : X < Y
    ·go_wp2_with fail
     obtain ⟨len,hlen⟩ : ∃ len : Nat,len=(Y - X).toNat:=⟨_,rfl⟩
     have hlen1 : len≤d:=by omega
     have hlen2 : X+(len : Int)=Y:=by omega
     clear hlen
     go_loopg [10] len (fun g s10 wr=> ∃ (s : Nat) (p q : Int) (D2 : DU),s≤len∧g=len - s∧s10=.int .i64 (X+(s : Int))∧RanP wr bf (B+1) nf Df LF cnt1 ∧
      OwnMp wr B (N+s) D2∧Hid (PolM d D2 (A ++ dvK ii L X Y (wrap64 (-c)) s))∧wr.heap[E]?=some (.cells (((L.set ii p).set (ii+1) q).map (Value.int .i64)).toArray 109 (0,0))∧Hid (Below B w wr))
     case atStart=>exact ⟨0,X,Y,Dout,Nat.zero_le _,by omega,by simp,hrgU,houtU,by simpa [dvK] using hpm,by rw [HL.out,Hii.out];exact hqU,HbelU⟩
     case round =>
      obtain ⟨s,p,q,D2,hs,rfl,rfl,hrg,hout,hpm2,hq,hbel⟩:=hrel
      obtain ⟨wy,rfl⟩ : ∃ x : World,x=wr:=⟨_,rfl⟩
      have hEy:=(Array.getElem?_eq_some_iff.1 hq).1
      rw [HL.out,Hii.out] at hq
      by_cases hst : s < len
      ·have hst2 : X+(s : Int) < Y:=by omega
       obtain ⟨f0,f1,f2,f3,f4,f5,f6,ff,_⟩:=blk7 hq
       have fr:=fun j (_ : j < 7)=>ff j
       have fr0:=ff 0
       have fr1:=ff 1
       have fr2:=ff 2
       have fr3:=ff 3
       have fr4:=ff 4
       have fr5:=ff 5
       have fr6:=ff 6
       have Hadd:=Lib.hid (HK.out.dv (i:=ii) (t:=X+(s : Int)) (s:=X+Y) (by omega) (by omega))
       rw [HL.out,Hii.out] at Hadd
       have Ho1:=Lib.hid (fun (j j' : Nat) (v v' : Value)=>(hout.kept (gb_setCell wy E j v) (by intro h;injection h with h;omega)).kept (gb_setCell _ E j' v') (by intro h;injection h with h;omega))
       have Hr1:=Lib.hid (fun (j j' : Nat) (v v' : Value)=>(hrg.kept (gb_setCell wy E j v) (by intro h;injection h with h;omega) (by intro h;injection h with h;omega)).kept (gb_setCell _ E j' v') (by intro h;injection h with h;omega) (by intro h;injection h with h;omega))
       have Hq1:=Lib.hid (fun (j j' : Nat) (v v' : Value)=>heap_setCell_at (heap_setCell_at hq j v) j' v')
       have Hb1:=Lib.hid (fun (j j' : Nat) (v v' : Value)=>(hbel.out.setCell (p:=⟨E,j,none⟩) (by show B≤E;omega) v).setCell (p:=⟨E,j',none⟩) (by show B≤E;omega) v')
       have hByl:=hout.lt
       clear fr
       go_wp2_with fail
       refine (add_any B (N+s) d D2 (A ++ dvK ii L X Y (wrap64 (-c)) s) _ (wrap64 (-c)) _ (Ho1.out _ _ _ _) hpm2.out Hadd.out (by omega) (by omega)).mono ?_
       rintro e w2 ⟨rfl,D3,ho3,hp3,hg3⟩
       have hrg3:=(Hr1.out _ _ _ _).kept hg3 (by intro h;injection h with h;omega) (by intro h;injection h with h;omega)
       have hq3:=(hg3.block E (by rw [size_setCell,size_setCell];exact hEy) (by intro h;injection h with h;omega)).trans (Hq1.out _ _ _ _)
       have Hp3:=Lib.hid hp3
       have Hb3:=Lib.hid ((Hb1.out _ _ _ _).grown hg3 (by rw [size_setCell,size_setCell];omega) (fun j hj=>by cases hj;exact Nat.le_refl _))
       have Hq3:=Lib.hid hq3
       clear hp3 hg3 hq3 Ho1 Hr1 Hq1 Hb1 Hadd
       go_wp2_with fail
       go_roundg (len - (s+1))
       case measure=>omega
       case rel =>
        refine ⟨s+1,_,_,D3,by omega,rfl,by go_num,hrg3,ho3,?_,by rw [HL.out,Hii.out];exact Hq3.out,Hb3⟩
        rw [dvK_succ,← List.append_assoc]
        rw [HL.out,Hii.out] at Hp3 ⊢
        exact Hp3
      ·have hst2 : ¬ X+(s : Int) < Y:=by omega
       obtain rfl : s=len:=by omega
       go_wp2_with fail
       go_roundg cnt1
       case measure=>exact hlt
       case rel =>
        rw [HLF.out] at hrg
        refine ⟨_,D2,_,N+s,hrg,by omega,has_sub hleft,hout,hpm2,Lib.hid (hga.out.step HF2.out.tidy HK'.out (by omega) hlx Hat.out fun g=> ?_),hbel⟩
        rw [Ev_append]
        refine (Cg.refl _).add ?_
        have hE' : dvE ii L=dvK ii L X Y (-1) s:=by
         rw [show s=(Y - X).toNat by omega,Hii.out,HL.out]
         exact dvE_le (by show X < Y;omega)
        rw [← HL.out,hE']
        exact Ev_dvK _ _ _ _ _ _ _ ((cg_wrap _).trans (Cg.of _ _ (by omega))) g s
    ·go_wp2_with fail
     obtain ⟨len,hlen⟩ : ∃ len : Nat,len=(X - Y).toNat:=⟨_,rfl⟩
     have hlen1 : len≤d:=by omega
     have hlen2 : Y+(len : Int)=X:=by omega
     clear hlen
     go_loopg [10] len (fun g s10 wr=> ∃ (s : Nat) (p q : Int) (D2 : DU),s≤len∧g=len - s∧s10=.int .i64 (Y+(s : Int))∧RanP wr bf (B+1) nf Df LF cnt1 ∧
      OwnMp wr B (N+s) D2∧Hid (PolM d D2 (A ++ dvK ii L Y X c s))∧wr.heap[E]?=some (.cells (((L.set ii p).set (ii+1) q).map (Value.int .i64)).toArray 109 (0,0))∧Hid (Below B w wr))
     case atStart=>exact ⟨0,X,Y,Dout,Nat.zero_le _,by omega,by simp,hrgU,houtU,by simpa [dvK] using hpm,by rw [HL.out,Hii.out];exact hqU,HbelU⟩
     case round =>
      obtain ⟨s,p,q,D2,hs,rfl,rfl,hrg,hout,hpm2,hq,hbel⟩:=hrel
      obtain ⟨wy,rfl⟩ : ∃ x : World,x=wr:=⟨_,rfl⟩
      have hEy:=(Array.getElem?_eq_some_iff.1 hq).1
      rw [HL.out,Hii.out] at hq
      by_cases hst : s < len
      ·have hst2 : Y+(s : Int) < X:=by omega
       obtain ⟨f0,f1,f2,f3,f4,f5,f6,ff,_⟩:=blk7 hq
       have fr:=fun j (_ : j < 7)=>ff j
       have fr0:=ff 0
       have fr1:=ff 1
       have fr2:=ff 2
       have fr3:=ff 3
       have fr4:=ff 4
       have fr5:=ff 5
       have fr6:=ff 6
       have Hadd:=Lib.hid (HK.out.dv (i:=ii) (t:=Y+(s : Int)) (s:=Y+X) (by omega) (by omega))
       rw [HL.out,Hii.out] at Hadd
       have Ho1:=Lib.hid (fun (j j' : Nat) (v v' : Value)=>(hout.kept (gb_setCell wy E j v) (by intro h;injection h with h;omega)).kept (gb_setCell _ E j' v') (by intro h;injection h with h;omega))
       have Hr1:=Lib.hid (fun (j j' : Nat) (v v' : Value)=>(hrg.kept (gb_setCell wy E j v) (by intro h;injection h with h;omega) (by intro h;injection h with h;omega)).kept (gb_setCell _ E j' v') (by intro h;injection h with h;omega) (by intro h;injection h with h;omega))
       have Hq1:=Lib.hid (fun (j j' : Nat) (v v' : Value)=>heap_setCell_at (heap_setCell_at hq j v) j' v')
       have Hb1:=Lib.hid (fun (j j' : Nat) (v v' : Value)=>(hbel.out.setCell (p:=⟨E,j,none⟩) (by show B≤E;omega) v).setCell (p:=⟨E,j',none⟩) (by show B≤E;omega) v')
       have hByl:=hout.lt
       clear fr
       go_wp2_with fail
       refine (add_any B (N+s) d D2 (A ++ dvK ii L Y X c s) _ c _ (Ho1.out _ _ _ _) hpm2.out Hadd.out (by omega) (by omega)).mono ?_
       rintro e w2 ⟨rfl,D3,ho3,hp3,hg3⟩
       have hrg3:=(Hr1.out _ _ _ _).kept hg3 (by intro h;injection h with h;omega) (by intro h;injection h with h;omega)
       have hq3:=(hg3.block E (by rw [size_setCell,size_setCell];exact hEy) (by intro h;injection h with h;omega)).trans (Hq1.out _ _ _ _)
       have Hp3:=Lib.hid hp3
       have Hb3:=Lib.hid ((Hb1.out _ _ _ _).grown hg3 (by rw [size_setCell,size_setCell];omega) (fun j hj=>by cases hj;exact Nat.le_refl _))
       have Hq3:=Lib.hid hq3
       clear hp3 hg3 hq3 Ho1 Hr1 Hq1 Hb1 Hadd
       go_wp2_with fail
       go_roundg (len - (s+1))
       case measure=>omega
       case rel =>
        refine ⟨s+1,_,_,D3,by omega,rfl,by go_num,hrg3,ho3,?_,by rw [HL.out,Hii.out];exact Hq3.out,Hb3⟩
        rw [dvK_succ,← List.append_assoc]
        rw [HL.out,Hii.out] at Hp3 ⊢
        exact Hp3
      ·have hst2 : ¬ Y+(s : Int) < X:=by omega
       obtain rfl : s=len:=by omega
       go_wp2_with fail
       go_roundg cnt1
       case measure=>exact hlt
       case rel =>
        rw [HLF.out] at hrg
        refine ⟨_,D2,_,N+s,hrg,by omega,has_sub hleft,hout,hpm2,Lib.hid (hga.out.step HF2.out.tidy HK'.out (by omega) hlx Hat.out fun g=> ?_),hbel⟩
        rw [Ev_append]
        refine (Cg.refl _).add ?_
        have hE' : dvE ii L=dvK ii L Y X (1) s:=by
         rw [show s=(X - Y).toNat by omega,Hii.out,HL.out]
         exact dvE_ge (by show ¬ X < Y;omega)
        rw [← HL.out,hE']
        exact Ev_dvK _ _ _ _ _ _ _ (Cg.of _ _ (by omega)) g s
def monoK (xs e : List Int) : Nat→Int
 | 0=>1
 | n+1=>monoK xs e n * xs.getD n 0 ^ (e.getD n 0).toNat
def mono (xs e : List Int) : Int:=monoK xs e 7
def pick (ws ys : List Int) (i : Nat) : Int:=if i < ws.length then ys.getD (ws.getD i 0).toNat 0 else 0
def pickL (ws ys : List Int) : List Int:=(List.range 7).map (pick ws ys)
theorem pickL_getD (ws ys : List Int) {i : Nat} (h : i < 7) : (pickL ws ys).getD i 0=pick ws ys i:=by
 unfold pickL
 rw [List.getD_eq_getElem?_getD,List.getElem?_map,List.getElem?_range h];rfl
def GV (D : DU) (P : Pl) (m : List Int→Int) (left : Lit→Bool) (S : Int) : Prop:=Cg (S+SmK D left fun l=>m (unkl l)) (Ev P m)
theorem GV.start {w : World} {b n d : Nat} {D : DU} {P : Pl} (m : List Int→Int) (h : OwnMp w b n D) (hp : PolM d D P) : GV D P m (has D) 0:=by
 have:=Gath.start (T:=fun g=>g) h hp m
 simpa [GV,Ev] using this
theorem GV.step {d : Nat} {D : DU} {P : Pl} {m : List Int→Int} {left : Lit→Bool} {S : Int} (h : GV D P m left S) (ht : Tidy D) {e : List Int} (he : K7 d e) (hd : d≤1000000) (hl : left (kl e)=true) {c : Int}
 (hat : D.atKey (kl e) (.lit (.int .i64 0))=.lit (.int .i64 c)) {S' : Int} (hS : Cg S' (S+c * m e)) : GV D P m (fun z=>left z && !z.sameKey (kl e)) S':=by
 unfold GV at h ⊢
 rw [SmK_step ht (kl_lit e) hl,hat] at h
 simp only [coef,unkl_kl he hd] at h
 refine (hS.add (Cg.refl _)).trans ?_
 rw [Int.add_assoc]
 exact h
theorem GV.end {D : DU} {P : Pl} {m : List Int→Int} {left : Lit→Bool} {S : Int} (h : GV D P m left S) (hl : ∀ l,left l=false) : Cg S (Ev P m):=by
 unfold GV at h
 rw [SmK_none hl] at h
 simpa using h
end
section
open Go.RowKit
theorem exchanged_any (v : Value) (xs : List Int) (i j : Nat) (w : World) (h : Ints w v xs) (hi : i < xs.length) (hj : j < xs.length) (hij : i ≠ j) (hl : xs.length≤1000) :
 Calls Tryz.prog 120 #[v,.int .i64 (i : Int),.int .i64 (j : Int)] w (RetI w (swapL xs i j)):=by
 have Hh:=Lib.hid h
 obtain ⟨p,cap,rfl,⟨hx1,hx⟩,hxc⟩:=h
 unfold maxLen at hx
 clear hxc
 go_enter Tryz.func120,Tryz.ntmps120
 go_wp2_with fail
 refine (clone_any _ xs _ Hh.out (by omega)).mono ?_
 rintro e w1 ⟨u,rfl,ho,hb⟩
 have hofn:=ho.fn
 obtain ⟨pu,ku,rfl,hku,hku2⟩:=ho.shape
 unfold maxLen at hku2
 obtain ⟨g,rfl,hg1,hg2,hg3⟩:=hofn.at_ (by omega)
 obtain ⟨x,hx'⟩ : ∃ x,x=xs.getD i 0:=⟨_,rfl⟩
 obtain ⟨y,hy'⟩ : ∃ y,y=xs.getD j 0:=⟨_,rfl⟩
 have f1:=hofn.frozen i
 have f2:=hofn.frozen j
 have d1:=hofn.cell hi
 have d2:=hofn.cell hj
 unfold iv at d1 d2
 rw [← hx'] at d1
 rw [← hy'] at d2
 obtain ⟨z,d3⟩ : ∃ z,(w1.setCell ⟨g,i,none⟩ (.int .i64 y)).cell? ⟨g,j,none⟩=some z:=⟨_,(hofn.set i (.int .i64 y)).cell hj⟩
 have d3' : (w1.drew.setCell ⟨g,i,none⟩ (.int .i64 y)).cell? ⟨g,j,none⟩=some z:=d3
 obtain ⟨n,hn⟩ : ∃ n,n=xs.length:=⟨_,rfl⟩
 have Hn:=Lib.hid hn
 have Ho:=Lib.hid ho
 have Hb:=Lib.hid hb
 have Hx:=Lib.hid hx'
 have Hy:=Lib.hid hy'
 have hi2 : (i : Int) < (n : Int):=by omega
 have hj2 : (j : Int) < (n : Int):=by omega
 rw [← hn] at hx1 hku hi hj ⊢
 clear hofn ho hb hn hx' hy'
 go_wp2_with fail
 have hji : j ≠ i:=fun e=>hij e.symm
 go_region
 go_wp2_with fail
 go_ret
 refine ⟨_,rfl,?_,((Hb.out.setCell (p:=⟨g,i,none⟩) hg1 _).setCell (p:=⟨g,j,none⟩) hg1 _).drew⟩
 unfold swapL
 rw [← Hx.out,← Hy.out]
 have o1:=(Ho.out.setG (by rw [← Hn.out];exact hi) y).setG (t:=j) (by rw [List.length_set,← Hn.out];exact hj) x
 rw [← Hn.out] at o1
 have:=o1.mono (Nat.le_refl _) (show w1.heap.size≤((w1.setCell ⟨g,i,none⟩ (.int .i64 y)).setCell ⟨g,j,none⟩ (.int .i64 x)).heap.size by simp)
 exact this.below (Below.refl _ _).drew
end
section
open Go.RowKit Go.Maps Go.WideMaps Go.WideElems Go.MapKept Go.ChangeMaps Go.ChangeShapes
def fasc (xs : List Int) : Option Nat:=(List.range (xs.length - 1)).find? fun (k : Nat)=>decide (xs.getD k 0 < xs.getD (k+1) 0)
def lowP : Nat→List Int→Pl→Pl
 | 0,_,P=>P
 | f+1,xs,P=>match fasc xs with
   | none=>P
   | some k=>dvP k (lowP f (swapL xs k (k+1)) P)
def lowOk : Nat→List Int→Bool
 | 0,xs=>(fasc xs).isNone
 | f+1,xs=>match fasc xs with
   | none=>true
   | some k=>lowOk f (swapL xs k (k+1))
theorem fasc_some {xs : List Int} {k : Nat} (hk : k < xs.length - 1) (h : xs.getD k 0 < xs.getD (k+1) 0) (h0 : ∀ j,j < k → ¬ xs.getD j 0 < xs.getD (j+1) 0) : fasc xs=some k:=by
 unfold fasc
 rw [List.find?_range_eq_some]
 refine ⟨by simpa using h,by simpa using hk,fun j hj=>by simpa using h0 j hj⟩
theorem fasc_none {xs : List Int} (h0 : ∀ j,j < xs.length - 1 → ¬ xs.getD j 0 < xs.getD (j+1) 0) : fasc xs=none:=by
 unfold fasc
 rw [List.find?_eq_none]
 intro j hj
 simpa using h0 j (List.mem_range.1 hj)
theorem wpList_insert_own {w : World} {ops : Array Oper} {rest : List Oper} {o : Oper} {a : Act} {Q : Exit→Act→World→Prop}
 (hg : o.guard=none) (m x v : Operand) (hop : o.op=Op.insert 105 m x v) (b n : Nat) (D : DU)
 (hm : a.eval m=.map (some b)) (hown : OwnMp w b n D) (hn : n < 1000000000000000) (key : Value) (k0 : Lit) (c : Int) (hx : a.eval x=key) (hv : a.eval v=.int .i64 c) (hkey : keyOf Tryz.prog 109 key=some k0)
 (hc : (Lit.int .i64 c).wf=true)
 (hK : ∀ w',OwnMp w' b (n+1) (D.put k0 (.lit (.int .i64 c)))→w.grownBy w' (some b)→wpList Tryz.prog ops Q rest (a.put o.dst undef) w') :
 wpList Tryz.prog ops Q (o :: rest) a w:=by
 refine wpList_plain hg fun K' hK'=> ?_
 obtain ⟨w',hrun,r1,r2⟩:=hown.update klaw und41 (by unfold maxLen;omega) hkey (plainElem_int undI hc)
 unfold Oper.wp
 simp [execOp,hop,hm,hx,hv,hrun,Result.andThen]
 exact hK' _ _ (hK w' r1 r2)
def topJ (i : Nat) (ys : List Int) : Nat→Pl→Pl
 | 0,T=>T
 | m+1,T=>rsP i (topJ i ys m T) ++ sclP (-(ys.getD m 0)) (topJ i ys m T)
def topI (n : Nat) (ys : List Int) : Nat→Pl
 | 0=>[([0,0,0,0,0,0,0],1)]
 | i+1=>topJ i ys (n - 1 - i) (topI n ys i)
def dblP (xs ys : List Int) : Pl:=lowP 10 xs (topI xs.length ys xs.length)
theorem buildE (w : World) : (Instr.build 109 #[]).run Tryz.prog w=.ok (.agg #[.int .i64 0,.int .i64 0,.int .i64 0,.int .i64 0,.int .i64 0,.int .i64 0,.int .i64 0]) w:=by kernel_rfl
end
section
open Go.RowKit
def rkL (xs : List Int) (c : Int) : Nat→Nat
 | 0=>0
 | r+1=>rkL xs c r+if xs.getD r 0 < c then 1 else 0
def blwB (v w : List Int) : Bool:=(List.range (v.length+1)).all fun r=>(List.range (v.length+1)).all fun c=>decide (rkL w (c : Int) r≤rkL v (c : Int) r)
def pair4 (B : List Int→List Int→Bool) : Bool:=(List.range 5).all fun n=>(permsL n).all fun v=>(permsL n).all fun w=> !decide (1≤n) || B v w
theorem pair4_at {B : List Int→List Int→Bool} (h : pair4 B=true) {v w : List Int} {n : Nat} (hv : P5 n v) (hw : P5 n w) (h4 : n≤4) : B v w=true:=by
 unfold pair4 at h
 rw [List.all_eq_true] at h
 have a:=h n (List.mem_range.2 (by omega))
 rw [List.all_eq_true] at a
 have mv:=perm_mem hv.ok (by rw [hv.len];omega)
 have mw:=perm_mem hw.ok (by rw [hw.len];omega)
 rw [hv.len] at mv
 rw [hw.len] at mw
 have b:=a v mv
 rw [List.all_eq_true] at b
 have c:=b w mw
 have : 1≤n:=by have:=hv.ok;simp only [permOk,decide_eq_true_eq] at this;have:=hv.len;omega
 simpa [this] using c
def bruB (v w : List Int) : Bool:=(List.range (v.length - 1)).all fun k=> !ascB k w || decide (blwB v (sw k w)=(blwB v w || (!ascB k v && blwB (sw k v) w)))
def blidB (v : List Int) : Bool:=decide (blwB v (idL v.length)=decide (idL v.length=v)) && (decide (lnN v=0) || (List.range (v.length - 1)).any fun k=> !ascB k v)
theorem bru_all : pair4 bruB=true:=by decide +kernel
theorem blid_all : all5 blidB=true:=by decide +kernel
theorem bru_at {n : Nat} {v w : List Int} (hv : P5 n v) (hw : P5 n w) (h4 : n≤4) {k : Nat} (hk : k+1 < n) (ha : ascB k w=true) : blwB v (sw k w)=(blwB v w || (!ascB k v && blwB (sw k v) w)):=by
 have:=pair4_at bru_all hv hw h4
 simp only [bruB,List.all_eq_true,List.mem_range] at this
 have:=this k (by rw [hv.len];omega)
 rw [ha] at this
 simpa using this
theorem blid_at {n : Nat} {v : List Int} (hv : P5 n v) : blwB v (idL n)=decide (idL n=v)∧(lnN v=0 ∨ ∃ k,k+1 < n∧ascB k v=false):=by
 have:=all5_at blid_all hv.ok (by have:=hv.len;have:=hv.le;omega)
 simp only [blidB,Bool.and_eq_true,decide_eq_true_eq,Bool.or_eq_true,List.any_eq_true,List.mem_range] at this
 rw [hv.len] at this
 refine ⟨this.1,this.2.imp_right fun ⟨k,hk,h⟩=>⟨k,by omega,by simpa using h⟩⟩
theorem id_of_len {n : Nat} {w : List Int} (hw : P5 n w) (h0 : lnN w=0) : w=idL n:=by
 have:=(wrd_at hw).1
 unfold fstL at this
 rw [h0] at this
 exact this.symm
theorem len_desc {n : Nat} {w : List Int} (hw : P5 n w) {k : Nat} (hk : k+1 < n) (ha : ascB k w=false) : lnN (sw k w)+1=lnN w:=by
 have a:=(wrd_at hw).2.2.2
 have b:=(wrd_at (hw.sw hk)).2.2.2
 have c:=(hw.desc hk ha).1
 omega
def cdN (xs : List Int) (i t : Nat) : Nat:=((List.range t).filter fun (s : Nat)=>decide (xs.getD (i+1+s) 0 < xs.getD i 0)).length
theorem cdN_zero (xs : List Int) (i : Nat) : cdN xs i 0=0:=rfl
theorem cdN_yes {xs : List Int} {i t : Nat} (h : xs.getD (i+1+t) 0 < xs.getD i 0) : cdN xs i (t+1)=cdN xs i t+1:=by
 unfold cdN
 rw [List.range_succ,List.filter_append,List.length_append]
 have e : List.filter (fun (s : Nat)=>decide (xs.getD (i+1+s) 0 < xs.getD i 0)) [t]=[t]:=by
  rw [List.filter_cons,if_pos (decide_eq_true h)];rfl
 rw [e];rfl
theorem cdN_no {xs : List Int} {i t : Nat} (h : ¬ xs.getD (i+1+t) 0 < xs.getD i 0) : cdN xs i (t+1)=cdN xs i t:=by
 unfold cdN
 rw [List.range_succ,List.filter_append,List.length_append]
 have e : List.filter (fun (s : Nat)=>decide (xs.getD (i+1+s) 0 < xs.getD i 0)) [t]=[]:=by
  rw [List.filter_cons,if_neg (by rw [decide_eq_false h];simp)];rfl
 rw [e];rfl
theorem cdN_le (xs : List Int) (i t : Nat) : cdN xs i t≤t:=by
 unfold cdN
 exact Nat.le_trans (List.length_filter_le _ _) (by simp)
def codeN (xs : List Int) (i : Nat) : Nat:=cdN xs i (xs.length - (i+1))
def codeL (xs : List Int) : List Int:=(List.range xs.length).map fun i=>(codeN xs i : Int)
theorem codeL_length (xs : List Int) : (codeL xs).length=xs.length:=by simp [codeL]
theorem codeL_getD {xs : List Int} {i : Nat} (h : i < xs.length) : (codeL xs).getD i 0=(codeN xs i : Int):=by simp [codeL,List.getD_eq_getElem?_getD,h]
def lenTo (xs : List Int) : Nat→Nat
 | 0=>0
 | k+1=>lenTo xs k+codeN xs k
def lenP (xs : List Int) : Nat:=lenTo xs xs.length
theorem lenTo_le (xs : List Int) : ∀ k,lenTo xs k≤k * xs.length
 | 0=>by simp [lenTo]
 | k+1=>by
   have:=lenTo_le xs k
   have h2:=cdN_le xs k (xs.length - (k+1))
   unfold lenTo codeN
   rw [Nat.succ_mul];omega
theorem implCode_any (v : Value) (xs : List Int) (w : World) (h : Ints w v xs) (hp : permOk xs=true) :
 Calls Tryz.prog 32 #[v] w (RetI w (codeL xs)):=by
 obtain ⟨hl1,hl7,_,_⟩:=of_decide_eq_true hp
 have Hp:=Lib.hid hp
 have Hh:=Lib.hid h
 obtain ⟨p,cap,rfl,⟨hx1,hx⟩,hxc⟩:=h
 obtain ⟨b,off,rfl,hc⟩:=hxc (by omega)
 unfold maxLen at hx
 have Hc:=Lib.hid hc
 have hmk:=run_make_row' (P:=Tryz.prog) 24 3 (.int .i64 0) 8 Tryz.underlying24 info_int rfl .i64 .i64 xs.length (by omega) (by omega)
 have Hmk:=Lib.hid hmk
 clear hp hxc hc hmk
 go_enter Tryz.func32,Tryz.ntmps32
 go_wp2_with fail
 refine (implIsPerm_b _ xs _ Hp.out _ Hh.out).mono ?_
 rintro e w1 ⟨rfl,hb⟩
 have Hb1:=Lib.hid hb
 have hmk:=Hmk.out
 clear hb
 go_wp2_with fail
 clear hmk
 obtain ⟨w2,hw2⟩ : ∃ x,x=w1.alloc (.cells (madeCells #[Value.int .i64 0] xs.length) 3):=⟨_,rfl⟩
 have Hbl:=Lib.hid (show Below w.heap.size w w2 by rw [hw2];exact Hb1.out.trans ((below_alloc w1 _).mono Hb1.out.size))
 have Hs:=Lib.hid (show w.heap.size≤w1.heap.size∧w2.heap.size=w1.heap.size+1 from ⟨Hb1.out.size,by rw [hw2,size_alloc]⟩)
 have hO : OwnF w2 w1.heap.size (w1.heap.size+1) 3 (.slice (some ⟨w1.heap.size,0,none⟩) xs.length xs.length) xs.length (fun _=>.int .i64 0):=by
  rw [hw2]
  have:=World.rowIs_alloc w1 (madeCells #[Value.int .i64 0] xs.length) 3 (fun _=>.int .i64 0) (fun k hk=>by
   simp [madeCells] at hk
   simp [madeCells,hk,Nat.mod_one])
  exact OwnF.mk' (F:=fun _=>.int .i64 0) (by simpa [madeCells] using this) (Nat.le_refl _) (by omega) (Nat.le_refl _) (by unfold maxLen;omega) fun j hj=>rfl
 have HO:=Lib.hid hO
 rw [← hw2]
 clear hw2 hO
 go_loopg [15] xs.length (fun gg s15 wr=> ∃ i : Nat,i≤xs.length∧gg=xs.length - i∧s15=.int .i64 i∧Frm w1.heap.size (w1.heap.size+1) w2 wr∧Hid (OwnF wr w1.heap.size (w1.heap.size+1) 3 (.slice (some ⟨w1.heap.size,0,none⟩) xs.length xs.length) xs.length (fun j=>.int .i64 (if j < i then (codeN xs j : Int) else 0))))
 case atStart=>exact ⟨0,Nat.zero_le _,rfl,rfl,Frm.refl _ _ _,HO.out.congr fun j hj=>by simp⟩
 case round =>
  obtain ⟨i,hi,rfl,rfl,hF,hO⟩:=hrel
  obtain ⟨wo,rfl⟩ : ∃ x : World,x=wr:=⟨_,rfl⟩
  have HF:=Lib.hid hF
  have HO1:=Lib.hid hO.out
  clear hO hF
  have Hbw:=fun (W : World) (hf : Frm w1.heap.size (w1.heap.size+1) w2 W)=>show Below w.heap.size w W from Hbl.out.trans (hf.below Hs.out.1 Hbl.out.size)
  have HBw:=Lib.hid Hbw
  clear Hbw
  by_cases hlt : i < xs.length
  ·have hlt2 : (i : Int) < (xs.length : Int):=by omega
   have hlt3 : (0 : Int)≤(i : Int):=by omega
   have hlt4 : (i : Int)+1≤(xs.length : Int):=by omega
   have hlt5 : (0 : Int)≤(i : Int)+1:=by omega
   have hlt6 : ((i : Int)+1).toNat=i+1:=by omega
   by_cases hcap : cap=i+1
   ·have hn : xs.length - (i+1)=0:=by omega
    have Hcap:=Lib.hid hcap
    have hcap3 : cap - (i+1)=0:=by omega
    have hcap4 : (i : Int)+1≤(cap : Int):=by omega
    clear hcap
    go_wp2_with fail
    go_loopg [23] (xs.length - (i+1)) (fun gg s23 wr=> ∃ t : Nat,t≤xs.length - (i+1)∧gg=xs.length - (i+1) - t∧s23=.int .i64 t∧Frm w1.heap.size (w1.heap.size+1) w2 wr∧Hid (OwnF wr w1.heap.size (w1.heap.size+1) 3 (.slice (some ⟨w1.heap.size,0,none⟩) xs.length xs.length) xs.length (fun j=>.int .i64 (if j < i then (codeN xs j : Int) else if j=i then (cdN xs i t : Int) else 0))))
    case atStart=>exact ⟨0,Nat.zero_le _,rfl,rfl,HF.out,HO1.out.congr fun j hj=>by
     by_cases h1 : j < i
     ·simp [h1]
     ·simp [h1,cdN_zero]⟩
    case round =>
     obtain ⟨t,ht,rfl,rfl,hF,hO⟩:=hrel
     have HF2:=Lib.hid hF
     have HO2:=Lib.hid hO.out
     clear hF hO
     by_cases htl : t < xs.length - (i+1)
     ·exact absurd htl (by omega)
     ·obtain rfl : t=xs.length - (i+1):=by omega
      have htl2 : ¬ ((xs.length - (i+1) : Nat) : Int) < ((xs.length - (i+1) : Nat) : Int):=by omega
      have HO3:=Lib.hid (show OwnF wr w1.heap.size (w1.heap.size+1) 3 (.slice (some ⟨w1.heap.size,0,none⟩) xs.length xs.length) xs.length (fun j=>.int .i64 (if j < i+1 then (codeN xs j : Int) else 0)) from HO2.out.congr fun j hj=>by
       by_cases h1 : j < i
       ·rw [if_pos h1,if_pos (by omega)]
       ·by_cases h2 : j=i
        ·subst h2;rw [if_neg h1,if_pos rfl,if_pos (by omega)];rfl
        ·rw [if_neg h1,if_neg h2,if_neg (by omega)])
      go_wp2_with fail
      go_roundg (xs.length - (i+1))
      case measure=>omega
      case rel=>exact ⟨i+1,by omega,rfl,by go_num,HF2.out,HO3.out⟩
   ·have hcap2 : ¬ cap - (i+1)=0:=by omega
    go_wp2_with fail
    go_loopg [23] (xs.length - (i+1)) (fun gg s23 wr=> ∃ t : Nat,t≤xs.length - (i+1)∧gg=xs.length - (i+1) - t∧s23=.int .i64 t∧Frm w1.heap.size (w1.heap.size+1) w2 wr∧Hid (OwnF wr w1.heap.size (w1.heap.size+1) 3 (.slice (some ⟨w1.heap.size,0,none⟩) xs.length xs.length) xs.length (fun j=>.int .i64 (if j < i then (codeN xs j : Int) else if j=i then (cdN xs i t : Int) else 0))))
    case atStart=>exact ⟨0,Nat.zero_le _,rfl,rfl,HF.out,HO1.out.congr fun j hj=>by
     by_cases h1 : j < i
     ·simp [h1]
     ·simp [h1,cdN_zero]⟩
    case round =>
     obtain ⟨t,ht,rfl,rfl,hF,hO⟩:=hrel
     have HF2:=Lib.hid hF
     have HO2:=Lib.hid hO.out
     clear hF hO
     by_cases htl : t < xs.length - (i+1)
     ·have htl2 : (t : Int) < ((xs.length - (i+1) : Nat) : Int):=by omega
      have htl3 : (0 : Int)≤(t : Int):=by omega
      have hk1:=Hc.out (i+1+t) (by omega)
      have hk2:=Hc.out i hlt
      have hbw:=HBw.out wr HF2.out
      have c1 : wr.cell? ⟨b,off+(i+1)+t,none⟩=some (.int .i64 (xs.getD (i+1+t) 0)):=by
       rw [show off+(i+1)+t=off+(i+1+t) by omega,hbw.cell (p:=⟨b,off+(i+1+t),none⟩) (World.block_lt_of_cell? _ _ hk1),hk1];rfl
      have c2 : wr.cell? ⟨b,off+i,none⟩=some (.int .i64 (xs.getD i 0)):=by
       rw [hbw.cell (p:=⟨b,off+i,none⟩) (World.block_lt_of_cell? _ _ hk2),hk2];rfl
      have c3:=HO2.out.cell hlt
      have c4:=HO2.out.frozen i
      rw [if_neg (Nat.lt_irrefl i),if_pos rfl] at c3
      have hle:=cdN_le xs i t
      obtain ⟨x,hx'⟩ : ∃ x,x=xs.getD i 0:=⟨_,rfl⟩
      obtain ⟨y,hy'⟩ : ∃ y,y=xs.getD (i+1+t) 0:=⟨_,rfl⟩
      obtain ⟨c,hc'⟩ : ∃ c,c=cdN xs i t:=⟨_,rfl⟩
      rw [← hy'] at c1
      rw [← hx'] at c2
      rw [← hc'] at c3 hle
      have Hx:=Lib.hid hx'
      have Hy:=Lib.hid hy'
      have Hcc:=Lib.hid hc'
      clear hk1 hk2 hbw hx' hy' hc'
      by_cases hlt9 : y < x
      ·have HG:=Lib.hid (show cdN xs i (t+1)=c+1 by rw [cdN_yes (by rw [← Hx.out,← Hy.out];exact hlt9),Hcc.out])
       go_wp2_with fail
       go_roundg (xs.length - (i+1) - (t+1))
       case measure=>omega
       case rel =>
        refine ⟨t+1,by omega,rfl,by go_num,HF2.out.setCell (p:=⟨w1.heap.size,i,none⟩) (Nat.le_refl _) (Nat.lt_succ_self _) _,?_⟩
        refine (HO2.out.set i _).congr fun j hj=> ?_
        by_cases h1 : j=i
        ·subst h1;rw [if_pos rfl,if_neg (Nat.lt_irrefl _),if_pos rfl,HG.out];go_num
        ·rw [if_neg h1]
         simp only [h1,if_false]
      ·have HG:=Lib.hid (show cdN xs i (t+1)=cdN xs i t from cdN_no (by rw [← Hx.out,← Hy.out];exact hlt9))
       go_wp2_with fail
       go_roundg (xs.length - (i+1) - (t+1))
       case measure=>omega
       case rel=>exact ⟨t+1,by omega,rfl,by go_num,HF2.out,by show OwnF _ _ _ _ _ _ _;rw [HG.out];exact HO2.out⟩
     ·obtain rfl : t=xs.length - (i+1):=by omega
      have htl2 : ¬ ((xs.length - (i+1) : Nat) : Int) < ((xs.length - (i+1) : Nat) : Int):=by omega
      have HO3:=Lib.hid (show OwnF wr w1.heap.size (w1.heap.size+1) 3 (.slice (some ⟨w1.heap.size,0,none⟩) xs.length xs.length) xs.length (fun j=>.int .i64 (if j < i+1 then (codeN xs j : Int) else 0)) from HO2.out.congr fun j hj=>by
       by_cases h1 : j < i
       ·rw [if_pos h1,if_pos (by omega)]
       ·by_cases h2 : j=i
        ·subst h2;rw [if_neg h1,if_pos rfl,if_pos (by omega)];rfl
        ·rw [if_neg h1,if_neg h2,if_neg (by omega)])
      go_wp2_with fail
      go_roundg (xs.length - (i+1))
      case measure=>omega
      case rel=>exact ⟨i+1,by omega,rfl,by go_num,HF2.out,HO3.out⟩
  ·obtain rfl : i=xs.length:=by omega
   have hlt2 : ¬ (xs.length : Int) < (xs.length : Int):=by omega
   have HO9:=Lib.hid (show OwnI 3 wo w1.heap.size (w1.heap.size+1) (.slice (some ⟨w1.heap.size,0,none⟩) xs.length xs.length) (codeL xs) by
    refine OwnF.ints ?_
    rw [codeL_length]
    exact HO1.out.congr fun j hj=>by rw [if_pos hj];unfold iv;rw [codeL_getD hj])
   go_wp2_with fail
   go_ret
   exact ⟨_,rfl,HO9.out.mono Hs.out.1 (by have:=Hs.out.2;have:=HF.out.size;omega),HBw.out _ HF.out⟩
theorem implLength_any (v : Value) (xs : List Int) (w : World) (h : Ints w v xs) (hp : permOk xs=true) :
 Calls Tryz.prog 11 #[v] w fun e w'=>e=.returned (.int .i64 (lenP xs : Int))∧Below w.heap.size w w':=by
 obtain ⟨hl1,hl7,_,_⟩:=of_decide_eq_true hp
 have Hp:=Lib.hid hp
 have Hh:=Lib.hid h
 clear hp h
 go_enter Tryz.func11,Tryz.ntmps11
 go_wp2_with fail
 refine (implIsPerm_b _ xs _ Hp.out _ Hh.out).mono ?_
 rintro e w1 ⟨rfl,hb⟩
 have Hb1:=Lib.hid hb
 have Hh1:=Lib.hid (Hh.out.below hb)
 clear hb
 go_wp2_with fail
 refine (implCode_any _ xs _ Hh1.out Hp.out).mono ?_
 rintro e w2 ⟨u,rfl,ho,hb⟩
 have hoi:=ho.ints
 obtain ⟨p,cap,rfl,⟨hx1,hx⟩,hxc⟩:=hoi
 rw [codeL_length] at *
 unfold maxLen at hx
 have Hb2:=Lib.hid (Hb1.out.trans (hb.mono Hb1.out.size))
 obtain ⟨b,off,rfl,hc⟩:=hxc (by omega)
 have Hc:=Lib.hid hc
 clear hb ho hxc hc
 go_wp2_with fail
 go_loop [3,12] (fun s3 s12=> ∃ k : Nat,k≤xs.length∧s12=.int .i64 k∧s3=.int .i64 (lenTo xs k : Int)) (fun _ s12=>xs.length - (intOf s12).toNat)
 case atStart=>exact ⟨0,Nat.zero_le _,rfl,rfl⟩
 case round =>
  obtain ⟨k,hk,rfl,rfl⟩:=hrel
  by_cases hlt : k < xs.length
  ·have hlt2 : (k : Int) < (xs.length : Int):=by omega
   have hlt3 : (0 : Int)≤(k : Int):=by omega
   have c1:=Hc.out k hlt
   unfold iv at c1
   rw [codeL_getD hlt] at c1
   have hle:=lenTo_le xs k
   have hle2 : codeN xs k≤xs.length - (k+1):=cdN_le xs k _
   have hle3 : k * xs.length≤7 * 7:=Nat.mul_le_mul (by omega) hl7
   have HS:=Lib.hid (show lenTo xs (k+1)=lenTo xs k+codeN xs k from rfl)
   obtain ⟨A,hA⟩ : ∃ A,A=lenTo xs k:=⟨_,rfl⟩
   obtain ⟨B,hB⟩ : ∃ B,B=codeN xs k:=⟨_,rfl⟩
   have hAl : A≤49:=by omega
   have hBl : B≤7:=by omega
   rw [← hA,← hB] at HS
   rw [← hB] at c1
   rw [← hA]
   clear hA hB hle hle2 hle3
   go_wp2_with fail
   go_round
   case rel=>exact ⟨k+1,by omega,by go_num,by rw [HS.out];go_num⟩
   case measure=>simp [intOf];omega
  ·obtain rfl : k=xs.length:=by omega
   have hlt2 : ¬ (xs.length : Int) < (xs.length : Int):=by omega
   go_wp2_with fail
   go_ret
   exact ⟨rfl,Hb2.out⟩
end
section
open Go.RowKit Go.Maps Go.WideMaps
def addM (t : List Int × Int) : Pl→Pl
 | []=>[t]
 | s :: l=>if s.1=t.1 then (s.1,s.2+t.2) :: l else s :: addM t l
def nrm (P : Pl) : Pl:=(P.foldl (fun l t=>addM t l) []).filter fun t=>decide (t.2 ≠ 0)
theorem Ev_addM (t : List Int × Int) (g : List Int→Int) : ∀ l,Ev (addM t l) g=Ev l g+t.2 * g t.1
 | []=>by rw [addM,Ev_cons];simp [Ev]
 | s :: l=>by
   rw [addM]
   by_cases h : s.1=t.1
   ·rw [if_pos h,Ev_cons,Ev_cons,← h];grind
   ·rw [if_neg h,Ev_cons,Ev_cons,Ev_addM t g l];grind
theorem Ev_foldM (g : List Int→Int) : ∀ (P acc : Pl),Ev (P.foldl (fun l t=>addM t l) acc) g=Ev acc g+Ev P g
 | [],acc=>by simp [Ev]
 | t :: P,acc=>by
   rw [List.foldl_cons,Ev_foldM g P,Ev_addM,Ev_cons];omega
theorem Ev_filter0 (g : List Int→Int) : ∀ P : Pl,Ev (P.filter fun t=>decide (t.2 ≠ 0)) g=Ev P g
 | []=>rfl
 | t :: P=>by
   rw [List.filter_cons]
   by_cases h : t.2=0
   ·rw [if_neg (by simp [h]),Ev_cons,h,Ev_filter0 g P];simp
   ·rw [if_pos (by simpa using h),Ev_cons,Ev_cons,Ev_filter0 g P]
theorem Ev_nrm (P : Pl) (g : List Int→Int) : Ev (nrm P) g=Ev P g:=by
 unfold nrm
 rw [Ev_filter0,Ev_foldM]
 show 0+_=_
 omega
def lowN : Nat→List Int→Pl→Pl
 | 0,_,P=>P
 | f+1,xs,P=>match fasc xs with
   | none=>P
   | some k=>nrm (dvP k (lowN f (swapL xs k (k+1)) P))
def Hy (g : List Int→Int) (y : List Int) (e : List Int) : Int:=g (e.take 7) * mono y (e.drop 7)
theorem low_N {P : Pl} : ∀ (f : Nat) (xs : List Int),∀ g,Ev (lowN f xs P) g=Ev (lowP f xs P) g
 | 0,_,g=>rfl
 | f+1,xs,g=>by
   rw [lowP,lowN]
   cases hf : fasc xs with
   | none=>rfl
   | some k =>
     show Ev (nrm (dvP k _)) g=Ev (dvP k _) g
     rw [Ev_nrm,Ev_dv,Ev_dv]
     exact low_N f _ _
def Ok14 (P : Pl) : Prop:=∀ t ∈ P,t.1.length=14 ∧ ∀ j,0≤t.1.getD j 0
theorem rsE_ok {i : Nat} {e : List Int} (h : e.length=14 ∧ ∀ j,0≤e.getD j 0) : (rsE i e).length=14 ∧ ∀ j,0≤(rsE i e).getD j 0:=by
 unfold rsE
 refine ⟨by rw [List.length_set];exact h.1,fun j=> ?_⟩
 rw [List.getD_eq_getElem?_getD,List.getElem?_set]
 have h1:=h.2 i
 have h2:=h.2 j
 rw [List.getD_eq_getElem?_getD] at h2
 split
 ·split
  ·show 0≤e.getD i 0+1
   omega
  ·exact Int.le_refl _
 ·exact h2
theorem Ok14.rs {P : Pl} (h : Ok14 P) (i : Nat) : Ok14 (rsP i P):=fun t ht=>by
 obtain ⟨s,hs,rfl⟩:=List.mem_map.1 ht
 exact rsE_ok (h s hs)
theorem Ok14.scl {P : Pl} (h : Ok14 P) (k : Int) : Ok14 (sclP k P):=fun t ht=>by
 obtain ⟨s,hs,rfl⟩:=List.mem_map.1 ht
 exact h s hs
def stE (n : Nat) : List Int:=(List.range 7).map fun (i : Nat)=>((n - 1 - i : Nat) : Int)
def stP (n : Nat) : Pl:=[(stE n,1)]
structure Fit6 (P : Pl) (S : List (List Int)) : Prop where
 co : ∀ e,-1000000≤cfP P e∧cfP P e≤1000000
 sup : ∀ e,cfP P e ≠ 0→e ∈ S
 len : S.length≤600
section
variable {n : Nat} {w : List Int}
end
theorem info_tm : (Tryz.prog.info? 68).map (fun i=>(i.zero,i.size,i.bytes))=some (some (.agg #[.slice none 0 0,.int .i64 0]),2,32):=by kernel_rfl
theorem bel_grown {w w' : World} (h : Below w.heap.size w w') (r : Option Nat) : w.grownBy w' r:=⟨h.os,h.tape,h.output,h.size,fun i hi _=>h.block i hi⟩
theorem OwnTd.keepIt {w w' : World} {lo hi r : Nat} {v : Value} {cs : List Cls} {b : Option Nat} {x1 : Nat} {x2 : Array Nat} {x3 : Nat} (h : OwnTd w lo hi v cs) (hr : w.heap[r]?=some (.mapIter b x1 x2 x3)) (hg : w.grownBy w' (some r)) : OwnTd w' lo hi v cs:=by
 obtain ⟨f,g1,g2,g3⟩:=h
 have hne : ∀ {T : TypeId} {k : Nat},(∃ c fz,w.heap[k]?=some (.cells c T fz))→some k ≠ some r:=fun {T k} ⟨c,fz,hk⟩ e=>by
  injection e with e
  rw [e,hr] at hk
  cases hk
 have g1':=g1
 obtain ⟨xs,ho,hf⟩:=g1
 exact ⟨f,⟨xs,⟨ownsRow_of_block ho.1 fun k hk=>hg.block k (Own.block ho hk).2.2 (hne (g1'.kind k hk)),ho.2⟩,hf⟩,fun i hi=>⟨ownsRow_of_block (g2 i hi).1 fun k hk=>hg.block k (Own.block (g2 i hi) hk).2.2 (hne (OwnI.kind (g2 i hi) k hk)),(g2 i hi).2⟩,g3⟩
theorem closed_any (u : Value) (d n : Nat) (P : Pl) (w : World) (S : List (List Int)) (hf : PolV w u d n P) (hd : d≤24) (hco : ∀ e,-1000000≤cfP P e∧cfP P e≤1000000) (hS : ∀ e,K7 d e→cfP P e ≠ 0→e ∈ S) (h6 : S.length≤600) :
 Calls Tryz.prog 63 #[u] w fun e w'=> ∃ v ts,e=.returned (.tuple #[v,.bool true])∧OwnTd w' w.heap.size w'.heap.size v ts∧TsOk ts∧(∀ g,Ev ts g=Ev P g)∧Below w.heap.size w w':=by
 obtain ⟨bf,Df,rfl,hf1,hf2⟩:=hf
 have hblf:=hf1.lt
 have HF1:=Lib.hid hf1
 have HF2:=Lib.hid hf2
 have Hco:=Lib.hid hco
 have HS:=Lib.hid hS
 have hsz:=size_le hf1 hf2 (by omega) hco hS
 have hz6 : Maps.size Df≤600:=by omega
 have e1 : ¬ (600 : Int) < (Maps.size Df : Int):=by omega
 have e2 : decide ((600 : Int) < (Maps.size Df : Int))=false:=decide_eq_false e1
 have hG0:=Lib.hid (Gath.start (T:=fun g=>g) hf1 hf2)
 obtain ⟨B,hB⟩ : ∃ B,B=w.heap.size:=⟨_,rfl⟩
 have HB:=Lib.hid hB
 have es1 : (w.alloc (.cells #[] 68)).heap.size=w.heap.size+1:=by simp
 clear hf2 hco hS hsz hf1
 go_enter Tryz.func63,Tryz.ntmps63
 go_wp2_with (first
  | (at_len;refine wpList_len_own _ rfl _ 105 rfl 109 3 und41 _ bf n _ rfl HF1.out ?_)
  | (at_range;refine wpList_range_own _ rfl _ 105 rfl 109 3 klaw und41 _ bf n _ rfl (HF1.out.alloc _) ?_;intro w0 hrg0 hg0 hs0)
  | fail)
 rw [es1] at hrg0 hs0
 have hbel0 : Below w.heap.size w w0:=((Below.refl _ _).alloc (Nat.le_refl _) _).grown hg0 (by simp) (fun j hj=>by cases hj)
 have hown0 : OwnTd w0 w.heap.size (w.heap.size+1) (.slice (some ⟨w.heap.size,0,none⟩) 0 0) []:=(OwnTd.made0 w).keep fun k _ _ h3=>hg0.block k h3 (by simp)
 rw [← hB] at hrg0 hs0 hbel0 hown0 hblf ⊢
 have Hbel0:=Lib.hid hbel0
 have Hown0:=Lib.hid hown0
 clear hbel0 hown0 hg0 es1 hB e1 e2
 go_loopg [4,5,6] (Maps.size Df) (fun g s4 s5 s6 wr=> ∃ (left : Lit→Bool) (A : List Cls),RanP wr bf (B+1) n Df left g∧g≤Maps.size Df∧A.length+g≤Maps.size Df∧(∀ l,left l=true→has Df l=true) ∧
  Hid (OwnTd wr B wr.heap.size s4 A)∧Hid (Got d P left A)∧Hid (Gath Df P (fun g=>g) left A)∧Hid (Below B w wr)∧B+2≤wr.heap.size)
 case atStart=>exact ⟨_,[],hrg0,Nat.le_refl _,by simp,fun _ h=>h,Lib.hid (Hown0.out.mono (Nat.le_refl _) (by omega)),Lib.hid (Got.nil _ _ _),hG0,Hbel0,by omega⟩
 case round =>
  obtain ⟨left,A,hrg,hgs,hal,hleft,hO,hgot,hga,hbel,hsz2⟩:=hrel
  obtain ⟨wx,rfl⟩ : ∃ x : World,x=wr:=⟨_,rfl⟩
  obtain ⟨p4,k4,rfl,_,_⟩:=hO.out.shape
  go_wp2_with (first
   | (at_next;refine wpList_next_poly _ rfl _ rfl bf (B+1) n d Df P left gk rfl hrg HF2.out (by omega) hleft ?_ ?_)
   | fail)
  ·intro hc0 hl0
   have hend:=hgot.out.end hd Hco.out HS.out h6 (hga.out.end hl0)
   have Hend:=Lib.hid hend
   have hnd:=hgot.out.nod
   have hm7 : ∀ t ∈ A,t.1.length=7 ∧ ∀ j,0≤t.1.getD j 0∧t.1.getD j 0≤1000000:=fun t ht=>by
    have:=hend.1.2.1 t ((srtT_perm A).mem_iff.2 ht)
    exact ⟨this.1,fun j=>by have:=this.2.1 j;omega⟩
   have Hsf:=Lib.hid (sortFT_any (.slice p4 A.length k4) A B wx.heap.size wx hO.out (by omega) hnd hm7)
   clear hend hnd hm7 hrg hleft hO hgot hga
   go_wp2_with fail
   refine Hsf.out.mono ?_
   rintro e w2 ⟨rfl,ho2,hf2⟩
   have Ho2:=Lib.hid ho2
   have Hf2:=Lib.hid hf2
   clear ho2 hf2
   go_wp2_with fail
   refine (PolyOk_yes (.slice p4 A.length k4) (srtT A) _ Ho2.out.rd Hend.out.1).mono ?_
   rintro e w3 ⟨rfl,hb3⟩
   have hs2:=Hf2.out.size
   have hs3:=hb3.size
   have Ho3:=Lib.hid ((Ho2.out.below hb3).mono (Nat.le_refl _) (show wx.heap.size≤w3.heap.size by omega))
   have Hb3:=Lib.hid ((hbel.out.trans (Hf2.out.below (Nat.le_refl _) (by omega))).trans (hb3.mono (by omega)))
   clear hb3
   go_wp2_with fail
   go_ret2
   exact ⟨_,_,rfl,HB.out ▸ Ho3.out,Hend.out.1,Hend.out.2,HB.out ▸ Hb3.out⟩
  ·intro a0 a1 a2 a3 a4 a5 a6 c w1 cnt1 hK hlx hwf hat hrg1 hlt hgr1 hs1 hen
   have hit : ∃ x1 x2 x3,wx.heap[B+1]?=some (.mapIter (some bf) x1 x2 x3):=by
    obtain ⟨_,_,x1,x2,x3,_,_,_,_,h5,_⟩:=hrg
    exact ⟨x1,x2,x3,h5⟩
   obtain ⟨x1,x2,x3,hit⟩:=hit
   have HO1:=Lib.hid (hO.out.keepIt hit hgr1)
   have Hbel1:=Lib.hid (hbel.out.grown hgr1 (by omega) (fun j hj=>by cases hj;omega))
   have hc:=at_cf HF1.out HF2.out (by omega) Hco.out hK (hleft _ hlx) hat
   have Hgot:=Lib.hid (hgot.out.snoc (by omega) hK hlx hc)
   have Hga:=Lib.hid (hga.out.step HF2.out.tidy hK (by omega) hlx hat (A':=A ++ [([a0,a1,a2,a3,a4,a5,a6],c)]) fun g=>by
    rw [Ev_append]
    exact Cg.of _ _ (by simp [Ev]))
   rw [← hs1] at HO1
   have hal2 : A.length+1+cnt1≤Maps.size Df:=by omega
   have hsz3 : B+2≤w1.heap.size:=by omega
   have Hleft:=Lib.hid hleft
   clear hit hc hat hgr1 hrg hO hgot hga hbel hleft hs1
   go_wp2_with fail
   have hI : Ints (w1.alloc (.cells #[.int .i64 a0,.int .i64 a1,.int .i64 a2,.int .i64 a3,.int .i64 a4,.int .i64 a5,.int .i64 a6] 109)) (.slice (some ⟨w1.heap.size,0,none⟩) 7 7) [a0,a1,a2,a3,a4,a5,a6] :=
    ⟨some ⟨w1.heap.size,0,none⟩,7,rfl,⟨Nat.le_refl _,by unfold maxLen;omega⟩,fun _=>⟨w1.heap.size,0,rfl,fun j hj=>match j,hj with
      | 0,_=>cell_of_blk (heap_alloc_top _ _) (j:=0) rfl
      | 1,_=>cell_of_blk (heap_alloc_top _ _) (j:=1) rfl
      | 2,_=>cell_of_blk (heap_alloc_top _ _) (j:=2) rfl
      | 3,_=>cell_of_blk (heap_alloc_top _ _) (j:=3) rfl
      | 4,_=>cell_of_blk (heap_alloc_top _ _) (j:=4) rfl
      | 5,_=>cell_of_blk (heap_alloc_top _ _) (j:=5) rfl
      | 6,_=>cell_of_blk (heap_alloc_top _ _) (j:=6) rfl⟩⟩
   refine (clone_any _ [a0,a1,a2,a3,a4,a5,a6] _ hI (by simp)).mono ?_
   clear hI
   rintro e w2 ⟨u2,rfl,ho2,hb2⟩
   obtain ⟨xs,hxs⟩ : ∃ x,x=[a0,a1,a2,a3,a4,a5,a6]:=⟨_,rfl⟩
   obtain ⟨p2,k2,e2,_,_⟩:=ho2.shape
   have e3 : u2=.slice p2 7 k2:=e2
   subst e3
   rw [← hxs] at ho2 Hgot Hga
   rw [← hxs] at hrg1
   have hsa : (w1.alloc (.cells #[.int .i64 a0,.int .i64 a1,.int .i64 a2,.int .i64 a3,.int .i64 a4,.int .i64 a5,.int .i64 a6] 109)).heap.size=w1.heap.size+1:=size_alloc _ _
   have hb12 : Below w1.heap.size w1 w2:=(below_alloc _ _).trans (hb2.mono (by rw [hsa];omega))
   have hs2 : w1.heap.size+1≤w2.heap.size:=by have:=hb2.size;rw [hsa] at this;exact this
   rw [hsa] at ho2
   have hO2:=HO1.out.below hb12
   obtain ⟨f,g1,g2,g3⟩:=hO2
   have hal : Below w2.heap.size w2 (w2.alloc (.cells #[.slice p2 7 k2,.int .i64 c] 68)):=below_alloc w2 _
   have g1a:=Lib.hid (g1.below hal)
   have g2a:=Lib.hid (show ∀ i,i < A.length→OwnI 3 (w2.alloc (.cells #[.slice p2 7 k2,.int .i64 c] 68)) B w1.heap.size (f i) (A.getD i clD).1 from fun i hi=>(g2 i hi).below hal)
   have G3:=Lib.hid g3
   have Hxt:=Lib.hid (ho2.below hal)
   have Hcl:=Lib.hid (show ∀ j,j < 2→(w2.alloc (.cells #[.slice p2 7 k2,.int .i64 c] 68)).cell? ⟨w2.heap.size,j,none⟩=some (match j with | 0=>.slice p2 7 k2 | _=>.int .i64 c) from fun j hj =>
    match j,hj with
    | 0,_=>cell_of_blk (heap_alloc_top w2 _) (j:=0) rfl
    | 1,_=>cell_of_blk (heap_alloc_top w2 _) (j:=1) rfl)
   have Hone:=Lib.hid (show ∀ j,j < 2→(match j with | 0=>Value.slice p2 7 k2 | _=>.int .i64 c).oneCell'=true from fun j hj =>
    match j,hj with
    | 0,_=>rfl
    | 1,_=>rfl)
   have Hn1:=Lib.hid (show A.length+1≤maxLen by unfold maxLen;omega)
   have Hn2:=Lib.hid (show (A.length+1) * 32≤140737488355328 by omega)
   have Hlo:=Lib.hid (show B≤(w2.alloc (.cells #[.slice p2 7 k2,.int .i64 c] 68)).heap.size by rw [size_alloc];omega)
   have Hhi:=Lib.hid (show w1.heap.size≤(w2.alloc (.cells #[.slice p2 7 k2,.int .i64 c] 68)).heap.size by rw [size_alloc];omega)
   have Hb12:=Lib.hid hb12
   have Hrg:=Lib.hid hrg1
   have Hhal:=Lib.hid hal
   have Hxs:=Lib.hid hxs
   clear g1 g2 g3 ho2 hb2 hb12 hsa hal hrg1 hen hxs hK hlx hwf
   go_wp2_with (at_builtin;go_must (refine wpList_append_S rfl (.tmp 18) (.tmp 23) 35 rfl 68 _ 2 32 Tryz.underlying35 info_tm rfl (by omega) B w1.heap.size _ A.length (clF A f) rfl g1a.out Hlo.out _ _ _ rfl Hcl.out Hone.out Hn1.out Hn2.out ?_;intro v' w' hv hg))
   have hg' : (w2.alloc (.cells #[.slice p2 7 k2,.int .i64 c] 68)).grownBy w' (Value.slice p4 A.length k4).ownBlock:=hg
   clear hg
   have hO':=OwnTd.snoc (m:=(xs,c)) (hi:=w2.heap.size) g1a.out g2a.out G3.out (OwnI.mono Hxt.out (by omega : w1.heap.size≤w1.heap.size+1) (Nat.le_refl _)) (by omega) (by omega) hg' (by have:=hg'.size;rw [size_alloc] at this;omega) hv
   have hbw : Below B w w':=(Hbel1.out.trans (Hb12.out.mono (by omega))).trans ((Hhal.out.mono (by omega)).trans (grownBy_below hg' g1a.out.blocks (Nat.le_refl _) Hlo.out))
   have hr1 : RanP w2 bf (B+1) n Df (fun z=>left z && !z.sameKey (kl xs)) cnt1:=Hrg.out.kept (bel_grown Hb12.out none) (by simp) (by simp)
   have hr2:=hr1.alloc (.cells #[.slice p2 7 k2,.int .i64 c] 68)
   have hr3 : RanP w' bf (B+1) n Df (fun z=>left z && !z.sameKey (kl xs)) cnt1:=hr2.kept hg' (fun e=>by have:=(g1a.out.blocks _ e.symm).1;omega) (fun e=>by
    obtain ⟨_,_,_,_,_,_,_,_,_,h5,_⟩:=hr2
    obtain ⟨c1,fz,hk⟩:=g1a.out.kind _ e.symm
    rw [hk] at h5
    cases h5)
   have hsz4 : B+2≤w'.heap.size:=by have:=hg'.size;rw [size_alloc] at this;omega
   have HO':=Lib.hid hO'
   have Hbw:=Lib.hid hbw
   have Hr3:=Lib.hid hr3
   clear hO' hbw hr1 hr2 hr3 hv hg'
   go_roundg cnt1
   case measure=>exact hlt
   case rel=>exact ⟨_,A ++ [(xs,c)],Hr3.out,by omega,by rw [List.length_append,List.length_singleton];omega,(fun l h=>Hleft.out l (by rw [Bool.and_eq_true] at h;exact h.1)),HO'.out,Hgot.out,Hga.out,Hbw.out,hsz4⟩
end
section
theorem cancel {a b : Int} (ha : a ≠ 0) (h : a * b=0) : b=0:=(Int.mul_eq_zero.1 h).resolve_left ha
theorem step2 {a b c p q r s u v w : Int} (h1 : a * u=p) (h2 : b * v=q) (h3 : c * w=u - v) : a * b * c * w=b * p - a * q:=by
 have : a * b * c * w=a * b * (c * w):=by grind
 rw [this,h3]
 have : a * b * (u - v)=b * (a * u) - a * (b * v):=by grind
 rw [this,h1,h2]
theorem braid (x y z p0 p1 p2 p12 p21 p121 al al2 al12 be be1 de ga ga1 ga2 ga21 ep ep2 : Int) (hxy : x - y ≠ 0) (hxz : x - z ≠ 0) (hyz : y - z ≠ 0)
 (h1 : (x - y) * al=p0 - p1) (h2 : (x - z) * al2=p2 - p21) (h3 : (y - z) * al12=p12 - p121)
 (h4 : (y - z) * be=al - al2) (h5 : (x - z) * be1=al - al12) (h6 : (x - y) * de=be - be1)
 (g1 : (y - z) * ga=p0 - p2) (g2 : (x - z) * ga1=p1 - p12) (g3 : (x - y) * ga21=p21 - p121)
 (g4 : (x - y) * ep=ga - ga1) (g5 : (x - z) * ep2=ga - ga21) : (y - z) * de=ep - ep2:=by
 have e1:=step2 h1 h2 h4 (r:=0) (s:=0)
 have e2:=step2 h1 h3 h5 (r:=0) (s:=0)
 have e3:=step2 g1 g2 g4 (r:=0) (s:=0)
 have e4:=step2 g1 g3 g5 (r:=0) (s:=0)
 clear h1 h2 h3 h4 h5 g1 g2 g3 g4 g5
 have d1 : (x - y) * (x - z) * (y - z) * ((x - y) * de)=(x - y) * (p0 - p1 - p2+p12+p21 - p121):=by
  rw [h6]
  have : (x - y) * (x - z) * (y - z) * (be - be1)=(x - y) * (x - z) * (y - z) * be - (x - y) * (y - z) * (x - z) * be1:=by grind
  rw [this,e1,e2]
  grind
 have d2 : (x - y) * (x - z) * (y - z) * (ep - ep2)=(y - z) * (p0 - p1 - p2+p12+p21 - p121):=by
  have : (x - y) * (x - z) * (y - z) * (ep - ep2)=(y - z) * (x - z) * (x - y) * ep - (y - z) * (x - y) * (x - z) * ep2:=by grind
  rw [this,e3,e4]
  grind
 clear e1 e2 e3 e4 h6
 have c1 : (x - y) * (x - z) * (y - z) * de=p0 - p1 - p2+p12+p21 - p121:=by
  have : (x - y) * ((x - y) * (x - z) * (y - z) * de - (p0 - p1 - p2+p12+p21 - p121))=0:=by
   have t : ∀ A p : Int,(x - y) * (A * de - p)=A * ((x - y) * de) - (x - y) * p:=fun A p=>by grind
   rw [t,d1];omega
  have:=cancel hxy this
  omega
 have c2 : (x - y) * (x - z) * (ep - ep2)=p0 - p1 - p2+p12+p21 - p121:=by
  have : (y - z) * ((x - y) * (x - z) * (ep - ep2) - (p0 - p1 - p2+p12+p21 - p121))=0:=by
   have t : ∀ A p : Int,(y - z) * (A * (ep - ep2) - p)=A * (y - z) * (ep - ep2) - (y - z) * p:=fun A p=>by grind
   rw [t,d2];omega
  have:=cancel hyz this
  omega
 have : (x - y) * ((x - z) * ((y - z) * de - (ep - ep2)))=0:=by
  have t : (x - y) * ((x - z) * ((y - z) * de - (ep - ep2)))=(x - y) * (x - z) * (y - z) * de - (x - y) * (x - z) * (ep - ep2):=by grind
  rw [t,c1,c2];omega
 have:=cancel hxz (cancel hxy this)
 omega
end
end Go.Proofs.YtincaodpjdeoeaaGreatDoor
