/-
  A part of the proof of FnSessions (texts of one proof, joined).
-/
import Derived.Test.YtincaodpjdeoeaaGreatDoorJ10
namespace Go.Proofs.YtincaodpjdeoeaaGreatDoor
set_option linter.all false
set_option maxRecDepth 100000
set_option maxHeartbeats 16000000
section
open Go.RowKit Go.Maps Go.WideMaps Go.WideElems Go.MapKept Go.ChangeMaps Go.ChangeShapes
def sqR (w : List Int) : Option (List Cls):=(xpF 40 (sqP w)).map srtC
theorem ev_sq (xs : List Int) (g : List Int→Int) : Ev (mulP (symS9 xs) (symS9 xs)) g=Ev (sqP xs) g:=(Ev_mulN _ _ g).symm
theorem sq_co {xs : List Int} (hS : SqIs xs) (e : List Int) : -1000000≤cfP (mulP (symS9 xs) (symS9 xs)) e∧cfP (mulP (symS9 xs) (symS9 xs)) e≤1000000 :=
 l1_co (fun g=>(ev_sq xs g).symm) hS.l2 e
theorem Expand_sq (u : Value) (ts : List Cls) (xs : List Int) (W : World) (hr : RdCl W u ts) (hok : TsOk ts) (hev : ∀ g,Ev ts g=Ev (mulP (symS9 xs) (symS9 xs)) g) (hS : SqIs xs) :
 Calls Tryz.prog 37 #[u] W fun e w'=> ∃ u',e=.returned (.tuple #[u',.bool (sqR xs).isSome])∧(∀ L,sqR xs=some L→OwnCl w' W.heap.size w'.heap.size u' L)∧(∃ p n c,u'=.slice p n c)∧Below W.heap.size W w':=by
 have he : ∀ g,Ev ts g=Ev (sqP xs) g:=fun g=>(hev g).trans (ev_sq xs g)
 rcases hS.how with ⟨L,h1,h2,h3,h4,h5,_⟩ | ⟨h1,h2⟩
 ·have e1 : sqR xs=some (srtC L):=by unfold sqR;rw [h1];rfl
  refine (ExpandPoly9_any u ts (sqP xs) L W hr hok he h2 h3 h4 h5).mono ?_
  rintro e w' ⟨u',rfl,hr',hb⟩
  refine ⟨u',by rw [e1];rfl,fun L' hL=> ?_,?_,hb⟩
  ·rw [e1] at hL
   cases hL
   exact hr'
  ·obtain ⟨p,c,e,_⟩:=hr'.shape
   exact ⟨_,_,_,e⟩
 ·have e1 : sqR xs=none:=by unfold sqR;rw [h1];rfl
  refine (ExpandPoly_no u ts (sqP xs) W hr hok he h2).mono ?_
  rintro e w' ⟨rfl,hb⟩
  exact ⟨_,by rw [e1];rfl,(fun L' hL=>by rw [e1] at hL;cases hL),⟨_,_,_,rfl⟩,hb⟩
theorem MulPerms5_any (v1 v2 : Value) (xs : List Int) (w : World) (i1 : Ints w v1 xs) (i2 : Ints w v2 xs) (hp : permOk xs=true) (h5 : xs.length≤5) :
 Calls Tryz.prog 14 #[v1,v2] w fun e w'=> ∃ u',e=.returned (.tuple #[u',.bool (sqR xs).isSome])∧(∀ L,sqR xs=some L→RdCl w' u' L)∧(∃ p n c,u'=.slice p n c)∧Below w.heap.size w w':=by
 have hS:=sq_is hp h5
 have HS:=Lib.hid hS
 have hco:=sq_co hS
 have H1:=Lib.hid (Schub5_any v1 xs w i1 hp h5)
 have H2:=Lib.hid (fun u (hu : Below w.heap.size w u)=>Schub5_any v2 xs u (i2.below hu) hp h5)
 have HM:=Lib.hid (fun (a b : Value) (t1 t2 : List Cls) (u : World) (r1 : RdCl u a t1) (r2 : RdCl u b t2) (o1 : TsOk t1) (o2 : TsOk t2) (e1 : ∀ g,Ev t1 g=Ev (symS9 xs) g) (e2 : ∀ g,Ev t2 g=Ev (symS9 xs) g) =>
  MulPolys9_any a b t1 t2 (symS9 xs) (symS9 xs) u r1 r2 o1 o2 e1 e2 hS.len hS.len hS.k7 hS.k7 hco)
 obtain ⟨q1,k1,rfl,_⟩:=i1
 obtain ⟨q2,k2,rfl,_⟩:=i2
 obtain ⟨bo,hbo⟩ : ∃ b,b=(sqR xs).isSome:=⟨_,rfl⟩
 have Hbo:=Lib.hid hbo
 rw [← hbo]
 clear hS hco hbo
 go_enter Tryz.func14,Tryz.ntmps14
 go_wp2_with fail
 refine H1.out.mono ?_
 rintro e w1 ⟨u1,rfl,t1,ho1,hk1,he1,hb1⟩
 have R1:=Lib.hid ho1.rd
 have K1:=Lib.hid hk1
 have E1:=Lib.hid he1
 have B1:=Lib.hid hb1
 obtain ⟨x1,y1,rfl,_,_⟩:=ho1.shape
 clear ho1 hk1 he1 hb1
 go_wp2_with fail
 refine (H2.out _ B1.out).mono ?_
 rintro e w2 ⟨u2,rfl,t2,ho2,hk2,he2,hb2⟩
 have R2:=Lib.hid ho2.rd
 have K2:=Lib.hid hk2
 have E2:=Lib.hid he2
 have R1':=Lib.hid (R1.out.below hb2)
 have B2:=Lib.hid (below_trans B1.out hb2)
 obtain ⟨x2,y2,rfl,_,_⟩:=ho2.shape
 clear ho2 hk2 he2 hb2
 go_wp2_with fail
 refine (HM.out _ _ t1 t2 w2 R1'.out R2.out K1.out K2.out E1.out E2.out).mono ?_
 rintro e w3 ⟨u3,ts,rfl,hr3,hok3,hev3,hb3⟩
 have HE:=Lib.hid (Expand_sq u3 ts xs w3 hr3 hok3 hev3 HS.out)
 rw [← Hbo.out] at HE
 have B3:=Lib.hid (below_trans B2.out hb3)
 obtain ⟨f3,⟨x3,y3,rfl,_⟩,_⟩:=hr3
 clear hok3 hev3 hb3
 go_wp2_with fail
 refine HE.out.mono ?_
 rintro e w4 ⟨u4,rfl,hr4,⟨p4,n4,c4,rfl⟩,hb4⟩
 have R4:=Lib.hid hr4
 have B4:=Lib.hid (below_trans B3.out hb4)
 clear hb4 hr4
 go_wp2_with fail
 go_ret2
 exact ⟨_,rfl,fun L hL=>(R4.out L hL).rd,⟨_,_,_,rfl⟩,B4.out⟩
theorem cls1_ok {xs : List Int} (h : SqIs xs) : clsOk [(trimL xs,1)]=true:=by
 have e : trimN (trimL xs) (trimL xs).length=(trimL xs).length:=by rw [← trimL_length,h.tr.2]
 unfold clsOk
 rw [Bool.and_eq_true]
 refine ⟨rfl,?_⟩
 rw [List.all_eq_true]
 intro k hk
 have hk:=List.mem_range.1 hk
 obtain rfl : k=0:=by simpa using hk
 unfold clAt
 show (permOk (trimL xs) && decide (trimN (trimL xs) (trimL xs).length=(trimL xs).length) && !decide ((1 : Int)=0) && !decide ((1 : Int) < -1000000) && !decide (1000000 < (1 : Int)) && (!decide (0 < 0) || _))=true
 rw [h.tr.1,decide_eq_true e]
 rfl
theorem ClassesPoly1_any (v : Value) (xs : List Int) (w : World) (h : RdCl w v [(trimL xs,1)]) (hp : permOk xs=true) (h5 : xs.length≤5) :
 Calls Tryz.prog 123 #[v] w fun e w'=> ∃ u,e=.returned (.tuple #[u,.bool true])∧RetTs w (symS9 xs) u w':=by
 have hS:=sq_is hp h5
 have HS:=Lib.hid hS
 have hcl:=cls1_ok hS
 have HCo:=Lib.hid (implClassesOk_any v _ w h)
 rw [hcl] at HCo
 have hmm:=@run_makeMap Tryz.prog
 obtain ⟨f,hs1,hf⟩:=h
 obtain ⟨p,cap,rfl,⟨hx1,hx⟩,hxc⟩:=hs1.two
 unfold maxLen at hx
 obtain ⟨b,rfl,hc⟩:=hxc (by show 0 < 1;omega)
 obtain ⟨a0,a1⟩:=hc 0 (by show 0 < 1;omega)
 have hI:=hf 0 (by show 0 < 1;omega)
 change w.cell? ⟨b,0,none⟩=some (f 0) at a0
 change w.cell? ⟨b,1,none⟩=some (.int .i64 1) at a1
 change Ints w (f 0) (trimL xs) at hI
 obtain ⟨p1,k1,e1,_,_⟩:=id hI
 rw [e1] at a0 hI
 have hlen : ([(trimL xs,(1 : Int))] : List Cls).length=1:=rfl
 rw [hlen] at hx1 HCo ⊢
 have hn1:=perm_len1 HS.out.tr.1
 have hn7 : (trimL xs).length≤7:=(of_decide_eq_true HS.out.tr.1).2.1
 have hsy : symS9 (trimL xs)=symS9 xs:=by unfold symS9;rw [hS.tr.2]
 have HSc:=Lib.hid (fun W (hb : Below w.heap.size w W)=>schub9_any (.slice p1 (trimL xs).length k1) (trimL xs) W (hI.below hb) hS.tr.1 (by rw [hS.tr.2];exact hn1) (by rw [hS.tr.2];exact hn7) (by rw [hS.tr.2];exact hS.low))
 have Hsy:=Lib.hid hsy
 obtain ⟨nt,hnt⟩ : ∃ nt,nt=(trimL xs).length:=⟨_,rfl⟩
 rw [← hnt] at a0 HSc
 clear hS hcl hf hs1 hxc hc hI e1 hlen hn1 hn7 hsy hnt
 go_enter Tryz.func123,Tryz.ntmps123
 go_wp2_with fail
 refine HCo.out.mono ?_
 rintro e w1 ⟨rfl,hb1⟩
 have Hb1:=Lib.hid hb1
 have c0:=cell_below hb1 a0
 have c1:=cell_below hb1 a1
 clear hb1 a0 a1
 go_wp2_with fail
 obtain ⟨w2,hw2⟩ : ∃ w2,w2=w1.alloc (.map #[] 0):=⟨_,rfl⟩
 have HP0:=Lib.hid (show PolV w2 (.map (some w1.heap.size)) 6 0 [] from hw2 ▸ ⟨w1.heap.size,.map [],rfl,World.ownsMap_made _ _ _ _,PolM.empty _⟩)
 have hb12 : Below w1.heap.size w1 w2:=by rw [hw2];exact below_alloc w1 _
 have Hb2:=Lib.hid (Hb1.out.trans (hb12.mono Hb1.out.size))
 have c0:=cell_below hb12 c0
 have c1:=cell_below hb12 c1
 rw [← hw2]
 clear hw2 hb12
 go_loopg [4,6,13] 1 (fun g s4 s6 s13 wr=> ∃ (k nf : Nat),k≤1∧g=1 - k∧s13=.int .i64 (k : Int)∧nf≤k * 16926659444736∧Hid (PolV wr s4 6 nf (if k=0 then [] else symS9 xs))∧Hid (Below w2.heap.size w2 wr))
 case atStart=>exact ⟨0,0,Nat.zero_le _,rfl,rfl,Nat.zero_le _,HP0.out,Below.refl _ _⟩
 case round =>
  obtain ⟨k,nf,hk,rfl,rfl,hnf,hP,hB⟩:=hrel
  obtain ⟨wo,rfl⟩ : ∃ x : World,x=wr:=⟨_,rfl⟩
  obtain ⟨bs,Ds,rfl,_,_⟩:=id hP.out
  have HP:=Lib.hid hP.out
  have HB:=Lib.hid hB.out
  clear hP hB
  have c0:=cell_below HB.out c0
  have c1:=cell_below HB.out c1
  rcases Nat.eq_zero_or_pos k with h0 | h0
  ·subst h0
   rw [if_pos rfl] at HP
   have HBb:=Lib.hid (Hb2.out.trans (HB.out.mono Hb2.out.size))
   have hb2s:=Hb2.out.size
   have hbs:=HB.out.size
   go_wp2_with fail
   have Hba:=Lib.hid (below_alloc wo (.cells #[.slice p1 nt k1,.int .i64 1] 42))
   have Zb:=Lib.hid (heap_alloc_top wo (.cells #[.slice p1 nt k1,.int .i64 1] 42))
   generalize hwb : wo.alloc (.cells #[.slice p1 nt k1,.int .i64 1] 42)=wb at *
   obtain ⟨d0,d1,df,dz⟩:=blk2 Zb.out
   clear hwb
   have hS0 : (wb.drew.cell? ⟨wo.heap.size,0,none⟩=some (.slice p1 nt k1)∧wb.drew.cell? ⟨wo.heap.size,1,none⟩=some (.int .i64 1))∧Below wb.heap.size wb wb.drew:=⟨⟨d0,d1⟩,(Below.refl _ _).drew⟩
   go_region_held3 (fun w'=>(w'.cell? ⟨wo.heap.size,0,none⟩=some (.slice p1 nt k1)∧w'.cell? ⟨wo.heap.size,1,none⟩=some (.int .i64 1))∧Below wb.heap.size wb w')
    (first | with_reducible assumption | ((with_reducible refine keepD (Nat.le_refl _) hb5 ?_);with_reducible assumption))
    (first
      | (go_at_call 64;refine (HSc.out _ (HBb.out.trans ((Hba.out.trans ((Below.refl _ _).drew.mono Hba.out.size)).mono HBb.out.size))).mono ?_;rintro e1 w3 ⟨u3,rfl,hp3,hb5⟩;have Hp3:=Lib.hid hp3;have Hb3:=Lib.hid (show Below wo.heap.size wo w3 from Hba.out.trans (((Below.refl _ _).drew.trans hb5).mono Hba.out.size));obtain ⟨b3,D3,rfl,_,_⟩:=hp3)
      | (go_at_call 69;refine (plus_any _ _ 1 6 nf 16926659444736 [] (schP9 (trimL xs)) w3 (HP.out.below Hb3.out) Hp3.out (by omega) (by omega)).mono ?_;rintro e1 w4 ⟨u4,rfl,hp4,hb5⟩;have Hp4:=Lib.hid hp4;have Hb4:=Lib.hid (Hb3.out.trans (hb5.mono Hb3.out.size));obtain ⟨b4,D4,rfl,_,_⟩:=hp4))
   have Hp5:=Lib.hid (Hp4.out.alt (Q:=symS9 xs) fun g=>Cg.of _ _ (by rw [Ev_append,Ev_scl,← symS9_eq,Hsy.out,show (fun e=>1 * g e)=g from funext fun e=>Int.one_mul _];exact Int.zero_add _))
   have Hb5:=Lib.hid (HB.out.trans (Hb4.out.mono hbs))
   go_wp2_with fail
   go_roundg (1 - (0+1))
   case measure=>omega
   case rel=>exact ⟨0+1,nf+16926659444736,by omega,rfl,by go_num,by omega,Hp5.out,Hb5.out⟩
  ·obtain rfl : k=1:=by omega
   rw [if_neg (by decide)] at HP
   have Hb5:=Lib.hid (Hb2.out.trans (HB.out.mono Hb2.out.size))
   go_wp2_with fail
   refine (closed_any _ 6 _ (symS9 xs) _ ((symS9 xs).map (·.1)) HP.out (by omega) (l1_co (fun _=>rfl) HS.out.l1) (fun e _ he=>mem_of_cf he) (by rw [List.length_map];have:=HS.out.len;omega)).mono ?_
   rintro e w3 ⟨u3,ts,rfl,ho,hok,hev,hb3⟩
   have hs:=Hb5.out.size
   have Hr:=Lib.hid (show RetTs w (symS9 xs) u3 w3 from ⟨ts,ho.mono hs (Nat.le_refl _),hok,hev,Hb5.out.trans (hb3.mono hs)⟩)
   obtain ⟨p3,k3,rfl,_,_⟩:=ho.shape
   clear ho hok hev hb3
   go_wp2_with fail
   go_ret2
   exact ⟨_,rfl,Hr.out⟩
theorem product_any (v : Value) (xs ys : List Int) (K N : Int) (w : World) (h : SesR w v xs [(trimL xs,1)] ys K N) (hp : permOk xs=true) (h5 : xs.length≤5) :
 Calls Tryz.prog 96 #[v] w fun e w'=> ∃ u',e=.returned (.tuple #[u',.bool (sqR xs).isSome])∧(∀ L,sqR xs=some L→OwnCl w' w.heap.size w'.heap.size u' L)∧(∃ p n c,u'=.slice p n c)∧Below w.heap.size w w':=by
 obtain ⟨pp,pk,cp,ck,sp,sk,rfl,i1,i2,i3⟩:=h.open
 have hS:=sq_is hp h5
 have HS:=Lib.hid hS
 have hco:=sq_co hS
 have H1:=Lib.hid (fun u (hu : Below w.heap.size w u)=>ClassesPoly1_any _ xs u (i2.below hu) hp h5)
 have H2:=Lib.hid (fun u (hu : Below w.heap.size w u)=>Schub5_any _ xs u (i1.below hu) hp h5)
 have HM:=Lib.hid (fun (a b : Value) (t1 t2 : List Cls) (u : World) (r1 : RdCl u a t1) (r2 : RdCl u b t2) (o1 : TsOk t1) (o2 : TsOk t2) (e1 : ∀ g,Ev t1 g=Ev (symS9 xs) g) (e2 : ∀ g,Ev t2 g=Ev (symS9 xs) g) =>
  MulPolys9_any a b t1 t2 (symS9 xs) (symS9 xs) u r1 r2 o1 o2 e1 e2 hS.len hS.len hS.k7 hS.k7 hco)
 obtain ⟨bo,hbo⟩ : ∃ b,b=(sqR xs).isSome:=⟨_,rfl⟩
 have Hbo:=Lib.hid hbo
 rw [← hbo]
 obtain ⟨n1,hn1⟩ : ∃ n1,n1=([(trimL xs,(1 : Int))] : List Cls).length:=⟨_,rfl⟩
 rw [← hn1] at H1 ⊢
 obtain ⟨W0,hW0⟩ : ∃ W0,W0=w.alloc (.cells #[.slice pp xs.length pk,.slice cp n1 ck,.slice sp ys.length sk,.int .i64 K,.int .i64 N] 61):=⟨_,rfl⟩
 have hb0 : Below w.heap.size w W0:=by rw [hW0];exact below_alloc w _
 have hz0:=heap_alloc_top w (.cells #[.slice pp xs.length pk,.slice cp n1 ck,.slice sp ys.length sk,.int .i64 K,.int .i64 N] 61)
 rw [← hW0] at hz0
 have Hz0:=Lib.hid hz0
 have Hb0:=Lib.hid hb0
 obtain ⟨c0,c1,c2,c3,c4,_,_⟩:=blk5s hz0
 have HW0:=Lib.hid hW0
 clear hS hco hbo h i1 i2 i3 hn1 hW0 hb0 hz0
 go_enter Tryz.func96,Tryz.ntmps96
 go_wp2_with fail
 rw [← HW0.out]
 refine (H1.out _ Hb0.out).mono ?_
 rintro e w1 ⟨u1,rfl,t1,ho1,hk1,he1,hb1⟩
 have R1:=Lib.hid ho1.rd
 have K1:=Lib.hid hk1
 have E1:=Lib.hid he1
 have B1:=Lib.hid hb1
 obtain ⟨c0,c1,c2,c3,c4,_,_⟩:=blk5s (blk_later Hz0.out hb1)
 obtain ⟨x1,y1,rfl,_,_⟩:=ho1.shape
 clear ho1 hk1 he1 hb1
 go_wp2_with fail
 refine (H2.out _ (Hb0.out.trans (B1.out.mono Hb0.out.size))).mono ?_
 rintro e w2 ⟨u2,rfl,t2,ho2,hk2,he2,hb2⟩
 have R2:=Lib.hid ho2.rd
 have K2:=Lib.hid hk2
 have E2:=Lib.hid he2
 have R1':=Lib.hid (R1.out.below hb2)
 have B2:=Lib.hid (below_trans B1.out hb2)
 obtain ⟨x2,y2,rfl,_,_⟩:=ho2.shape
 clear ho2 hk2 he2 hb2
 go_wp2_with fail
 refine (HM.out _ _ t1 t2 w2 R1'.out R2.out K1.out K2.out E1.out E2.out).mono ?_
 rintro e w3 ⟨u3,ts,rfl,hr3,hok3,hev3,hb3⟩
 have HE:=Lib.hid (Expand_sq u3 ts xs w3 hr3 hok3 hev3 HS.out)
 rw [← Hbo.out] at HE
 have B3:=Lib.hid (below_trans B2.out hb3)
 obtain ⟨f3,⟨x3,y3,rfl,_⟩,_⟩:=hr3
 clear hok3 hev3 hb3
 go_wp2_with fail
 refine HE.out.mono ?_
 rintro e w4 ⟨u4,rfl,hr4,⟨p4,n4,c4',rfl⟩,hb4⟩
 have R4:=Lib.hid (fun L (hL : sqR xs=some L)=>(hr4 L hL).mono (Nat.le_trans Hb0.out.size B3.out.size) (Nat.le_refl _))
 have B4:=Lib.hid (Hb0.out.trans ((below_trans B3.out hb4).mono Hb0.out.size))
 clear hb4 hr4
 go_wp2_with fail
 go_ret2
 exact ⟨_,rfl,R4.out,⟨_,_,_,rfl⟩,B4.out⟩
end
section
open Go.RowKit
def tmR (xs : List Int) : ByteArray:=match sqR xs with
 | none=>⟨#[110,111]⟩
 | some L=>bytA (fmtCls L)
def kpR (xs : List Int) : List Cls:=(sqR xs).getD [(trimL xs,1)]
theorem sqR_ok {xs : List Int} (h : SqIs xs) {L : List Cls} (hL : sqR xs=some L) : clsOk L=true ∧ ∀ k,k < L.length→0≤(L.getD k clD).2:=by
 rcases h.how with ⟨L',h1,h2,h3,h4,h5,h6⟩ | ⟨h1,h2⟩
 ·have e1 : sqR xs=some (srtC L'):=by unfold sqR;rw [h1];rfl
  obtain rfl : srtC L'=L:=Option.some.inj (e1.symm.trans hL)
  refine ⟨h3,fun k hk=> ?_⟩
  have:=h6 _ (List.getElem_mem hk)
  rw [List.getD_eq_getElem?_getD,List.getElem?_eq_getElem hk]
  exact this
 ·exfalso
  unfold sqR at hL
  rw [h1] at hL
  cases hL
theorem kpR_ok {xs : List Int} (h : SqIs xs) : clsOk (kpR xs)=true ∧ ∀ k,k < (kpR xs).length→0≤((kpR xs).getD k clD).2:=by
 unfold kpR
 cases e : sqR xs with
 | none =>
   refine ⟨cls1_ok h,fun k hk=> ?_⟩
   obtain rfl : k=0:=by simp at hk;exact hk
   exact (show (0 : Int)≤1 by decide)
 | some L=>exact sqR_ok h e
theorem oneWord_times_no (v : Value) (xs ys : List Int) (K N : Int) (w : World) (h : SesT w v xs [(trimL xs,1)] ys K N) (hp : permOk xs=true) (h5 : xs.length≤5) (hsq : sqR xs=none) :
 Calls Tryz.prog 58 #[v,.string ⟨#[116,105,109,101,115]⟩] w fun e w'=> ∃ u,e=.returned (.tuple #[u,.string ⟨#[110,111]⟩])∧SesT w' u xs [(trimL xs,1)] ys K N∧Below w.heap.size w w':=by
 obtain ⟨pp,pk,cp,ck,sp,sk,rfl,i1,i2,i3⟩:=h.open
 have HS:=Lib.hid h
 have I1:=Lib.hid i1
 have I3:=Lib.hid i3
 have HQ:=Lib.hid (sq_is hp h5)
 have H1:=Lib.hid (fun u (hu : Below w.heap.size w u)=>product_any _ xs ys K N u (h.below hu).ses hp h5)
 rw [hsq] at H1
 obtain ⟨n1,hn1⟩ : ∃ n1,n1=([(trimL xs,(1 : Int))] : List Cls).length:=⟨_,rfl⟩
 rw [← hn1] at H1 HS ⊢
 obtain ⟨z1,z2⟩:=box5_two w 61 (.slice pp xs.length pk) (.slice cp n1 ck) (.slice sp ys.length sk) (.int .i64 K) (.int .i64 N) (.slice none 0 0) (.slice none 0 0) (.slice none 0 0) (.int .i64 0) (.int .i64 0)
 have Z1:=Lib.hid z1
 have Z2:=Lib.hid z2
 have HB0:=Lib.hid (below_alloc2 w (.cells #[.slice pp xs.length pk,.slice cp n1 ck,.slice sp ys.length sk,.int .i64 K,.int .i64 N] 61) (.cells #[.slice none 0 0,.slice none 0 0,.slice none 0 0,.int .i64 0,.int .i64 0] 61))
 have hs0 : ((w.alloc (.cells #[.slice pp xs.length pk,.slice cp n1 ck,.slice sp ys.length sk,.int .i64 K,.int .i64 N] 61)).alloc (.cells #[.slice none 0 0,.slice none 0 0,.slice none 0 0,.int .i64 0,.int .i64 0] 61)).heap.size=w.heap.size+1+1:=by simp
 have Hs0:=Lib.hid hs0
 obtain ⟨W2,hW2⟩ : ∃ W2,W2=((w.alloc (.cells #[.slice pp xs.length pk,.slice cp n1 ck,.slice sp ys.length sk,.int .i64 K,.int .i64 N] 61)).alloc (.cells #[.slice none 0 0,.slice none 0 0,.slice none 0 0,.int .i64 0,.int .i64 0] 61)):=⟨_,rfl⟩
 rw [← hW2] at Z1 Z2 HB0 Hs0
 have HW2:=Lib.hid hW2
 clear z1 z2 h i1 i2 i3 hs0 hW2 hn1
 obtain ⟨c0,c1,c2,c3,c4,cf,hz⟩:=blk5s Z1.out
 go_enter Tryz.func58,Tryz.ntmps58
 go_wp2_with fail
 rw [← HW2.out]
 go_wp2_with fail
 refine (H1.out _ HB0.out).mono ?_
 rintro e w3 ⟨u1,rfl,hr1,⟨p1,n2,k1,rfl⟩,hb3⟩
 have HR1:=Lib.hid hr1
 have HB3:=Lib.hid (HB0.out.trans (hb3.mono HB0.out.size))
 have Z1':=Lib.hid (blk_later Z1.out hb3)
 have Z2':=Lib.hid (blk_later Z2.out hb3)
 clear hr1 hb3 c0 c1 c2 c3 c4 cf hz
 obtain ⟨c0,c1,c2,c3,c4,cf,hz⟩:=blk5s Z1'.out
 obtain ⟨e0,e1,e2,e3,e4,ef,ez⟩:=blk5s Z2'.out
 go_wp2_with fail
 have hz5:=set5_all Z2'.out (.slice pp xs.length pk) (.slice cp n1 ck) (.slice sp ys.length sk) (.int .i64 K) (.int .i64 N)
 have HB5:=Lib.hid (below_set5 HB3.out (show w.heap.size≤w.heap.size+1 by omega) (.slice pp xs.length pk) (.slice cp n1 ck) (.slice sp ys.length sk) (.int .i64 K) (.int .i64 N))
 obtain ⟨f0,f1,f2,f3,f4,ff,fz⟩:=blk5s hz5
 refine bodyPost_ret (v:=.tuple #[.agg #[.slice pp xs.length pk,.slice cp n1 ck,.slice sp ys.length sk,.int .i64 K,.int .i64 N],.string ⟨#[110,111]⟩]) (by simp [results,Tryz.results58,go_sem,f0,f1,f2,f3,f4,fz]) rfl ⟨_,rfl,HS.out.below HB5.out,HB5.out⟩
theorem oneWord_times_yes (v : Value) (xs ys : List Int) (K N : Int) (w : World) (h : SesT w v xs [(trimL xs,1)] ys K N) (hp : permOk xs=true) (h5 : xs.length≤5) (L : List Cls) (hsq : sqR xs=some L) :
 Calls Tryz.prog 58 #[v,.string ⟨#[116,105,109,101,115]⟩] w fun e w'=> ∃ u,e=.returned (.tuple #[u,.string (bytA (fmtCls L))])∧SesT w' u xs L ys K N∧Below w.heap.size w w':=by
 obtain ⟨pp,pk,cp,ck,sp,sk,rfl,i1,i2,i3⟩:=h.open
 have HS:=Lib.hid h
 have I1:=Lib.hid i1
 have I3:=Lib.hid i3
 have HQ:=Lib.hid (sq_is hp h5)
 have H1:=Lib.hid (fun u (hu : Below w.heap.size w u)=>product_any _ xs ys K N u (h.below hu).ses hp h5)
 rw [hsq] at H1
 obtain ⟨n1,hn1⟩ : ∃ n1,n1=([(trimL xs,(1 : Int))] : List Cls).length:=⟨_,rfl⟩
 rw [← hn1] at H1 HS ⊢
 obtain ⟨z1,z2⟩:=box5_two w 61 (.slice pp xs.length pk) (.slice cp n1 ck) (.slice sp ys.length sk) (.int .i64 K) (.int .i64 N) (.slice none 0 0) (.slice none 0 0) (.slice none 0 0) (.int .i64 0) (.int .i64 0)
 have Z1:=Lib.hid z1
 have Z2:=Lib.hid z2
 have HB0:=Lib.hid (below_alloc2 w (.cells #[.slice pp xs.length pk,.slice cp n1 ck,.slice sp ys.length sk,.int .i64 K,.int .i64 N] 61) (.cells #[.slice none 0 0,.slice none 0 0,.slice none 0 0,.int .i64 0,.int .i64 0] 61))
 have hs0 : ((w.alloc (.cells #[.slice pp xs.length pk,.slice cp n1 ck,.slice sp ys.length sk,.int .i64 K,.int .i64 N] 61)).alloc (.cells #[.slice none 0 0,.slice none 0 0,.slice none 0 0,.int .i64 0,.int .i64 0] 61)).heap.size=w.heap.size+1+1:=by simp
 have Hs0:=Lib.hid hs0
 obtain ⟨W2,hW2⟩ : ∃ W2,W2=((w.alloc (.cells #[.slice pp xs.length pk,.slice cp n1 ck,.slice sp ys.length sk,.int .i64 K,.int .i64 N] 61)).alloc (.cells #[.slice none 0 0,.slice none 0 0,.slice none 0 0,.int .i64 0,.int .i64 0] 61)):=⟨_,rfl⟩
 rw [← hW2] at Z1 Z2 HB0 Hs0
 have HW2:=Lib.hid hW2
 clear z1 z2 h i1 i2 i3 hs0 hW2 hn1
 obtain ⟨c0,c1,c2,c3,c4,cf,hz⟩:=blk5s Z1.out
 go_enter Tryz.func58,Tryz.ntmps58
 go_wp2_with fail
 rw [← HW2.out]
 go_wp2_with fail
 refine (H1.out _ HB0.out).mono ?_
 rintro e w3 ⟨u1,rfl,hr1,⟨p1,n2,k1,rfl⟩,hb3⟩
 have HR1:=Lib.hid hr1
 have HB3:=Lib.hid (HB0.out.trans (hb3.mono HB0.out.size))
 have Z1':=Lib.hid (blk_later Z1.out hb3)
 have Z2':=Lib.hid (blk_later Z2.out hb3)
 clear hr1 hb3 c0 c1 c2 c3 c4 cf hz
 obtain ⟨c0,c1,c2,c3,c4,cf,hz⟩:=blk5s Z1'.out
 obtain ⟨e0,e1,e2,e3,e4,ef,ez⟩:=blk5s Z2'.out
 have HR:=Lib.hid (HR1.out L rfl)
 obtain ⟨q1,q2⟩:=sqR_ok HQ.out hsq
 have hlt2 : w.heap.size+1 < W2.heap.size:=by have:=Hs0.out;omega
 have Hlt2:=Lib.hid hlt2
 clear HR1
 go_wp2_with fail
 obtain ⟨W5,hW5⟩ : ∃ W5,W5=w3.setCell ⟨w.heap.size,1,none⟩ (.slice p1 n2 k1):=⟨_,rfl⟩
 have Z1n:=Lib.hid (show W5.heap[w.heap.size]?=some (.cells #[.slice pp xs.length pk,.slice p1 n2 k1,.slice sp ys.length sk,.int .i64 K,.int .i64 N] 61 (0,0)) by rw [hW5];exact (heap_setCell_at Z1'.out 1 _).trans rfl)
 have Z2n:=Lib.hid (show W5.heap[w.heap.size+1]?=some (.cells #[.slice none 0 0,.slice none 0 0,.slice none 0 0,.int .i64 0,.int .i64 0] 61 (0,0)) by rw [hW5];exact (Below.heap_setCell _ _ _ _ (show w.heap.size+1 ≠ w.heap.size by omega)).trans Z2'.out)
 have HB5:=Lib.hid (show Below w.heap.size w W5 by rw [hW5];exact HB3.out.setCell (Nat.le_refl _) _)
 have HR5:=Lib.hid (show OwnCl W5 W2.heap.size w3.heap.size (.slice p1 n2 k1) L by rw [hW5];exact OwnCl.setCell HR.out (.inl (by have:=Hlt2.out;show w.heap.size < _;omega)) _)
 have HF:=Lib.hid (fun u (hu : Below W5.heap.size W5 u)=>FormatClasses_any _ L u (HR5.out.rd.below hu) q1 q2)
 rw [← hW5]
 clear hW5 c0 c1 c2 c3 c4 cf hz e0 e1 e2 e3 e4 ef ez hlt2 q1 q2
 obtain ⟨c0,c1,c2,c3,c4,cf,hz⟩:=blk5s Z1n.out
 have hS0 : ((W5.drew.cell? ⟨w.heap.size,0,none⟩=some (.slice pp xs.length pk)∧W5.drew.cell? ⟨w.heap.size,1,none⟩=some (.slice p1 n2 k1)∧W5.drew.cell? ⟨w.heap.size,2,none⟩=some (.slice sp ys.length sk)∧W5.drew.cell? ⟨w.heap.size,3,none⟩=some (.int .i64 K)∧W5.drew.cell? ⟨w.heap.size,4,none⟩=some (.int .i64 N)) ∧ ∃ y0 y1 y2 y3 y4,W5.drew.heap[w.heap.size+1]?=some (.cells #[y0,y1,y2,y3,y4] 61 (0,0)))∧Below w.heap.size w W5.drew:=⟨⟨⟨c0,c1,c2,c3,c4⟩,_,_,_,_,_,Z2n.out⟩,HB5.out.drew⟩
 go_region_held3 (fun w'=>((w'.cell? ⟨w.heap.size,0,none⟩=some (.slice pp xs.length pk)∧w'.cell? ⟨w.heap.size,1,none⟩=some (.slice p1 n2 k1)∧w'.cell? ⟨w.heap.size,2,none⟩=some (.slice sp ys.length sk)∧w'.cell? ⟨w.heap.size,3,none⟩=some (.int .i64 K)∧w'.cell? ⟨w.heap.size,4,none⟩=some (.int .i64 N)) ∧ ∃ y0 y1 y2 y3 y4,w'.heap[w.heap.size+1]?=some (.cells #[y0,y1,y2,y3,y4] 61 (0,0)))∧Below w.heap.size w w')
  (first | with_reducible assumption | (with_reducible exact keepT hb1 (by assumption)) | exact keepT_set (by omega) (by omega) _ _ _ _ _ rfl (by assumption))
  (first
    | (go_at_call 16;refine Calls.mono (HF.out _ ((Below.refl _ _).drew)) ?_;rintro e1 w6 ⟨rfl,hb1⟩;obtain ⟨y0,y1,y2,y3,y4,hy⟩:=sT_blk (by with_reducible assumption);obtain ⟨d0,d1,d2,d3,d4,df,dz⟩:=blk5s (blk_later hy hb1)))
 have hds : W5.drew.heap.size=W5.heap.size:=rfl
 have hbz : Below w.heap.size w w6:=HB5.out.trans ((below_of_drew hb1).mono (by omega))
 have HR6:=Lib.hid (HR5.out.below (below_of_drew hb1))
 have Hz7:=Lib.hid (set5_all (blk_later Z2n.out (below_of_drew hb1)) (.slice pp xs.length pk) (.slice p1 n2 k1) (.slice sp ys.length sk) (.int .i64 K) (.int .i64 N))
 have HB7:=Lib.hid (below_set5 hbz (show w.heap.size≤w.heap.size+1 by omega) (.slice pp xs.length pk) (.slice p1 n2 k1) (.slice sp ys.length sk) (.int .i64 K) (.int .i64 N))
 have HR7:=Lib.hid (OwnCl.setCell (OwnCl.setCell (OwnCl.setCell (OwnCl.setCell (OwnCl.setCell HR6.out (a:=⟨w.heap.size+1,0,none⟩) (.inl Hlt2.out) (.slice pp xs.length pk)) (a:=⟨w.heap.size+1,1,none⟩) (.inl Hlt2.out) (.slice p1 n2 k1)) (a:=⟨w.heap.size+1,2,none⟩) (.inl Hlt2.out) (.slice sp ys.length sk)) (a:=⟨w.heap.size+1,3,none⟩) (.inl Hlt2.out) (.int .i64 K)) (a:=⟨w.heap.size+1,4,none⟩) (.inl Hlt2.out) (.int .i64 N))
 clear hy d0 d1 d2 d3 d4 df
 obtain ⟨f0,f1,f2,f3,f4,ff,fz⟩:=blk5s Hz7.out
 go_wp2_with fail
 refine bodyPost_ret (v:=.tuple #[.agg #[.slice pp xs.length pk,.slice p1 n2 k1,.slice sp ys.length sk,.int .i64 K,.int .i64 N],.string (bytA (fmtCls L))]) (by simp [results,Tryz.results58,go_sem,f0,f1,f2,f3,f4,fz]) rfl ⟨_,rfl,⟨_,_,_,rfl,I1.out.below HB7.out,RdClT.of_own HR7.out,I3.out.below HB7.out⟩,HB7.out⟩
theorem oneWord_times (v : Value) (xs ys : List Int) (K N : Int) (w : World) (h : SesT w v xs [(trimL xs,1)] ys K N) (hp : permOk xs=true) (h5 : xs.length≤5) :
 Calls Tryz.prog 58 #[v,.string ⟨#[116,105,109,101,115]⟩] w fun e w'=> ∃ u,e=.returned (.tuple #[u,.string (tmR xs)])∧SesT w' u xs (kpR xs) ys K N∧Below w.heap.size w w':=by
 cases hsq : sqR xs with
 | none =>
   rw [show tmR xs=⟨#[110,111]⟩ by unfold tmR;rw [hsq],show kpR xs=[(trimL xs,1)] by unfold kpR;rw [hsq];rfl]
   exact oneWord_times_no v xs ys K N w h hp h5 hsq
 | some L =>
   rw [show tmR xs=bytA (fmtCls L) by unfold tmR;rw [hsq],show kpR xs=L by unfold kpR;rw [hsq];rfl]
   exact oneWord_times_yes v xs ys K N w h hp h5 L hsq
end
section
open Go.RowKit Go.Sort
def ptAt (cs : List Cls) (k : Nat) : Bool:=shOk (cs.getD k clD).1 && !decide ((cs.getD k clD).2=0) && (decide (k=0) || ltB (cs.getD (k - 1) clD).1 (cs.getD k clD).1)
def ptOk (cs : List Cls) : Bool:=decide (cs.length≤1000) && (List.range cs.length).all (ptAt cs)
theorem ptOk_at {cs : List Cls} (h : ptOk cs=true) : cs.length≤1000 ∧ ∀ k,k < cs.length→ptAt cs k=true:=by
 unfold ptOk at h
 rw [Bool.and_eq_true,decide_eq_true_eq,List.all_eq_true] at h
 exact ⟨h.1,fun k hk=>h.2 k (List.mem_range.2 hk)⟩
theorem PartsOk_yes (v : Value) (cs : List Cls) (w : World) (h : RdCl w v cs) (hok : ptOk cs=true) :
 Calls Tryz.prog 42 #[v] w fun e w'=>e=.returned (.bool true)∧Below w.heap.size w w':=by
 obtain ⟨hlen,hat⟩:=ptOk_at hok
 have Hat:=Lib.hid hat
 obtain ⟨f,hs1,hf⟩:=h
 obtain ⟨p,cap,rfl,⟨hx1,hx⟩,hxc⟩:=hs1.two
 unfold maxLen at hx
 have Hf:=Lib.hid hf
 have Hxc:=Lib.hid hxc
 clear hf hs1 hxc hok hat
 have mixed:=Tryz.sortC.mixed
 go_enter Tryz.func42,Tryz.ntmps42
 go_wp2_with fail
 go_loopg [3,4,7] cs.length (fun g s3 s4 s7 wr=> ∃ k : Nat,k≤cs.length∧g=cs.length - k∧s7=.int .i64 (k : Int)∧Hid (Below w.heap.size w wr))
 case atStart=>exact ⟨0,Nat.zero_le _,rfl,rfl,Below.refl _ _⟩
 case round =>
  obtain ⟨k,hk,rfl,rfl,hq⟩:=hrel
  obtain ⟨wo,rfl⟩ : ∃ x : World,x=wr:=⟨_,rfl⟩
  by_cases hlt : k < cs.length
  ·obtain ⟨b,rfl,hc⟩:=Hxc.out (by omega)
   obtain ⟨a0,a1⟩:=hc k hlt
   have c0:=cell_below hq.out a0
   have c1:=cell_below hq.out a1
   have hI:=(Hf.out k hlt).below hq.out
   have hA:=Hat.out k hlt
   unfold ptAt at hA
   rw [Bool.and_eq_true,Bool.and_eq_true,Bool.not_eq_true',decide_eq_false_iff_not] at hA
   obtain ⟨⟨hA1,hA2⟩,hA3⟩:=hA
   obtain ⟨X,hX⟩ : ∃ X,X=cs.getD k clD:=⟨_,rfl⟩
   rw [← hX] at c1 hI hA1 hA2 hA3
   obtain ⟨xs,c⟩:=X
   dsimp only at c1 hI hA1 hA2 hA3
   obtain ⟨p1,k1,e1,_,_⟩:=id hI
   rw [e1] at c0 hI
   have z0:=heap_alloc_top wo (.cells #[.slice p1 xs.length k1,.int .i64 c] 78)
   obtain ⟨W,hW⟩ : ∃ W,W=wo.alloc (.cells #[.slice p1 xs.length k1,.int .i64 c] 78):=⟨_,rfl⟩
   rw [← hW] at z0
   have hoW : Below wo.heap.size wo W:=by rw [hW];exact below_alloc _ _
   have hbW : Below w.heap.size w W:=hq.out.trans (hoW.mono hq.out.size)
   have gb : ∀ n os,Below W.heap.size W (grow (atd W n) os):=fun n os=>⟨rfl,rfl,rfl,by rw [size_grow];exact Nat.le_add_right _ _,fun k hk=>heap_grow_old _ _ (by exact hk)⟩
   have f1 : ∀ n os,(grow (atd W n) os).cell? ⟨wo.heap.size,0,none⟩=some (.slice p1 xs.length k1):=fun n os=>cell_below (gb n os) (cell_of_blk z0 (j:=0) rfl)
   have f2 : ∀ n os,(grow (atd W n) os).cell? ⟨wo.heap.size,1,none⟩=some (.int .i64 c):=fun n os=>cell_below (gb n os) (cell_of_blk z0 (j:=1) rfl)
   have hIx : ∀ n os,Ints (grow (atd W n) os) (.slice p1 xs.length k1) xs:=fun n os=>(hI.below hoW).below (gb n os)
   have q1 : ∀ n os,Calls Tryz.prog 72 #[.slice p1 xs.length k1] (grow (atd W n) os) fun e w'=>e=.returned (.bool true) ∧ ∃ q os',w'=grow (atd (grow (atd W n) os) q) os':=fun n os =>
    (implIsShape_any _ xs _ (hIx n os)).mono fun e w' ⟨he,hw⟩=>⟨by rw [he,hA1],below_grow (hw.below _)⟩
   have Hgb:=Lib.hid (fun n os=>hbW.trans ((gb n os).mono hbW.size))
   have HW:=Lib.hid hW
   have hkz : (k : Int) < (cs.length : Int):=by omega
   have hc0 : (c == 0)=false:=by simp [hA2]
   rcases Nat.eq_zero_or_pos k with h0 | h0
   ·subst h0
    clear hc z0 hW hbW gb hX hA1 hA2 hA3 e1 hI hIx hoW
    go_wp2_with fail
    rw [← HW.out]
    refine wp_region_quiet_z (by assumption) (by kernel_rfl) ?_
    repeat (go_big_quiet_step (first | (with_reducible refine grown_z (q1 _ _))))
    refine wpQuiet_nil ?_
    intro _ hw'
    obtain ⟨⟨nq,osq⟩,hw''⟩:=hw'
    subst hw''
    go_wp2_with fail
    go_roundg (cs.length - (0+1))
    case measure=>omega
    case rel=>exact ⟨0+1,by omega,rfl,by go_num,Hgb.out _ _⟩
   ·obtain ⟨j,hj⟩ : ∃ j,j+1=k:=⟨k - 1,by omega⟩
    obtain ⟨d1,_⟩:=hc j (by omega)
    have d1:=cell_below hbW d1
    have hJ:=(Hf.out j (by omega)).below hbW
    have hkj : k - 1=j:=by omega
    have hk0 : decide (k=0)=false:=decide_eq_false (by omega)
    rw [hkj,hk0,Bool.false_or] at hA3
    obtain ⟨ys,hys⟩ : ∃ ys,ys=(cs.getD j clD).1:=⟨_,rfl⟩
    rw [← hys] at hJ hA3
    obtain ⟨p0,k0,ee,_,_⟩:=id hJ
    rw [ee] at d1 hJ
    have f3 : ∀ n os,(grow (atd W n) os).cell? ⟨b,j * 2,none⟩=some (.slice p0 ys.length k0):=fun n os=>cell_below (gb n os) d1
    have q2 : ∀ n os,Calls Tryz.prog 71 #[.slice p0 ys.length k0,.slice p1 xs.length k1] (grow (atd W n) os) fun e w'=>e=.returned (.int .i64 (cmpB ys xs)) ∧ ∃ q os',w'=grow (atd (grow (atd W n) os) q) os':=fun n os =>
     (compare_any _ _ ys xs _ (hJ.below (gb n os)) (hIx n os)).mono fun e w' ⟨he,hw⟩=>⟨he,below_grow (hw ▸ Below.refl _ _)⟩
    have hcl:=cmpB_lt ys xs
    obtain ⟨r,hr⟩ : ∃ r,r=cmpB ys xs:=⟨_,rfl⟩
    rw [← hr] at q2 hcl
    rw [hA3] at hcl
    have hr0 : ¬ 0≤r:=by simpa using hcl
    have Hr0:=Lib.hid (eq_false hr0)
    have hcast : (k : Int) - 1=(j : Int):=by omega
    have hjz : (j : Int) < (cs.length : Int):=by omega
    have hk0z : (0 : Int) < (k : Int):=by omega
    clear hc z0 hW hbW gb hX hA1 hA2 hA3 e1 hI hIx hoW d1 hys ee hJ hr hcl hr0 hk0 hkj
    go_wp2_with fail
    rw [← HW.out]
    have hr0:=Hr0.out
    refine wp_region_quiet_z (by assumption) (by kernel_rfl) ?_
    repeat (go_big_quiet_step (first | (with_reducible refine grown_z (q1 _ _)) | (with_reducible refine grown_z (q2 _ _))))
    refine wpQuiet_nil ?_
    intro _ hw'
    obtain ⟨⟨nq,osq⟩,hw''⟩:=hw'
    subst hw''
    go_wp2_with fail
    go_roundg (cs.length - (k+1))
    case measure=>omega
    case rel=>exact ⟨k+1,by omega,rfl,by go_num,Hgb.out _ _⟩
  ·obtain rfl : k=cs.length:=by omega
   have Hq:=Lib.hid hq.out
   clear hq
   go_wp2_with fail
   go_ret
   exact ⟨rfl,Hq.out⟩
end
section
open Go.RowKit
def fmtPt (c : Cls) : List UInt8:=fmtI c.2 ++ 58 :: fmtIs c.1
def fmtPts (cs : List Cls) : List UInt8:=if cs.length=0 then [48] else Lib.join (cs.map fmtPt) [44,32]
theorem shOk_all {xs : List Int} (h : shOk xs=true) : xs.length≤16 ∧ ∀ x ∈ xs,0≤x∧x < 1000000000000:=by
 unfold shOk at h
 rw [decide_eq_true_eq] at h
 refine ⟨h.1,fun x hx=> ?_⟩
 obtain ⟨j,hj,rfl⟩:=List.getElem_of_mem hx
 have:=h.2 j hj
 unfold shAt at this
 simp only [List.getD_eq_getElem?_getD,List.getElem?_eq_getElem hj,Option.getD_some] at this
 omega
theorem fmtIs_len {xs : List Int} (h : xs.length≤16) : (fmtIs xs).length≤304:=by
 have:=join_len (m:=18) (xs.map fmtI) [32] fun x hx=>by
  obtain ⟨y,_,rfl⟩:=List.mem_map.1 hx
  exact fmtN_len _
 rw [List.length_map] at this
 unfold fmtIs
 simp at this
 omega
theorem bytA_pt (m : Nat) (l : List UInt8) : bytA (fmtN m ++ 58 :: l)=bytA (fmtN m) ++ bytA [58] ++ bytA l:=by
 rw [show fmtN m ++ 58 :: l=(fmtN m ++ [58]) ++ l by simp,bytA_append,bytA_append]
theorem FormatParts_any (v : Value) (cs : List Cls) (w : World) (h : RdCl w v cs) (hok : ptOk cs=true) (hp : ∀ k,k < cs.length→0≤(cs.getD k clD).2∧(cs.getD k clD).2 < 100000000000000000) :
 Calls Tryz.prog 18 #[v] w fun e w'=>e=.returned (.string (bytA (fmtPts cs)))∧Below w.heap.size w w':=by
 have HH:=Lib.hid h
 have hlen : cs.length≤1000:=(ptOk_at hok).1
 have Hok:=Lib.hid (fun k (hk : k < cs.length)=>show shOk (cs.getD k clD).1=true from by
  have:=(ptOk_at hok).2 k hk
  unfold ptAt at this
  rw [Bool.and_eq_true,Bool.and_eq_true] at this
  exact this.1.1)
 have HCo:=Lib.hid (PartsOk_yes v cs w h hok)
 have Hp:=Lib.hid hp
 obtain ⟨f,hs1,hf⟩:=h
 obtain ⟨p,cap,rfl,⟨hx1,hx⟩,hxc⟩:=hs1.two
 unfold maxLen at hx
 have Hf:=Lib.hid hf
 have Hxc:=Lib.hid hxc
 clear hf hs1 hxc hok hp
 go_enter Tryz.func18,Tryz.ntmps18
 go_wp2_with fail
 refine HCo.out.mono ?_
 rintro e w1 ⟨rfl,hb1⟩
 have Hb1:=Lib.hid hb1
 have hs1:=hb1.size
 have Ho:=Lib.hid (OwnSt.made0 w1)
 clear hb1
 go_wp2_with fail
 go_loopg [3,5,12] cs.length (fun g s3 s5 s12 wr=> ∃ k : Nat,k≤cs.length∧g=cs.length - k∧s12=.int .i64 k∧Hid (OwnSt wr w.heap.size wr.heap.size s3 ((cs.take k).map fmtPt))∧Hid (Below w.heap.size w wr)∧w.heap.size≤wr.heap.size)
 case atStart=>exact ⟨0,Nat.zero_le _,rfl,rfl,OwnF.mono Ho.out hs1 (by rw [size_alloc];exact Nat.le_refl _),Hb1.out.trans ((below_alloc w1 _).mono hs1),by rw [size_alloc];omega⟩
 case round =>
  obtain ⟨k,hk,rfl,rfl,hO,hB,hsz⟩:=hrel
  obtain ⟨wo,rfl⟩ : ∃ x : World,x=wr:=⟨_,rfl⟩
  have HO:=Lib.hid hO.out
  have HB:=Lib.hid hB.out
  clear hO hB
  obtain ⟨p3,k3,e3,_,_⟩:=HO.out.shape
  subst e3
  have htl : ((cs.take k).map fmtPt).length=k:=by rw [List.length_map,List.length_take];omega
  have HO1:=HO.out
  unfold OwnSt at HO1
  rw [htl] at HO1 ⊢
  have Htl:=Lib.hid htl
  by_cases hlt : k < cs.length
  ·obtain ⟨b,rfl,hc⟩:=Hxc.out (by omega)
   obtain ⟨a0,a1⟩:=hc k hlt
   have c0:=cell_below HB.out a0
   have c1:=cell_below HB.out a1
   have hI:=(Hf.out k hlt).below HB.out
   have h1:=Hok.out k hlt
   obtain ⟨h4,h5⟩:=Hp.out k hlt
   have hsn:=map_take_snocC fmtPt cs k hlt
   obtain ⟨X,hX⟩ : ∃ X,X=cs.getD k clD:=⟨_,rfl⟩
   rw [← hX] at c1 hI h1 h4 h5 hsn
   obtain ⟨xs,c⟩:=X
   dsimp only at c1 hI h1 h4 h5
   obtain ⟨m,rfl⟩:=Int.eq_ofNat_of_zero_le h4
   obtain ⟨hl7,hent⟩:=shOk_all h1
   have hfc : fmtPt (xs,(m : Int))=fmtN m ++ 58 :: fmtIs xs:=rfl
   rw [hfc] at hsn
   have Hsn:=Lib.hid hsn
   obtain ⟨s1,hs1'⟩ : ∃ s,s=bytA (fmtN m):=⟨_,rfl⟩
   obtain ⟨s2,hs2'⟩ : ∃ s,s=bytA (fmtIs xs):=⟨_,rfl⟩
   have hz1 : s1.size≤18:=by rw [hs1',bytA_size];exact fmtN_len m
   have hz2 : s2.size≤304:=by rw [hs2',bytA_size];exact fmtIs_len hl7
   have hz3 : (9223372036854775807 < s1.size+1)=False:=eq_false (by omega)
   have hz4 : (9223372036854775807 < s1.size+1+s2.size)=False:=eq_false (by omega)
   have Hcl:=Lib.hid (bytA_pt m (fmtIs xs))
   rw [← hs1',← hs2'] at Hcl
   have HFi:=Lib.hid (fun W=>FormatInt_any m W (by omega))
   rw [← hs1'] at HFi
   obtain ⟨p1,k1,e1,_,_⟩:=id hI
   rw [e1] at c0 hI
   have HFp:=Lib.hid (fun W (hb : Below wo.heap.size wo W)=>FormatInts_any (.slice p1 xs.length k1) xs W (hI.below hb) hent (by omega))
   rw [← hs2'] at HFp
   have HO2:=Lib.hid HO1
   clear hc a0 a1 hX e1 hsn HO1 h1 h4 hent hfc hs1' hs2' htl hI
   have hkz : (k : Int) < (cs.length : Int):=by omega
   go_wp2_with fail
   have Hba:=Lib.hid (below_alloc wo (.cells #[.slice p1 xs.length k1,.int .i64 (m : Int)] 78))
   have Zb:=Lib.hid (heap_alloc_top wo (.cells #[.slice p1 xs.length k1,.int .i64 (m : Int)] 78))
   generalize hwb : wo.alloc (.cells #[.slice p1 xs.length k1,.int .i64 (m : Int)] 78)=wb at *
   obtain ⟨d0,d1,df,dz⟩:=blk2 Zb.out
   have Hbb:=Lib.hid (HB.out.trans (Hba.out.mono HB.out.size))
   have hsb:=Hba.out.size
   have Hws:=Lib.hid (Nat.le_trans hsz hsb)
   clear hwb
   go_region_held3 (fun w'=>(w'.cell? ⟨wo.heap.size,0,none⟩=some (.slice p1 xs.length k1)∧w'.cell? ⟨wo.heap.size,1,none⟩=some (.int .i64 (m : Int)))∧Below w.heap.size wb w')
    (first | with_reducible assumption | exact ⟨⟨d0,d1⟩,(Below.refl _ _).drew⟩ | exact keepD Hws.out hb6 (by assumption) | exact keepD Hws.out (below_alloc _ _) (by assumption) | exact keepG Hws.out hg7 HO2.out.blocks (Nat.le_refl _) (Nat.le_refl _) (by assumption))
    (first
      | (go_at_call 9;refine (HFi.out _).mono ?_;rintro e1 w2 ⟨rfl,rfl⟩)
      | (go_at_call 10;refine (HFp.out _ (Hba.out.trans ((Below.refl _ _).drew.mono hsb))).mono ?_;rintro e1 w2 ⟨rfl,hb6⟩;have Hb6:=Lib.hid (show Below wb.heap.size wb w2 from (Below.refl _ _).drew.trans hb6))
      | (refine step_append_F rfl (.tmp 16) (.tmp 25) 30 rfl 9 (.string ByteArray.empty) 16 Tryz.underlying30 info_str rfl w.heap.size wo.heap.size _ k (strV ((cs.take k).map fmtPt)) rfl (HO2.out.below (Hba.out.trans ((Hb6.out.trans ((below_alloc w2 _).mono Hb6.out.size)).mono hsb))) (by rw [size_alloc];have:=Hb6.out.size;have:=Hws.out;omega) (by rw [size_alloc];have:=Hb6.out.size;omega) _ 1 _ rfl (rd_one _ _ _ rfl) (fun j _=>rfl) (by unfold maxLen;omega) (by omega) ?_;intro v' w' hv hg7;have Hv:=Lib.hid hv;clear hv))
   have HO3:=Lib.hid (show OwnSt w' w.heap.size w'.heap.size v' ((cs.take k).map fmtPt ++ [fmtN m ++ 58 :: fmtIs xs]) from OwnSt.snoc (by rw [Htl.out,Hcl.out];exact Hv.out))
   rw [Hsn.out] at HO3
   have HB3:=Lib.hid (Hbb.out.trans (held_below2 (by assumption)))
   have hs3:=(held_below2 (by assumption) : Below w.heap.size wb w').size
   clear hg7
   go_wp2_with fail
   go_roundg (cs.length - (k+1))
   case measure=>omega
   case rel=>exact ⟨k+1,by omega,rfl,by go_num,HO3.out,HB3.out,Nat.le_trans Hws.out hs3⟩
  ·obtain rfl : k=cs.length:=by omega
   have HJ:=Lib.hid (Join_any (.slice p3 cs.length k3) (cs.map fmtPt) [44,32] wo (by
    have:=HO1.rd
    rw [List.take_length] at this
    rw [List.length_map]
    exact this) (by rw [List.length_map];omega) (by
    have:=join_len (m:=323) (cs.map fmtPt) [44,32] fun x hx=>by
     obtain ⟨y,hy,rfl⟩:=List.mem_map.1 hx
     obtain ⟨j,hj,rfl⟩:=List.getElem_of_mem hy
     have h1:=shOk_all (Hok.out j hj)
     rw [List.getD_eq_getElem?_getD,List.getElem?_eq_getElem hj] at h1
     have h2:=fmtN_len (cs[j].2).toNat
     have h3:=fmtIs_len (xs:=cs[j].1) (by simpa using h1.1)
     unfold fmtPt fmtI
     rw [List.length_append,List.length_cons]
     omega
    rw [List.length_map] at this
    simp at this
    omega))
   have HF:=Lib.hid (show fmtPts cs=if cs.length=0 then [48] else Lib.join (cs.map fmtPt) [44,32] from rfl)
   clear HO1 htl
   rcases Nat.eq_zero_or_pos cs.length with h0 | h0
   ·have h0' : (cs.length : Int)=0:=by omega
    rw [if_pos h0] at HF
    go_wp2_with fail
    go_ret
    rw [HF.out]
    exact ⟨rfl,HB.out⟩
   ·have h0' : ¬ (cs.length : Int)=0:=by omega
    rw [if_neg (by omega)] at HF
    go_wp2_with fail
    refine HJ.out.mono ?_
    rintro e w2 ⟨rfl,hb2⟩
    have HB2:=Lib.hid (HB.out.trans (hb2.mono HB.out.size))
    clear hb2
    go_wp2_with fail
    go_ret
    rw [HF.out]
    exact ⟨rfl,HB2.out⟩
theorem ints2 (W : World) (x y : Int) : Ints (W.alloc (.cells #[.int .i64 x,.int .i64 y] 3)) (.slice (some ⟨W.heap.size,0,none⟩) 2 2) [x,y]:=by
 have z0 : (W.alloc (.cells #[.int .i64 x,.int .i64 y] 3)).heap[W.heap.size]?=some (.cells #[.int .i64 x,.int .i64 y] 3 (0,0)):=heap_alloc_top _ _
 refine ⟨_,_,rfl,⟨Nat.le_refl _,by unfold maxLen;decide⟩,fun _=>⟨W.heap.size,0,rfl,fun j hj=> ?_⟩⟩
 match j,hj with
 | 0,_=>exact cell_of_blk z0 (j:=0) rfl
 | 1,_=>exact cell_of_blk z0 (j:=1) rfl
theorem rd4s (W : World) (a b c d : List UInt8) : Rd (W.alloc (.cells #[.string (bytA a),.string (bytA b),.string (bytA c),.string (bytA d)] 9)) (.slice (some ⟨W.heap.size,0,none⟩) 4 4) 4 (strV [a,b,c,d]):=by
 have z0:=heap_alloc_top W (.cells #[.string (bytA a),.string (bytA b),.string (bytA c),.string (bytA d)] 9)
 refine ⟨_,_,rfl,⟨Nat.le_refl _,by unfold maxLen;decide⟩,fun _=>⟨W.heap.size,0,rfl,fun j hj=> ?_⟩⟩
 match j,hj with
 | 0,_=>exact cell_of_blk z0 (j:=0) rfl
 | 1,_=>exact cell_of_blk z0 (j:=1) rfl
 | 2,_=>exact cell_of_blk z0 (j:=2) rfl
 | 3,_=>exact cell_of_blk z0 (j:=3) rfl
theorem hold_b {c : Prop} {w W0 W : World} (hb : Below w.heap.size w W0) (h : c∧Below W0.heap.size W0 W) : Below w.heap.size w W:=hb.trans (h.2.mono hb.size)
theorem fmtCls_len {cs : List Cls} (hok : clsOk cs=true) : (fmtCls cs).length≤2801:=by
 have hlen : cs.length≤100:=by
  unfold clsOk at hok
  rw [Bool.and_eq_true,decide_eq_true_eq] at hok
  exact hok.1
 have:=join_len (m:=26) (cs.map fmtCl) [44,32] fun x hx=>by
  obtain ⟨y,hy,rfl⟩:=List.mem_map.1 hx
  obtain ⟨j,hj,rfl⟩:=List.getElem_of_mem hy
  have h1:=(clsOk_at hok hj).1
  have hl7 : (cs.getD j clD).1.length≤7:=(of_decide_eq_true h1).2.1
  rw [List.getD_eq_getElem?_getD,List.getElem?_eq_getElem hj] at hl7
  have h2:=fmtN_len (cs[j].2).toNat
  unfold fmtCl fmtI
  rw [List.length_append,List.length_cons]
  have h3 : (fmtL cs[j].1).length=cs[j].1.length:=by unfold fmtL;rw [List.length_map]
  simp at hl7
  omega
 rw [List.length_map] at this
 unfold fmtCls
 split
 ·simp
 ·simp at this;omega
def shwL (xs ys : List Int) (cs : List Cls) (k n : Nat) : List (List UInt8):=[fmtL xs,fmtCls cs,fmtIs ys,fmtIs [(k : Int),(n : Int)]]
theorem shw_len {xs ys : List Int} {cs : List Cls} {k n : Nat} (hp : permOk xs=true) (hc : clsOk cs=true) (hl : ys.length≤16) : (Lib.join (shwL xs ys cs k n) [47]).length≤100000000:=by
 have a1 : (fmtL xs).length≤7:=by unfold fmtL;rw [List.length_map];exact (of_decide_eq_true hp).2.1
 have a2:=fmtCls_len hc
 have a3:=fmtIs_len (xs:=ys) hl
 have a4:=fmtIs_len (xs:=[(k : Int),(n : Int)]) (show 2≤16 by decide)
 have:=join_len (m:=10000) (shwL xs ys cs k n) [47] fun x hx=>by
  unfold shwL at hx
  simp only [List.mem_cons,List.not_mem_nil,or_false] at hx
  rcases hx with rfl | rfl | rfl | rfl <;> omega
 exact Nat.le_trans this (show 4 * (10000+1)≤100000000 by decide)
theorem asked_show (v : Value) (xs ys : List Int) (cs : List Cls) (k n : Nat) (w : World) (h : SesR w v xs cs ys (k : Int) (n : Int)) (hp : permOk xs=true) (hc : clsOk cs=true) (hcp : ∀ k,k < cs.length→0≤(cs.getD k clD).2) (hy : ∀ x ∈ ys,0≤x∧x < 1000000000000) (hl : ys.length≤16) (hk : k≤1000) (hn : n≤1000) :
 Calls Tryz.prog 99 #[v,.string ⟨#[115,104,111,119]⟩] w fun e w'=>e=.returned (.string (bytA (Lib.join (shwL xs ys cs k n) [47])))∧Below w.heap.size w w':=by
 obtain ⟨pp,pk,cp,ck,sp,sk,rfl,i1,i2,i3⟩:=h.open
 have H1:=Lib.hid (fun u (hu : Below w.heap.size w u)=>show Calls Tryz.prog 7 #[.slice pp xs.length pk] u fun e w'=>e=.returned (.string (bytA (fmtL xs)))∧Below u.heap.size u w' from FormatPerm_any _ xs u (i1.below hu) hp)
 have H2:=Lib.hid (fun u (hu : Below w.heap.size w u)=>FormatClasses_any _ cs u (i2.below hu) hc hcp)
 have H3:=Lib.hid (fun u (hu : Below w.heap.size w u)=>FormatInts_any _ ys u (i3.below hu) hy (by omega))
 have H4:=Lib.hid (fun (u : World) (v : Value) (hv : Ints u v [(k : Int),(n : Int)])=>FormatInts_any v [(k : Int),(n : Int)] u hv (by intro x hx;simp only [List.mem_cons,List.not_mem_nil,or_false] at hx;omega) (by simp))
 have H5:=Lib.hid (fun (u : World) (v : Value) (hv : Rd u v 4 (strV [fmtL xs,fmtCls cs,fmtIs ys,fmtIs [(k : Int),(n : Int)]]))=>show Calls Tryz.prog 31 #[v,.string ⟨#[47]⟩] u fun e w'=>e=.returned (.string (bytA (Lib.join (shwL xs ys cs k n) [47])))∧Below u.heap.size u w' from Join_any v (shwL xs ys cs k n) [47] u hv (show 4≤100000 by decide) (shw_len hp hc hl))
 obtain ⟨res,hres⟩ : ∃ r,r=bytA (Lib.join (shwL xs ys cs k n) [47]):=⟨_,rfl⟩
 rw [← hres] at H5 ⊢
 obtain ⟨W0,hW0⟩ : ∃ W0,W0=w.alloc (.cells #[.slice pp xs.length pk,.slice cp cs.length ck,.slice sp ys.length sk,.int .i64 (k : Int),.int .i64 (n : Int)] 61):=⟨_,rfl⟩
 have hb0 : Below w.heap.size w W0:=by rw [hW0];exact below_alloc w _
 have hz0:=heap_alloc_top w (.cells #[.slice pp xs.length pk,.slice cp cs.length ck,.slice sp ys.length sk,.int .i64 (k : Int),.int .i64 (n : Int)] 61)
 rw [← hW0] at hz0
 have Hb0:=Lib.hid hb0
 obtain ⟨c0,c1,c2,c3,c4,_,_⟩:=blk5s hz0
 have HW0:=Lib.hid hW0
 clear h i1 i2 i3 hW0 hb0 hz0 hres
 go_enter Tryz.func99,Tryz.ntmps99
 go_wp2_with fail
 rw [← HW0.out]
 go_wp2_with fail
 have Hdr:=Lib.hid (fun (o : Obj)=>show Below (W0.alloc o).heap.size (W0.alloc o) (W0.alloc o).drew from (Below.refl _ _).drew)
 have hS0 : (W0.drew.cell? ⟨w.heap.size,0,none⟩=some (.slice pp xs.length pk)∧W0.drew.cell? ⟨w.heap.size,1,none⟩=some (.slice cp cs.length ck)∧W0.drew.cell? ⟨w.heap.size,2,none⟩=some (.slice sp ys.length sk)∧W0.drew.cell? ⟨w.heap.size,3,none⟩=some (.int .i64 (k : Int))∧W0.drew.cell? ⟨w.heap.size,4,none⟩=some (.int .i64 (n : Int)))∧Below W0.heap.size W0 W0.drew:=⟨⟨c0,c1,c2,c3,c4⟩,(Below.refl _ _).drew⟩
 go_region_held3 (fun w'=>(w'.cell? ⟨w.heap.size,0,none⟩=some (.slice pp xs.length pk)∧w'.cell? ⟨w.heap.size,1,none⟩=some (.slice cp cs.length ck)∧w'.cell? ⟨w.heap.size,2,none⟩=some (.slice sp ys.length sk)∧w'.cell? ⟨w.heap.size,3,none⟩=some (.int .i64 (k : Int))∧w'.cell? ⟨w.heap.size,4,none⟩=some (.int .i64 (n : Int)))∧Below W0.heap.size W0 w')
  (first | with_reducible assumption | exact keep5D (Nat.le_refl _) (by with_reducible assumption) (by with_reducible assumption) | exact keep5D (Nat.le_refl _) (below_alloc _ _) (by with_reducible assumption))
  (first
    | (go_at_call 7;(with_reducible refine Calls.mono (H1.out _ ?_) ?_);(exact hold_b Hb0.out (by with_reducible assumption));rintro e1 wA ⟨rfl,hbA⟩)
    | (go_at_call 16;(with_reducible refine Calls.mono (H2.out _ ?_) ?_);(exact hold_b Hb0.out (by with_reducible assumption));rintro e1 wB ⟨rfl,hbB⟩)
    | (go_at_call 10;(with_reducible refine Calls.mono (H3.out _ ?_) ?_);(exact hold_b Hb0.out (by with_reducible assumption));rintro e1 wC ⟨rfl,hbC⟩)
    | (go_at_call 10;(with_reducible refine Calls.mono (H4.out _ _ ?_) ?_);(first | (with_reducible exact ints2 _ _ _) | (with_reducible exact (ints2 _ _ _).below hbC) | (with_reducible exact (ints2 _ _ _).below (below_trans hbB hbC)) | (with_reducible exact (ints2 _ _ _).below (below_trans (below_trans (Hdr.out _) hbA) (below_trans hbB hbC))));rintro e1 wD ⟨rfl,hbD⟩)
    | (go_at_call 31;(with_reducible refine Calls.mono (H5.out _ _ ?_) ?_);(with_reducible exact rd4s _ _ _ _ _);rintro e1 wE ⟨rfl,hbE⟩))
 all_goals
  have hbw:=hold_b Hb0.out (by with_reducible assumption : _∧Below W0.heap.size W0 wE)
  go_wp2_with fail
  go_ret
  exact ⟨rfl,hbw⟩
def mxF (ms : List Mx) (f : Nat→Value) (i j : Nat) : Value :=
 match j with
 | 0=>.int .i64 (ms.getD i mxZero).P
 | 1=>.int .i64 (ms.getD i mxZero).R
 | 2=>.int .i64 (ms.getD i mxZero).C
 | _=>f i
def RdMs (w : World) (v : Value) (ms : List Mx) : Prop:=∃ f,RdS w 4 v ms.length (mxF ms f) ∧ ∀ i,i < ms.length→Ints w (f i) (ms.getD i mxZero).D
theorem RdMs.below {w w' : World} {v : Value} {ms : List Mx} (h : RdMs w v ms) (hb : Below w.heap.size w w') : RdMs w' v ms:=by
 obtain ⟨f,h1,h2⟩:=h
 exact ⟨f,h1.below hb,fun i hi=>(h2 i hi).below hb⟩
theorem RdMs.qt {w w' : World} {v : Value} {ms : List Mx} (h : RdMs w v ms) (q : Qt w w') : RdMs w' v ms:=h.below (q.below _)
namespace OwnMs
variable {w w' : World} {lo hi : Nat} {v : Value} {ms : List Mx}
end OwnMs
theorem RdS.four {w : World} {v : Value} {ms : List Mx} {f : Nat→Value} (h : RdS w 4 v ms.length (mxF ms f)) : ∃ p cap,v=.slice p ms.length cap∧(ms.length≤cap∧cap≤maxLen) ∧
 (0 < ms.length → ∃ b,p=some ⟨b,0,none⟩ ∧ ∀ i,i < ms.length→w.cell? ⟨b,i * 4,none⟩=some (.int .i64 (ms.getD i mxZero).P)∧w.cell? ⟨b,i * 4+1,none⟩=some (.int .i64 (ms.getD i mxZero).R)∧w.cell? ⟨b,i * 4+2,none⟩=some (.int .i64 (ms.getD i mxZero).C)∧w.cell? ⟨b,i * 4+3,none⟩=some (f i)):=by
 obtain ⟨p,cap,rfl,hm,h⟩:=h
 refine ⟨p,cap,rfl,hm,fun h0=> ?_⟩
 obtain ⟨b,hp,hx⟩:=h h0
 exact ⟨b,hp,fun i hi=>⟨hx i hi 0 (by omega),hx i hi 1 (by omega),hx i hi 2 (by omega),hx i hi 3 (by omega)⟩⟩
theorem ints_takeP {w : World} {p : Option Addr} {cap : Nat} {xs : List Int} (h : Ints w (.slice p xs.length cap) xs) {i : Nat} (hi : i≤xs.length) : Ints w (.slice p i cap) (xs.take i):=by
 obtain ⟨q,c,e,⟨h1,h2⟩,h3⟩:=h
 injection e with e1 e2 e3
 subst e1 e3
 have hl : (xs.take i).length=i:=by rw [List.length_take];omega
 refine ⟨p,cap,by rw [hl],⟨by omega,h2⟩,fun h0=> ?_⟩
 obtain ⟨b,off,hp,hx⟩:=h3 (by omega)
 refine ⟨b,off,hp,fun j hj=> ?_⟩
 rw [hx j (by omega)]
 unfold iv
 rw [List.getD_eq_getElem?_getD,List.getD_eq_getElem?_getD,List.getElem?_take_of_lt (by omega)]
theorem run_append_make_own {P : Program} (w : World) (base : Nat) (t ti ty e : TypeId) (z : Value) (bytes : Nat) (ht : P.underlying t=some (.slice e)) (hti : P.underlying ti=some (.int .i64))
 (hinfo : (P.info? e).map (fun i=>(i.zero,i.size,i.bytes))=some (some z,1,bytes)) (hzs : z.cells.size=1) (hz1 : ∀ u ∈ z.cells.toList,u.oneCell'=true) (hb : bytes≤1000) (hb0 : 0 < bytes)
 (v : Value) (n : Nat) (xs : List Value) (hown : w.ownsRow base e 1 v n xs) (m : Nat) (hm0 : 0 < m) (hnm : n+m≤1000000) (hbase : base≤w.heap.size) :
 ∃ v' w',(Builtin.append_ #[t,ti] ty #[v,.int .i64 (m : Int)]).run P w=.ok v' w'∧w'.ownsRow base e 1 v' (n+m) (xs ++ (Builtin.zeroCells z.cells m).toList)∧w.grownBy w' v.ownBlock ∧
   (∀ b,v'.ownBlock=some b→v.ownBlock=some b ∨ w.heap.size≤b):=by
 obtain ⟨i,hi,hz,hsz,hby⟩:=info_parts hinfo
 have hlen : (xs ++ (Builtin.zeroCells z.cells m).toList).length=(n+m) * 1:=by
  rw [List.length_append,hown.1,Array.length_toList,size_zeroCells,hzs];omega
 have hzl : (Builtin.zeroCells z.cells m).toList.length=m:=by rw [Array.length_toList,size_zeroCells,hzs];omega
 have hwr : IntKind.i64.wrap (m : Int)=(m : Int):=k64 (by omega) (by omega)
 have hmb : m * bytes≤1000000 * 1000:=Nat.mul_le_mul (by omega) hb
 have h1 : ¬ ((m : Int) < 0):=by omega
 have hm : m ≠ 0:=by omega
 have h4 : ¬ (281474976710656 < (m : Int) * (i.bytes : Int)):=by
  rw [hby]
  have : ((m * bytes : Nat) : Int)=(m : Int) * (bytes : Int):=Int.natCast_mul _ _
  omega
 rcases hown.2 with ⟨rfl,rfl⟩ | ⟨g,cap,cur,rfl,hbg,hg,hnc,hcm,hcs,htake⟩
 ·have hx : xs=[]:=List.eq_nil_of_length_eq_zero (by simpa using hown.1)
  subst hx
  have hge:=grownCap_ge w m 0 e
  have hle:=grownCap_le_maxLen w m 0 e (by unfold maxLen;omega)
  have h3 : ¬ (281474976710656 < Builtin.nextslicecap m 0 * i.bytes):=by rw [nextslicecap_zero (by omega),hby];omega
  have h5 : ¬ (9223372036854775807 < (m : Int)):=by omega
  refine ⟨.slice (some ⟨w.heap.size,0,none⟩) m (grownCap w m 0 e),w.drew.alloc (.cells (Builtin.zeroCells z.cells m ++ Builtin.zeroCells z.cells (grownCap w m 0 e - m)) e),?_,?_,?_,fun b hb=>.inr ?_⟩
  ·simp [Builtin.append_,run_underlying ht,run_underlying hti,sizeOf,typeInfo,zeroValue,hi,hz,hsz,Builtin.firstCells,asInt,asIntOf,hwr,h1,h3,h4,h5,hm,Question.forced,newRow,grownCap,loadCells,loadCellsFrom]
  ·rw [Nat.zero_add] at hlen ⊢
   refine ⟨hlen,.inr ⟨w.heap.size,_,_,rfl,hbase,heap_alloc_new w.drew _,hge,hle,?_,?_⟩⟩
   ·simp only [Array.size_append,size_zeroCells,hzs];omega
   ·simp only [Array.toList_append,List.nil_append]
    rw [List.take_left' (by rw [hzl];omega)]
  ·exact ⟨rfl,rfl,rfl,by simp,fun k hk _=>heap_alloc_old w.drew _ hk⟩
  ·simp only [Value.ownBlock,Option.some.injEq] at hb;omega
 ·have hnews1 : ∀ u ∈ (Builtin.zeroCells z.cells m).toList,u.oneCell'=true:=fun u hu=>by
   rw [Array.mem_toList_iff] at hu
   simp only [Builtin.zeroCells,Array.mem_map,Array.mem_range] at hu
   obtain ⟨k,hk,rfl⟩:=hu
   rw [hzs,Nat.mod_one]
   have h0 : 0 < z.cells.size:=by omega
   rw [getElem!_pos z.cells 0 h0]
   exact hz1 _ (Array.mem_toList_iff.2 (Array.getElem_mem _))
  by_cases hroom : n+m≤cap
  ·have hfit : n * 1+(Builtin.zeroCells z.cells m).toList.length≤cur.size:=by rw [hzl,hcs];omega
   have hst:=run_storeCells_at P g (n * 1) e (Builtin.zeroCells z.cells m).toList 0 cur w hg (by simpa using hfit) hnews1
   simp only [Nat.add_zero,Nat.mul_one] at hst hfit
   refine ⟨.slice (some ⟨g,0,none⟩) (n+m) cap,w.setRow g (cur.toList.take n ++ (Builtin.zeroCells z.cells m).toList ++ cur.toList.drop (n+(Builtin.zeroCells z.cells m).toList.length)).toArray,?_,?_,?_,fun b hb=>.inl hb⟩
   ·simp [Builtin.append_,run_underlying ht,run_underlying hti,sizeOf,typeInfo,zeroValue,hi,hz,hsz,asInt,asIntOf,hwr,h1,h4,hm,hroom,Addr.add_lit,hst]
   ·refine ⟨hlen,.inr ⟨g,cap,_,rfl,hbg,setRow_heap w g cur _ e _ hg,hroom,hcm,?_,?_⟩⟩
    ·simp only [List.size_toArray,List.length_append,List.length_take,List.length_drop,Array.length_toList] at *
     omega
    ·rw [Nat.mul_one] at htake
     rw [htake,← hlen]
     exact List.take_left
   ·exact ⟨rfl,rfl,rfl,by simp,fun k _ hk=>setRow_other w g k _ (fun e=>hk (by simp [Value.ownBlock,e]))⟩
  ·have holds : ∀ j u,xs[j]?=some u→w.cell? ((⟨g,0,none⟩ : Addr).add j)=some u:=hown.cells (g:=g) rfl
   have hge:=grownCap_ge w (n+m) cap e
   have hle:=grownCap_le_maxLen w (n+m) cap e (by unfold maxLen;omega)
   have hfo:=run_firstCells_some (P:=P) w.drew 1 n ⟨g,0,none⟩ n cap xs hown.1 (by simpa using holds)
   have h3 : ¬ (281474976710656 < Builtin.nextslicecap (n+m) cap * i.bytes):=by
    have:=growslice_fits (need:=n+m) (old:=cap) (bytes:=i.bytes) (by omega) (by rw [hby];have:=Nat.mul_le_mul hnm hb;omega)
    omega
   have h5 : ¬ (9223372036854775807 < (n : Int)+(m : Int)):=by omega
   refine ⟨.slice (some ⟨w.heap.size,0,none⟩) (n+m) (grownCap w (n+m) cap e),w.drew.alloc (.cells (xs.toArray ++ Builtin.zeroCells z.cells m ++ Builtin.zeroCells z.cells (grownCap w (n+m) cap e - (n+m))) e),?_,?_,?_,fun b hb=>.inr ?_⟩
   ·simp [Builtin.append_,run_underlying ht,run_underlying hti,sizeOf,typeInfo,zeroValue,hi,hz,hsz,asInt,asIntOf,hwr,h1,h3,h4,h5,hm,hroom,Question.forced,hfo,newRow,grownCap]
   ·refine ⟨hlen,.inr ⟨w.heap.size,_,_,rfl,hbase,heap_alloc_new w.drew _,hge,hle,?_,?_⟩⟩
    ·have:=hown.1
     simp only [Array.size_append,List.size_toArray,size_zeroCells,hzs];omega
    ·simp only [Array.toList_append,List.append_assoc]
     rw [← List.append_assoc,← hlen]
     exact List.take_left
   ·exact ⟨rfl,rfl,rfl,by simp,fun k hk _=>heap_alloc_old w.drew _ hk⟩
   ·simp only [Value.ownBlock,Option.some.injEq] at hb;omega
theorem zeroCells_get {z : Value} (hzs : z.cells.size=1) {m j : Nat} (hj : j < m) : (Builtin.zeroCells z.cells m).toList[j]?=some (z.cells[0]!):=by
 simp [Builtin.zeroCells,hzs,hj,Nat.mod_one]
theorem run_append_make_F {P : Program} (w : World) (t ti ty e : TypeId) (z : Value) (bytes : Nat) (ht : P.underlying t=some (.slice e)) (hti : P.underlying ti=some (.int .i64))
 (hinfo : (P.info? e).map (fun i=>(i.zero,i.size,i.bytes))=some (some z,1,bytes)) (hzs : z.cells.size=1) (hz1 : ∀ u ∈ z.cells.toList,u.oneCell'=true) (hb : bytes≤1000) (hb0 : 0 < bytes)
 (lo hi' : Nat) (v : Value) (n : Nat) (f : Nat→Value) (hown : OwnF w lo hi' e v n f) (hlo : lo≤w.heap.size) (hhi : hi'≤w.heap.size) (m : Nat) (hm0 : 0 < m) (hnm : n+m≤1000000) :
 ∃ v' w',(Builtin.append_ #[t,ti] ty #[v,.int .i64 (m : Int)]).run P w=.ok v' w'∧OwnF w' lo w'.heap.size e v' (n+m) (fun j=>if j < n then f j else z.cells[0]!)∧w.grownBy w' v.ownBlock ∧
   (∀ b,v'.ownBlock=some b→v.ownBlock=some b ∨ w.heap.size≤b):=by
 obtain ⟨xs,ho,hf⟩:=hown
 obtain ⟨v',w',hr,h2,h3,h4⟩:=run_append_make_own (P:=P) w lo t ti ty e z bytes ht hti hinfo hzs hz1 hb hb0 v n xs ho.1 m hm0 hnm hlo
 refine ⟨v',w',hr,⟨_,Own.of_row h2,fun j hj=> ?_⟩,h3,h4⟩
 have hl : xs.length=n:=by have:=ho.len;omega
 by_cases h : j < n
 ·simp only [h,if_true]
  rw [List.getElem?_append_left (by omega),hf j h]
 ·simp only [h,if_false]
  rw [List.getElem?_append_right (by omega),hl]
  exact zeroCells_get hzs (by omega)
end
end Go.Proofs.YtincaodpjdeoeaaGreatDoor
