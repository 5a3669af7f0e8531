/-
  A part of the proof of FnSessions (texts of one proof, joined).
-/
import Derived.Test.YtincaodpjdeoeaaGreatDoorJ9
namespace Go.Proofs.YtincaodpjdeoeaaGreatDoor
set_option linter.all false
set_option maxRecDepth 100000
set_option maxHeartbeats 16000000
section
open Go.RowKit Go.Maps Go.WideMaps Go.WideElems Go.MapKept Go.ChangeMaps Go.ChangeShapes
theorem has_of_cf {w : World} {b n d : Nat} {D : DU} {P : Pl} (ho : OwnMp w b n D) (h : PolM d D P) (hd : d≤1000000) (hco : ∀ e,-1000000≤cfP P e∧cfP P e≤1000000) {e : List Int} (he : K7 d e) (hc : cfP P e ≠ 0) : has D (kl e)=true:=by
 cases hh : has D (kl e) with
 | true=>rfl
 | false =>
   have hs:=h.sum (ind e)
   have h2 : SmD D (fun l=>ind e (unkl l))=0:=by
    obtain ⟨es,rfl,hpw⟩:=h.tidy
    refine SmL_zero _ fun p hp=> ?_
    have hm:=hm_of ho es rfl p hp
    have hp1 : has (.map es) p.1=true:=List.any_eq_true.2 ⟨p,hp,WideAt.sameKey_self hm⟩
    obtain ⟨e',h1,h2⟩:=h.keys _ hp1
    rw [h1,unkl_kl h2 hd]
    unfold ind
    rw [if_neg fun e3=> ?_]
    rw [h1,e3,hh] at hp1
    cases hp1
   rw [h2] at hs
   exact absurd (cg_eq hs rfl (hco e)).symm hc
def Best (d : Nat) (D : DU) (left : Lit→Bool) (fl : Bool) (best : List Int) : Prop :=
 (fl=false ∧ ∀ l,has D l=true→left l=true) ∨ (fl=true∧K7 d best∧has D (kl best)=true∧left (kl best)=false ∧ ∀ e,K7 d e→has D (kl e)=true→left (kl e)=false→e=best ∨ ltT best e=true)
theorem Best.start (d : Nat) (D : DU) : Best d D (has D) false [0,0,0,0,0,0,0]:=.inl ⟨rfl,fun _ h=>h⟩
theorem left_split {d : Nat} (hd : d≤1000000) {left : Lit→Bool} {e a : List Int} (he : K7 d e) (ha : K7 d a) (h : (left (kl e) && !(kl e).sameKey (kl a))=false) : left (kl e)=false ∨ e=a:=by
 rw [Bool.and_eq_false_iff] at h
 rcases h with h | h
 ·exact .inl h
 ·right
  have h2 : (kl e).sameKey (kl a)=true:=by simpa using h
  exact kl_inj he hd ha hd (WideAt.sameKey_eq h2)
theorem Best.same {d : Nat} {D : DU} {left : Lit→Bool} {best a : List Int} (hd : d≤1000000) (h : Best d D left true best) (ha : K7 d a) (hla : left (kl a)=true) (hn : ltT a best=false) : Best d D (fun z=>left z && !z.sameKey (kl a)) true best:=by
 rcases h with ⟨h,_⟩ | ⟨_,h1,h2,h3,h4⟩
 ·cases h
 ·refine .inr ⟨rfl,h1,h2,by simp [h3],fun e he hh hl=> ?_⟩
  rcases left_split hd he ha hl with h5 | h5
  ·exact h4 e he hh h5
  ·subst h5
   cases h6 : ltT best e with
   | true=>exact .inr rfl
   | false=>exact .inl (ltT_total _ _ hn h6)
theorem Best.new {d : Nat} {D : DU} {left : Lit→Bool} {fl : Bool} {best a : List Int} (hd : d≤1000000) (h : Best d D left fl best) (ha : K7 d a) (hla : left (kl a)=true) (hh : has D (kl a)=true) (hn : fl=true→ltT a best=true) : Best d D (fun z=>left z && !z.sameKey (kl a)) true a:=by
 refine .inr ⟨rfl,ha,hh,by simp [WideAt.sameKey_self (kl_lit a)],fun e he hhe hl=> ?_⟩
 rcases left_split hd he ha hl with h5 | h5
 ·right
  rcases h with ⟨h,h1⟩ | ⟨h,h1,h2,h3,h4⟩
  ·rw [h1 _ hhe] at h5;cases h5
  ·have hab:=hn h
   rcases h4 e he hhe h5 with h6 | h6
   ·rw [h6];exact hab
   ·exact ltT_trans _ _ _ hab h6
 ·exact .inl h5
theorem Best.end {d : Nat} {D : DU} {left : Lit→Bool} {fl : Bool} {best e0 : List Int} (h : Best d D left fl best) (hl : ∀ l,left l=false) (h0 : K7 d e0) (hh : has D (kl e0)=true) (hm : ∀ e,K7 d e→has D (kl e)=true→e=e0 ∨ ltT e0 e=true) : best=e0:=by
 rcases h with ⟨_,h1⟩ | ⟨_,h1,h2,_,h4⟩
 ·have:=h1 _ hh
  rw [hl] at this;cases this
 ·rcases hm best h1 h2 with h5 | h5
  ·exact h5
  ·rcases h4 e0 h0 hh (hl _) with h6 | h6
   ·exact h6.symm
   ·have:=ltT_asym h5
    rw [h6] at this;cases this
theorem ArT.ints {T : TypeId} {w : World} {g : Nat} {a : List Int} (h : ArT T w g a) (h7 : a.length=7) : Ints w (.slice (some ⟨g,0,none⟩) 7 7) a :=
 ⟨_,_,by rw [h7],⟨by rw [h7];exact Nat.le_refl _,by unfold maxLen;omega⟩,fun _=>⟨g,0,rfl,fun j hj=>by
   rw [Nat.zero_add]
   exact h.cell hj⟩⟩
theorem ArT.below {T : TypeId} {w w' : World} {g : Nat} {a : List Int} (h : ArT T w g a) (hb : Below w.heap.size w w') : ArT T w' g a:=blk_later h hb
theorem set7 {w : World} {b : Nat} {x0 x1 x2 x3 x4 x5 x6 : Value} {T : TypeId} (h : w.heap[b]?=some (.cells #[x0,x1,x2,x3,x4,x5,x6] T (0,0))) (y0 y1 y2 y3 y4 y5 y6 : Value) :
 (((((((w.setCell ⟨b,0,none⟩ y0).setCell ⟨b,1,none⟩ y1).setCell ⟨b,2,none⟩ y2).setCell ⟨b,3,none⟩ y3).setCell ⟨b,4,none⟩ y4).setCell ⟨b,5,none⟩ y5).setCell ⟨b,6,none⟩ y6).heap[b]?=some (.cells #[y0,y1,y2,y3,y4,y5,y6] T (0,0)) ∧
   Frm b (b+1) w (((((((w.setCell ⟨b,0,none⟩ y0).setCell ⟨b,1,none⟩ y1).setCell ⟨b,2,none⟩ y2).setCell ⟨b,3,none⟩ y3).setCell ⟨b,4,none⟩ y4).setCell ⟨b,5,none⟩ y5).setCell ⟨b,6,none⟩ y6):=by
 constructor
 ·have h0:=heap_setCell_at h 0 y0
  have h1:=heap_setCell_at h0 1 y1
  have h2:=heap_setCell_at h1 2 y2
  have h3:=heap_setCell_at h2 3 y3
  have h4:=heap_setCell_at h3 4 y4
  have h5:=heap_setCell_at h4 5 y5
  have h6:=heap_setCell_at h5 6 y6
  rw [h6]
  rfl
 ·exact ((((((((Frm.refl b (b+1) w).setCell (p:=⟨b,0,none⟩) (Nat.le_refl _) (Nat.lt_succ_self _) _).setCell (p:=⟨b,1,none⟩) (Nat.le_refl _) (Nat.lt_succ_self _) _).setCell (p:=⟨b,2,none⟩) (Nat.le_refl _) (Nat.lt_succ_self _) _).setCell (p:=⟨b,3,none⟩) (Nat.le_refl _) (Nat.lt_succ_self _) _).setCell (p:=⟨b,4,none⟩) (Nat.le_refl _) (Nat.lt_succ_self _) _).setCell (p:=⟨b,5,none⟩) (Nat.le_refl _) (Nat.lt_succ_self _) _).setCell (p:=⟨b,6,none⟩) (Nat.le_refl _) (Nat.lt_succ_self _) _)
theorem lit7 {a : List Int} (h : a.length=7) : ∃ s0 s1 s2 s3 s4 s5 s6 : Int,a=[s0,s1,s2,s3,s4,s5,s6]:=by
 match a,h with
 | [s0,s1,s2,s3,s4,s5,s6],_=>exact ⟨_,_,_,_,_,_,_,rfl⟩
theorem kv7 (a0 a1 a2 a3 a4 a5 a6 : Int) : kv [a0,a1,a2,a3,a4,a5,a6]=.agg #[.int .i64 a0,.int .i64 a1,.int .i64 a2,.int .i64 a3,.int .i64 a4,.int .i64 a5,.int .i64 a6]:=by simp [kv]
theorem info7 : (Tryz.prog.info? 109).map (·.size)=some 7:=by kernel_rfl
theorem results_first (tmps : Array Value) (w : World) (g : Nat) (y0 y1 y2 y3 y4 y5 y6 : Value) (fr : Nat × Nat) (hp : tmps.getD 2 undef=.pointer (some ⟨g,0,none⟩)) (hg : w.heap[g]?=some (.cells #[y0,y1,y2,y3,y4,y5,y6] 109 fr)) :
 (results Tryz.f67 tmps).run Tryz.prog w=.ok (.agg #[y0,y1,y2,y3,y4,y5,y6]) w :=
 results_cell_row (ty:=109) (p:=2) (by kernel_rfl) tmps w g _ _ fr (.array 7 3) hp hg und56 rfl info7
theorem first_any (u : Value) (d n : Nat) (P : Pl) (e0 : List Int) (w : World) (hf : PolV w u d n P) (hd : d≤1000) (hco : ∀ e,-1000000≤cfP P e∧cfP P e≤1000000) (h0 : K7 d e0) (hc0 : cfP P e0 ≠ 0) (hmin : ∀ e,K7 d e→cfP P e ≠ 0→e=e0 ∨ ltT e0 e=true) :
 Calls Tryz.prog 67 #[u] w fun e w'=>e=.returned (kv e0)∧Below w.heap.size w w':=by
 obtain ⟨bf,D,rfl,hf1,hf2⟩:=hf
 have hhas:=has_of_cf hf1 hf2 (by omega) hco h0 hc0
 have hm : ∀ e,K7 d e→has D (kl e)=true→e=e0 ∨ ltT e0 e=true:=fun e he hh=>by
  obtain ⟨c,_,hc,_⟩:=hf1.lookup_int klaw und41 undI (zeroI _) (keyOf_kv he (by omega))
  obtain ⟨e1,e2⟩:=at_cf hf1 hf2 (by omega) hco he hh hc
  exact hmin e he (by rw [← e1];exact e2)
 have hbl:=hf1.lt
 have HF2:=Lib.hid hf2
 have Hhas:=Lib.hid hhas
 have Hm:=Lib.hid hm
 have H0:=Lib.hid h0
 obtain ⟨B,hB⟩ : ∃ B,B=w.heap.size:=⟨_,rfl⟩
 have HB:=Lib.hid hB
 obtain ⟨o1,ho1⟩ : ∃ o : Obj,o=.cells #[.int .i64 0,.int .i64 0,.int .i64 0,.int .i64 0,.int .i64 0,.int .i64 0,.int .i64 0] 109:=⟨_,rfl⟩
 have Ho1:=Lib.hid ho1
 have hfW:=(hf1.alloc o1).alloc o1
 rw [ho1] at hfW
 clear hf2 hhas hm h0 hc0 hmin hco ho1
 go_enter Tryz.func67,Tryz.ntmps67
 go_wp2_with (first
  | (at_range;refine wpList_range_own _ rfl _ 105 rfl 109 3 klaw und41 _ bf n _ rfl hfW ?_;intro w0 hrg0 hg0 hs0)
  | fail)
 go_frame
 rw [← Ho1.out] at hrg0 hg0 hs0 ⊢
 have hsa : ((w.alloc o1).alloc o1).heap.size=w.heap.size+1+1:=by rw [size_alloc,size_alloc]
 rw [hsa] at hrg0 hs0 ⊢
 have hbel0 : Below w.heap.size w w0:=(below_alloc2 w o1 o1).grown hg0 (by rw [hsa];omega) (fun j hj=>by cases hj)
 have hz0 : w0.heap[w.heap.size]?=some (.cells #[.int .i64 0,.int .i64 0,.int .i64 0,.int .i64 0,.int .i64 0,.int .i64 0,.int .i64 0] 109 (0,0)) :=
  (hg0.block _ (by rw [hsa];omega) (by simp)).trans (by rw [Ho1.out];exact blk_later (heap_alloc_top _ _) (below_alloc _ _))
 have hz1 : ArT 109 w0 (w.heap.size+1) [0,0,0,0,0,0,0] :=
  (hg0.block _ (by rw [hsa];omega) (by simp)).trans (by rw [Ho1.out];exact heap_alloc_at _ _ (by rw [size_alloc]))
 rw [← hB] at hrg0 hs0 hbel0 hz0 hz1 hbl ⊢
 have Hbel0:=Lib.hid hbel0
 have Hz0:=Lib.hid hz0
 have Hz1:=Lib.hid hz1
 clear hbel0 hg0 hsa hB hz0 hz1 hfW
 go_loopg [4,5] (Maps.size D) (fun g s4 s5 wr=> ∃ (left : Lit→Bool) (fl : Bool) (best : List Int),s4=.bool fl∧RanP wr bf (B+2) n D left g∧(∀ l,left l=true→has D l=true)∧B+2 < wr.heap.size∧best.length=7∧(∀ j,0≤best.getD j 0∧best.getD j 0≤1000) ∧
  Hid (Best d D left fl best)∧Hid (ArT 109 wr (B+1) best)∧Hid (wr.heap[B]?=some (.cells #[.int .i64 0,.int .i64 0,.int .i64 0,.int .i64 0,.int .i64 0,.int .i64 0,.int .i64 0] 109 (0,0)))∧Hid (Below B w wr))
 case atStart=>exact ⟨_,false,_,rfl,hrg0,fun _ h=>h,by omega,rfl,fun j=>by
  have : ∀ j,([0,0,0,0,0,0,0] : List Int).getD j 0=0:=fun j=>by
   match j with
   | 0 | 1 | 2 | 3 | 4 | 5 | 6=>rfl
   | j+7=>rfl
  rw [this];omega,Best.start d D,Hz1.out,Hz0.out,Hbel0.out⟩
 case round =>
  obtain ⟨left,fl,best,rfl,hrg,hleft,hsz,hbl7,hbr,hbest,hz1,hz0,hbel⟩:=hrel
  obtain ⟨wx,rfl⟩ : ∃ x : World,x=wr:=⟨_,rfl⟩
  go_wp2_with (first
   | (at_next;refine wpList_next_poly _ rfl _ rfl bf (B+2) n d D P left gk rfl hrg HF2.out (by omega) hleft ?_ ?_)
   | fail)
  ·intro hc0 hl0
   have he:=hbest.out.end hl0 H0.out Hhas.out Hm.out
   obtain ⟨t0,t1,t2,t3,t4,t5,t6,hts⟩:=lit7 hbl7
   have hz1':=hz1.out
   rw [hts] at hz1'
   obtain ⟨x0,x1,x2,x3,x4,x5,x6,_,_⟩:=blk7 hz1'
   have Hz0':=Lib.hid hz0.out
   obtain ⟨y0,y1,y2,y3,y4,y5,y6,yf,_⟩:=blk7 hz0.out
   have f0:=yf 0
   have f1:=yf 1
   have f2:=yf 2
   have f3:=yf 3
   have f4:=yf 4
   have f5:=yf 5
   have f6:=yf 6
   have He:=Lib.hid (he.symm.trans hts)
   have Hbel:=Lib.hid hbel.out
   clear he hts hz1' hz1 hz0 hbel yf hbest
   go_wp2_with fail
   obtain ⟨hset,hfr⟩:=set7 Hz0'.out (.int .i64 t0) (.int .i64 t1) (.int .i64 t2) (.int .i64 t3) (.int .i64 t4) (.int .i64 t5) (.int .i64 t6)
   have hb9:=Hbel.out.trans (hfr.below (B:=B) (Nat.le_refl _) (by omega))
   refine bodyPost_ret (results_first _ _ B _ _ _ _ _ _ _ _ rfl hset) rfl ?_
   rw [He.out,kv7]
   refine ⟨rfl,?_⟩
   rw [← HB.out]
   exact hb9
  ·intro a0 a1 a2 a3 a4 a5 a6 c w1 cnt1 hK hlx hwf hat hrg1 hlt hgr1 hs1 hen
   obtain ⟨av,hav⟩ : ∃ av : List Int,av=[a0,a1,a2,a3,a4,a5,a6]:=⟨_,rfl⟩
   have HK:=Lib.hid (show K7 d av by rw [hav];exact hK)
   have Hav:=Lib.hid hav
   have Hlx:=Lib.hid (show left (kl av)=true by rw [hav];exact hlx)
   have Hrg1:=Lib.hid (show RanP w1 bf (B+2) n D (fun z=>left z && !z.sameKey (kl av)) cnt1 by rw [hav];exact hrg1)
   have Hz1a:=Lib.hid (show ArT 109 w1 (B+1) best from (hgr1.block (B+1) (by omega) (by intro h;injection h with h;omega)).trans hz1.out)
   have Hz0a:=Lib.hid ((hgr1.block B (by omega) (by intro h;injection h with h;omega)).trans hz0.out)
   have Hbel1:=Lib.hid (hbel.out.grown hgr1 (by omega) (fun j hj=>by injection hj with hj;omega))
   obtain ⟨W,hW⟩ : ∃ W,W=w1.alloc (.cells #[.int .i64 a0,.int .i64 a1,.int .i64 a2,.int .i64 a3,.int .i64 a4,.int .i64 a5,.int .i64 a6] 109):=⟨_,rfl⟩
   have HzW:=Lib.hid (show ArT 109 W wx.heap.size av by rw [hW,hav];exact heap_alloc_at _ _ hs1.symm)
   have Hz1W:=Lib.hid (show ArT 109 W (B+1) best by rw [hW];exact (heap_alloc_low _ _ (by omega)).trans Hz1a.out)
   have Hz0W:=Lib.hid (show W.heap[B]?=some (.cells #[.int .i64 0,.int .i64 0,.int .i64 0,.int .i64 0,.int .i64 0,.int .i64 0,.int .i64 0] 109 (0,0)) by rw [hW];exact (heap_alloc_low _ _ (by omega)).trans Hz0a.out)
   have HrgW:=Lib.hid (show RanP W bf (B+2) n D (fun z=>left z && !z.sameKey (kl av)) cnt1 by rw [hW];exact Hrg1.out.alloc _)
   have HbelW:=Lib.hid (show Below B w W by rw [hW];exact Hbel1.out.alloc (by omega) _)
   have hszW : W.heap.size=wx.heap.size+1:=by rw [hW,size_alloc,hs1]
   have HW:=Lib.hid hW
   clear hav hK hlx hwf hat hrg1 hgr1 hW Hz1a Hz0a Hrg1 Hbel1 hz1 hz0 hbel hrg
   obtain ⟨qb,hqb⟩ : ∃ qb,qb=(!fl || ltT av best):=⟨_,rfl⟩
   have Hqb:=Lib.hid hqb
   clear hqb
   go_upto_region 6 with fail
   rw [← HW.out]
   go_cut [20] (fun s20 wc=>s20=.bool qb∧Qt W wc)
   case first =>
    cases fl with
    | false =>
      have Hf:=Lib.hid (show qb=true by rw [Hqb.out];rfl)
      go_quiet (fail)
      go_wp2_with fail
      go_meet
      exact ⟨by rw [Hf.out],⟨nq,rfl⟩⟩
    | true =>
      have hx0:=HzW.out.cell (j:=0) (by rw [HK.out.1];omega)
      have hy0:=Hz1W.out.cell (j:=0) (by rw [hbl7];omega)
      obtain ⟨cc,hcc⟩ : ∃ cc,cc=cmpT av best:=⟨_,rfl⟩
      have hq : ∀ q,Calls Tryz.prog 62 #[.slice (some ⟨wx.heap.size,0,none⟩) 7 7,.slice (some ⟨B+1,0,none⟩) 7 7] (W.drewN q) fun e w'=>e=.returned (.int .i64 cc)∧Qt (W.drewN q) w':=fun q=>by
       rw [hcc]
       exact byTerms_any _ _ av best _ ((HzW.out.ints HK.out.1).drewN q) ((Hz1W.out.ints hbl7).drewN q) HK.out.1 hbl7 (fun j=>by have:=HK.out.rng j;omega) (fun j=>by have:=hbr j;omega)
      have Hq:=Lib.hid hq
      have Hf:=Lib.hid (show qb=decide (cc < 0) by rw [Hqb.out,hcc,← cmpT_neg HK.out.1 hbl7];rfl)
      clear hq hcc hx0 hy0
      by_cases hc0 : cc < 0
      ·have Hf2:=Lib.hid (show qb=true by rw [Hf.out];exact decide_eq_true hc0)
       go_quiet (first | (go_at_call 62;refine quiet_q (Hq.out _)))
       go_wp2_with fail
       go_meet
       exact ⟨by rw [Hf2.out],⟨nq,rfl⟩⟩
      ·have Hf2:=Lib.hid (show qb=false by rw [Hf.out];exact decide_eq_false hc0)
       go_quiet (first | (go_at_call 62;refine quiet_q (Hq.out _)))
       go_wp2_with fail
       go_meet
       exact ⟨by rw [Hf2.out],⟨nq,rfl⟩⟩
   case rest =>
    obtain ⟨rfl,hq6⟩:=hcut
    obtain ⟨w6,rfl⟩ : ∃ x : World,x=wc:=⟨_,rfl⟩
    have Hb6:=Lib.hid (hq6.below W.heap.size)
    have hs6:=hq6.size
    have HzA:=Lib.hid (HzW.out.below Hb6.out)
    have HzB:=Lib.hid (Hz1W.out.below Hb6.out)
    have HzC:=Lib.hid (blk_later Hz0W.out Hb6.out)
    have Hrg6:=Lib.hid (HrgW.out.kept (row:=none) ⟨Hb6.out.os,Hb6.out.tape,Hb6.out.output,Hb6.out.size,fun i hi _=>Hb6.out.block i hi⟩ (by simp) (by simp))
    have Hbel6:=Lib.hid (HbelW.out.trans (Hb6.out.mono (by omega)))
    clear hq6
    cases qb with
    | false =>
      have hfl : fl=true∧ltT av best=false:=by
       have:=Hqb.out
       cases fl with
       | false=>cases this
       | true=>exact ⟨rfl,by simpa using this.symm⟩
      have hn:=hfl.2
      have Hn:=Lib.hid hn
      have Hfl:=Lib.hid hfl.1
      clear hn hfl
      go_wp2_with fail
      go_roundg cnt1
      case measure=>exact hlt
      case rel =>
       exact ⟨_,fl,best,rfl,Hrg6.out,has_sub hleft,by omega,hbl7,hbr,by
        have h:=hbest.out
        rw [Hfl.out] at h ⊢
        exact h.same (by omega) HK.out Hlx.out Hn.out,HzB.out,HzC.out,Hbel6.out⟩
    | true =>
      have hzA:=HzA.out
      rw [Hav.out] at hzA
      obtain ⟨x0,x1,x2,x3,x4,x5,x6,_,_⟩:=blk7 hzA
      have hzB:=HzB.out
      obtain ⟨t0,t1,t2,t3,t4,t5,t6,hts⟩:=lit7 hbl7
      rw [hts] at hzB
      obtain ⟨y0,y1,y2,y3,y4,y5,y6,yf,_⟩:=blk7 hzB
      have f0:=yf 0
      have f1:=yf 1
      have f2:=yf 2
      have f3:=yf 3
      have f4:=yf 4
      have f5:=yf 5
      have f6:=yf 6
      have HzB':=Lib.hid hzB
      have Hnew:=Lib.hid (Best.new (by omega) hbest.out HK.out Hlx.out (hleft _ Hlx.out) (fun hfl=>by
       have:=Hqb.out
       rw [hfl] at this
       simpa using this.symm))
      clear hzA hzB yf hts
      go_wp2_with fail
      go_roundg cnt1
      case measure=>exact hlt
      case rel =>
       obtain ⟨hset,hfr⟩:=set7 HzB'.out (.int .i64 a0) (.int .i64 a1) (.int .i64 a2) (.int .i64 a3) (.int .i64 a4) (.int .i64 a5) (.int .i64 a6)
       refine ⟨_,true,av,rfl,Hrg6.out.kept (frm_gb hfr) (by intro h;injection h with h;omega) (by intro h;injection h with h;omega),has_sub hleft,by have:=hfr.size;omega,HK.out.1,fun j=>by have:=HK.out.rng j;omega,Hnew.out,?_,?_,?_⟩
       ·show ArT _ _ _ av
        rw [Hav.out]
        exact hset
       ·exact (hfr.block B (by omega) (Or.inl (by omega))).trans HzC.out
       ·exact Hbel6.out.trans (hfr.below (by omega) (by omega))
end
section
open Go.RowKit Go.Sort Go.Shelf
theorem cmpCls_any (d d' : Value) (xs ys : List Int) (c c' : Int) (w : World) (h : Ints w d xs) (h' : Ints w d' ys) :
 Calls Tryz.prog 111 #[.agg #[d,.int .i64 c],.agg #[d',.int .i64 c']] w fun e w'=>e=.returned (.int .i64 (cmpB xs ys)) ∧ ∃ q os',w'=grow (w.drewN q) os':=by
 have q1:=fun o o'=>compare_any d d' xs ys ((w.alloc o).alloc o') (h.below (below_alloc2 w o o')) (h'.below (below_alloc2 w o o'))
 have Q1:=Lib.hid q1
 clear q1
 obtain ⟨p,cap,rfl,_,_⟩:=h
 obtain ⟨p',cap',rfl,_,_⟩:=h'
 go_enter Tryz.func111,Tryz.ntmps111
 go_wp2_with fail
 refine (Q1.out _ _).mono ?_
 rintro e w1 ⟨rfl,rfl⟩
 go_wp2_with fail
 go_ret
 exact ⟨rfl,0,_,by rw [alloc_eq_grow,alloc_eq_grow,grow_grow];rfl⟩
theorem swo_cls (R : Nat→List Int) : SWO (ltOf fun i j=>cmpB (R i) (R j)) where
 irrefl x:=by simp only [ltOf,cmpB_neg];exact ltB_irrefl _
 trans x y z h1 h2:=by simp only [ltOf,cmpB_neg] at *;exact ltB_trans _ _ _ h1 h2
 ntrans x y z h1 h2:=by simp only [ltOf,cmpB_neg] at *;exact ltB_ntrans _ _ _ h1 h2
theorem sortFC_any (v : Value) (cs : List Cls) (lo hi : Nat) (w : World) (h : OwnCd w lo hi v cs) (hn : cs.length≤1000) (hnd : (cs.map (·.1)).Nodup) :
 Calls Tryz.prog 110 #[v,.func (.func 111) #[] #[]] w fun e w' =>
  e=.returned (.tuple #[])∧OwnCd w' lo hi v (srtC cs)∧Frm lo hi w w':=by
 have hcl:=h
 obtain ⟨F,g1,g2,g3⟩:=h
 obtain ⟨p,cap,rfl,hnc,hcm,hp⟩:=g1.shape
 by_cases h0 : cs.length=0
 ·have hcs : cs=[]:=List.eq_nil_of_length_eq_zero h0
  subst hcs
  have hcon:=AnyF.slices_SortFunc_none (P:=Tryz.prog) (ρ:=Tryz.sortC_ren) Tryz.sortC p cap (.func (.func 111) #[] #[]) w
  change Calls Tryz.prog 110 _ _ _ at hcon
  refine hcon.mono ?_
  rintro e w' ⟨rfl,rfl⟩
  exact ⟨rfl,hcl,Frm.refl _ _ _⟩
 ·obtain ⟨g,rfl,hg1,hg2,hg3⟩:=hp (by omega)
  have g1':=g1
  obtain ⟨xs,hown,hxf⟩:=g1'
  obtain ⟨cur,hgc,hsz⟩ : ∃ cur : Array Value,w.heap[g]?=some (.cells cur 42 (0,0))∧cur.size=cap * 2:=by
   rcases hown.1.2 with ⟨e,_⟩ | ⟨g',cap',cur,e,hb,hg,hn',hm,hs,ht⟩
   ·injection e with e;cases e
   ·injection e with e1 e2 e3
    injection e1 with e1
    injection e1 with e1
    subst e1 e3
    exact ⟨cur,hg,hs⟩
  obtain ⟨n,hN⟩ : ∃ n,n=cs.length:=⟨_,rfl⟩
  have enter : ∀ args w,(callFunc 111 args).run Tryz.prog w=.ok (.enter 111 args) w:=enters_of Tryz.func111 (by kernel_rfl) rfl
  obtain ⟨D,hD⟩ : ∃ D : Nat→Value,D=fun i=>if i < n then F i else .slice none 0 0:=⟨_,rfl⟩
  obtain ⟨C,hC⟩ : ∃ C : Nat→Int,C=fun i=>if i < n then (cs.getD i clD).2 else 0:=⟨_,rfl⟩
  obtain ⟨R,hR⟩ : ∃ R : Nat→List Int,R=fun i=>if i < n then (cs.getD i clD).1 else []:=⟨_,rfl⟩
  have hDs : ∀ i,∃ p k m,D i=.slice p k m:=fun i=>by
   rw [hD]
   by_cases e : i < n
   ·obtain ⟨p1,k1,e1,_⟩:=(g2 i (by omega)).shape
    simp only [e,if_true]
    exact ⟨_,_,_,e1⟩
   ·simp only [e,if_false];exact ⟨_,_,_,rfl⟩
  have hnb : ∀ i,i < n → ∀ k,(F i).ownBlock=some k→k ≠ g∧k < w.heap.size:=fun i hi k hk=>⟨fun e=>by
   subst e
   exact ne_of_kinds ((g2 i (by omega)).kind k hk) ⟨cur,(0,0),hgc⟩ (by decide),(Own.block (g2 i (by omega)) hk).2.2⟩
  have hcmp : CmpLays Tryz.prog 111 #[] (fun i=>[D i,.int .i64 (C i)]) 2 (fun i j=>cmpB (R i) (R j)) g 0 (Array.range n).size w:=by
   intro m os dk _ x y
   have hI : ∀ i,Ints (sortWorldK (fun i=>[D i,.int .i64 (C i)]) 2 w g 0 m dk os) (D i) (R i):=fun i=>by
    by_cases e : i < n
    ·have d1 : D i=F i:=by rw [hD];simp only [e,if_true]
     have r1 : R i=(cs.getD i clD).1:=by rw [hR];simp only [e,if_true]
     rw [d1,r1]
     refine OwnI.ints (lo:=lo) (hi:=hi) (T:=3) ⟨ownsRow_of_block (g2 i (by omega)).1 fun k hk=> ?_,(g2 i (by omega)).2⟩
     exact swd_other id (hnb i e k hk).2 (hnb i e k hk).1 m (flatK (fun i=>[D i,.int .i64 (C i)]) 2 dk) os
    ·have d1 : D i=.slice none 0 0:=by rw [hD];simp only [e,if_false]
     have r1 : R i=[]:=by rw [hR];simp only [e,if_false]
     rw [d1,r1]
     exact ⟨none,0,rfl,⟨Nat.le_refl _,Nat.zero_le _⟩,fun h=>absurd h (by simp)⟩
   exact cmpCls_any (D x) (D y) (R x) (R y) (C x) (C y) _ (hI x) (hI y)
  have sz : (Array.range n).size=n:=by simp
  have hH : HoldsK (fun i=>[D i,.int .i64 (C i)]) 2 w g 0 (Array.range n):=fun j hj=>by
   rw [size_flatK,sz] at hj
   rw [get_flatK _ _ _ _ (by rw [sz];exact hj),Nat.zero_add]
   have hj2 : j / 2 < n:=by omega
   have e : (Array.range n)[j / 2]! = j / 2:=by rw [getElem!_pos _ _ (by simpa using hj2)];simp
   rw [e]
   refine ⟨?_,g1.frozen j⟩
   have hm : j % 2=0 ∨ j % 2=1:=by omega
   rcases hm with hm | hm
   ·have:=g1.cell (i:=j / 2) (j:=0) (by omega) (by omega)
    rw [show j / 2 * 2+0=j by omega] at this
    rw [this,hm,hD]
    simp [hj2,clF]
   ·have:=g1.cell (i:=j / 2) (j:=1) (by omega) (by omega)
    rw [show j / 2 * 2+1=j by omega] at this
    rw [this,hm,hC]
    simp [hj2,clF]
  have hcon:=AnyQ.slices_SortFunc Tryz.sortC 2 (by intro w;exact Tryz.isAgg42 w) (by intro w;exact Tryz.sizeOf42 w) (fun i=>[D i,.int .i64 (C i)]) (fun _=>rfl) (fun x v hv=>by
   simp only [List.mem_cons,List.not_mem_nil,or_false] at hv
   rcases hv with rfl | rfl
   ·obtain ⟨p,k,m,e⟩:=hDs x
    rw [e];rfl
   ·rfl) (fun i j=>cmpB (R i) (R j)) (swo_cls R) 111 #[] g 0 cap (Array.range n) w enter hcmp hH hg3 (by rw [sz];omega)
  change Calls Tryz.prog 110 _ _ _ at hcon
  rw [sz] at hcon
  rw [← hN]
  refine hcon.mono ?_
  rintro e w' ⟨rfl,d',m,os,hp1,hs1,hw'⟩
  have hw2 : w'=sortWorld id w g 0 m (flatK (fun i=>[D i,.int .i64 (C i)]) 2 d') os:=hw'
  clear hw'
  subst hw2
  have hds : d'.size=n:=by simpa using hp1.1
  have hperm : d'.toList.Perm (List.range n):=by
   have h1:=hp1.2.2
   have e1 : d'.extract 0 n=d':=by rw [← hds];simp
   have e2 : (Array.range n).extract 0 n=Array.range n:=by
    have:=Array.extract_size (xs:=Array.range n)
    rwa [Array.size_range] at this
   rw [e1,e2] at h1
   simpa using h1
  have hat : ∀ i (hi : i < n),d'[i]! = d'.toList[i]'(by simpa [hds] using hi):=fun i hi=>by
   rw [getElem!_pos d' i (by omega)];simp
  have hlt : ∀ i,i < n→d'[i]! < n:=fun i hi=>by
   have : d'[i]! ∈ d'.toList:=by rw [hat i hi];exact List.getElem_mem _
   simpa using hperm.mem_iff.1 this
  have hl : (d'.toList.map fun i=>cs.getD i clD).length=n:=by simp [hds]
  have hgd : ∀ i,i < n→(d'.toList.map fun i=>cs.getD i clD).getD i clD=cs.getD d'[i]! clD:=fun i hi=>by
   rw [List.getD_eq_getElem?_getD,List.getElem?_map,hat i hi,List.getElem?_eq_getElem (by simpa [hds] using hi)]
   rfl
  have hcs : (d'.toList.map fun i=>cs.getD i clD)=srtC cs:=by
   refine srtC_eq hnd ?_ ?_
   ·refine (hperm.map _).trans (List.Perm.of_eq ?_)
    apply List.ext_getElem?
    intro i
    rw [List.getElem?_map]
    by_cases hi : i < n
    ·rw [List.getElem?_range hi,Option.map_some,List.getD_eq_getElem?_getD,List.getElem?_eq_getElem (by omega)];rfl
    ·rw [List.getElem?_eq_none (by simp;omega),List.getElem?_eq_none (by omega)];rfl
   ·rw [List.pairwise_iff_getElem]
    intro i j hi hj hij
    have hi' : i < n:=by omega
    have hj' : j < n:=by omega
    have h1:=hs1 i j (Nat.zero_le _) hij hj'
    simp only [ltOf,cmpB_neg,hR,hlt i hi',hlt j hj',if_true] at h1
    rw [List.getElem_map,List.getElem_map,← hat i hi',← hat j hj']
    exact h1
  rw [← hcs]
  have hfr : Frm lo hi w (sortWorld id w g 0 m (flatK (fun i=>[D i,.int .i64 (C i)]) 2 d') os) :=
   ⟨rfl,rfl,rfl,swd_size _ _ _ _ _ _,fun k hk ho=>swd_other id hk (by omega) m _ os⟩
  have hnod : d'.toList.Nodup:=hperm.nodup_iff.2 List.nodup_range
  have hneq : ∀ i j,i < j→j < n→d'[i]! ≠ d'[j]!:=fun i j hij hj=>by
   rw [hat i (by omega),hat j hj]
   exact (List.pairwise_iff_getElem.1 hnod) i j _ _ hij
  refine ⟨rfl,⟨fun i=>F d'[i]!,?_,fun i hi=> ?_,fun i j hij hj k hk=> ?_⟩,hfr⟩
  ·have hflat : ∀ t,t < n * 2→(putCells id 0 (flatK (fun i=>[D i,.int .i64 (C i)]) 2 d') cur)[t]?=some (clF (d'.toList.map fun i=>cs.getD i clD) (fun i=>F d'[i]!) (t / 2) (t % 2)):=fun t ht=>by
    have htc : t < cur.size:=by omega
    simp only [putCells,Array.getElem?_mapIdx,Array.getElem?_eq_getElem htc,Option.map_some,Nat.zero_le,true_and,Nat.zero_add,Nat.sub_zero,size_flatK,hds,ht,if_true,id]
    rw [get_flatK _ _ _ _ (by rw [hds];exact ht)]
    have ht2 : t / 2 < n:=by omega
    have hm : t % 2=0 ∨ t % 2=1:=by omega
    congr 1
    rcases hm with hm | hm
    ·rw [hm,hD];simp [clF,hlt _ ht2]
    ·rw [hm,hC];simp only [clF];rw [hgd _ ht2];simp [hlt _ ht2]
   rw [hl]
   refine ⟨((putCells id 0 (flatK (fun i=>[D i,.int .i64 (C i)]) 2 d') cur).toList.take (n * 2)),⟨⟨?_,.inr ⟨g,cap,_,rfl,hg1,swd_at id hgc m _ os,by omega,hcm,?_,rfl⟩⟩,fun k hk=> ?_⟩,fun i hi j hj=> ?_⟩
   ·rw [List.length_take];simp [putCells,hsz];omega
   ·simp [putCells,hsz]
   ·simp [Value.ownBlock] at hk;omega
   ·have ht : i * 2+j < n * 2:=by omega
    rw [List.getElem?_take,if_pos ht,Array.getElem?_toList,hflat _ ht,show (i * 2+j) / 2=i by omega,show (i * 2+j) % 2=j by omega]
  ·rw [hl] at hi
   rw [hgd i hi]
   refine ⟨ownsRow_of_block (g2 _ (by have:=hlt i hi;omega)).1 fun k hk=> ?_,(g2 _ (by have:=hlt i hi;omega)).2⟩
   exact swd_other id (hnb _ (hlt i hi) k hk).2 (hnb _ (hlt i hi) k hk).1 m _ os
  ·rw [hl] at hj
   have h1:=hneq i j hij hj
   intro hk2
   rcases Nat.lt_or_gt_of_ne h1 with h2 | h2
   ·exact g3 _ _ h2 (by have:=hlt j hj;omega) k hk hk2
   ·exact g3 _ _ h2 (by have:=hlt i (by omega);omega) k hk2 hk
theorem sortClasses_any (v : Value) (cs : List Cls) (lo hi : Nat) (w : World) (h : OwnCd w lo hi v cs) (hn : cs.length≤1000) (hnd : (cs.map (·.1)).Nodup) :
 Calls Tryz.prog 70 #[v] w fun e w'=>e=.returned (.tuple #[])∧OwnCd w' lo hi v (srtC cs)∧Frm lo hi w w':=by
 have Hi:=Lib.hid (sortFC_any v cs lo hi w h hn hnd)
 obtain ⟨p,cap,rfl,_,_⟩:=h.shape
 clear h hn hnd
 go_enter Tryz.func70,Tryz.ntmps70
 go_wp2_with fail
 refine Hi.out.mono ?_
 rintro e w1 ⟨rfl,ho,hf⟩
 have Ho:=Lib.hid ho
 have Hf:=Lib.hid hf
 clear ho hf
 go_wp2_with fail
 go_end0
 exact ⟨rfl,Ho.out,Hf.out⟩
end
section
open Go.RowKit Go.Maps Go.WideMaps Go.WideElems Go.MapKept Go.ChangeMaps Go.ChangeShapes
theorem ownMp_below {w w' : World} {b n : Nat} {D : DU} (h : OwnMp w b n D) (hb : Below w.heap.size w w') : OwnMp w' b n D:=by
 have hlt:=h.lt
 obtain ⟨es,clock,hb',F,hs,hD⟩:=h
 exact ⟨es,clock,(hb.block b hlt).trans hb',F,hs,hD⟩
theorem size_pos {D : DU} (ht : Tidy D) {k : Lit} (h : has D k=true) : 0 < Maps.size D:=by
 obtain ⟨es,rfl,_⟩:=ht
 obtain ⟨p,hp,_⟩:=List.any_eq_true.1 h
 show 0 < es.length
 exact List.length_pos_of_mem hp
structure StpIs9 (P : Pl) (w : List Int) (c : Int) (e : List Int) : Prop where
 k7 : K7 24 e
 co : ∀ x,-1000000≤cfP P x∧cfP P x≤1000000
 at_ : cfP P e=c
 ne : c ≠ 0
 min : ∀ x,K7 24 x→cfP P x ≠ 0→x=e ∨ ltT e x=true
 poB : poB e=true
 per : permOk (poO e 7)=true
 trim : trimL (poO e 7)=w
 wok : permOk w=true
 wtr : trimL w=w
 w1 : 1≤w.length
 w7 : w.length≤7
 low : lowOk 17 w=true
theorem stp_is9 {P : Pl} {w : List Int} {c : Int} (h : stpC P w c=true) : ∃ e,StpIs9 P w c e:=by
 match P,h with
 | t :: P',h =>
   unfold stpC at h
   simp only [Bool.and_eq_true,decide_eq_true_eq] at h
   obtain ⟨⟨⟨⟨⟨⟨⟨⟨⟨⟨⟨⟨⟨a1,a2⟩,a3⟩,a4⟩,a5⟩,a6⟩,a7⟩,a8⟩,a9⟩,b1⟩,b2⟩,b3⟩,b4⟩,b5⟩:=h
   have hne : ∀ s ∈ P',s.1 ≠ t.1:=fun s hs e=>by
    have:=List.all_eq_true.1 a3 s hs
    rw [e,ltT_irrefl] at this
    cases this
   have hcf : cfP (t :: P') t.1=c:=by
    have h1 : cfP (t :: P') t.1=t.2 * ind t.1 t.1+cfP P' t.1:=Ev_cons t P' _
    rw [h1,cf_none hne]
    unfold ind
    rw [if_pos rfl,a4]
    omega
   refine ⟨t.1,⟨a1,fun x hx=> ?_⟩,fun x=> ?_,hcf,a5,fun x _ hx=> ?_,a7,a8,a9,b1,b2,b3,b4,b5⟩
   ·have:=List.all_eq_true.1 a2 x hx
    simpa using this
   ·have:=cf_l1 x (t :: P')
    omega
   ·by_cases e : x=t.1
    ·exact .inl e
    ·right
     by_cases hm : ∃ s ∈ P',s.1=x
     ·obtain ⟨s,hs,rfl⟩:=hm
      exact List.all_eq_true.1 a3 s hs
     ·exact absurd (cf_none (P:=t :: P') (e:=x) fun s hs e2=>by
       rcases List.mem_cons.1 hs with rfl | hs
       ·exact e e2.symm
       ·exact hm ⟨s,hs,e2⟩) hx
theorem map_ne {w : World} {b n m size lo hi : Nat} {D : DU} {T : TypeId} {v : Value} {F : Nat→Nat→Value} (h : OwnMp w b n D) (g : OwnS w lo hi T size v m F) : some b ≠ v.ownBlock:=fun e=>by
 obtain ⟨c,fz,hc⟩:=g.kind b e.symm
 obtain ⟨es,clock,hb',_⟩:=h
 rw [hc] at hb'
 cases hb'
theorem ExpandPoly9_any (v : Value) (ts : List Cls) (P0 : Pl) (L : List Cls) (w : World) (h : RdCl w v ts) (hok : TsOk ts) (hev : ∀ g,Ev ts g=Ev P0 g) (hx : exdC P0 L=true) (hcl : clsOk (srtC L)=true) (hl : L.length≤40) (hnd : (L.map (·.1)).Nodup) :
 Calls Tryz.prog 37 #[v] w fun e w'=> ∃ u,e=.returned (.tuple #[u,.bool true])∧OwnCl w' w.heap.size w'.heap.size u (srtC L)∧Below w.heap.size w w':=by
 have Hh:=Lib.hid h
 have Hok:=Lib.hid hok
 have Hev:=Lib.hid hev
 have Hx:=Lib.hid hx
 have Hcl:=Lib.hid hcl
 have Hnd:=Lib.hid hnd
 have h6:=hok.1
 obtain ⟨f,⟨p,cap,rfl,_⟩,_⟩:=h
 clear hok hev hx hcl hnd
 go_enter Tryz.func37,Tryz.ntmps37
 go_wp2_with fail
 refine (PolyOk_yes _ ts _ Hh.out Hok.out).mono ?_
 rintro e w1 ⟨rfl,hb1⟩
 have Hb1:=Lib.hid hb1
 clear hb1
 go_wp2_with fail
 refine (open_any _ ts _ (Hh.out.below Hb1.out) Hok.out).mono ?_
 rintro e w2 ⟨u2,rfl,hp2,hb2⟩
 have Hp2:=Lib.hid (hp2.alt (Q:=P0) fun g=>Cg.of _ _ (Hev.out g))
 obtain ⟨b2,D2,rfl,_,_⟩:=hp2
 have Hb2:=Lib.hid (Hb1.out.trans (hb2.mono Hb1.out.size))
 have hs2:=Hb2.out.size
 clear hb2
 go_wp2_with fail
 go_loopg [4,5,6,7,8] L.length (fun g s4 s5 s6 s7 s8 wr=> ∃ (P : Pl) (done Lr : List Cls) (nf : Nat),Hid (done ++ Lr=L)∧g=Lr.length∧Hid (exdC P Lr=true)∧Hid (PolV wr s4 24 nf P)∧nf≤600+done.length * 16926659444736∧done.length+Lr.length≤40∧Hid (OwnCd wr w2.heap.size wr.heap.size s5 done)∧Hid (Below w.heap.size w wr)∧w2.heap.size≤wr.heap.size)
 case atStart=>exact ⟨P0,[],L,ts.length,rfl,rfl,Hx.out,Hp2.out.below (below_alloc w2 _),by simpa using h6,by simpa using hl,(OwnCd.made0 w2).mono (Nat.le_refl _) (by rw [size_alloc];exact Nat.le_refl _),Hb2.out.trans ((below_alloc w2 _).mono hs2),by rw [size_alloc];omega⟩
 case round =>
  obtain ⟨P,done,Lr,nf,hL,rfl,hxd,hP,hnf,hlen,hO,hb,hsz⟩:=hrel
  obtain ⟨wo,rfl⟩ : ∃ x : World,x=wr:=⟨_,rfl⟩
  have HL:=Lib.hid hL.out
  have HO:=Lib.hid hO.out
  have Hb:=Lib.hid hb.out
  obtain ⟨bf,D,rfl,hf1,hf2⟩:=hP.out
  have HF1:=Lib.hid hf1
  have HF2:=Lib.hid hf2
  have hxd':=hxd.out
  obtain ⟨p5,k5,e5,_,_⟩:=HO.out.shape
  subst e5
  match Lr,hxd' with
  | [],hxd' =>
    have hP0 : P=[]:=by
     unfold exdC at hxd'
     simpa using hxd'
    have hD0 : Maps.size D=0:=by
     have:=size_le hf1 hf2 (by omega) (fun e=>by rw [hP0];show (-1000000 : Int)≤0∧(0 : Int)≤1000000;omega) (S:=[]) (fun e _ he=>by rw [hP0] at he;exact absurd rfl he)
     simpa using this
    have hdone : done=L:=by have:=HL.out;rw [List.append_nil] at this;exact this
    subst hdone
    have HSo:=Lib.hid (fun (wx : World) (hb : Below wo.heap.size wo wx)=>sortClasses_any (.slice p5 done.length k5) done w2.heap.size wo.heap.size wx (HO.out.below hb) (by omega) Hnd.out)
    clear hxd hxd' hP0 hf1 hf2 hb hL hO hP
    go_wp2_with (first
     | (at_len;refine wpList_len_own _ rfl _ 105 rfl 109 3 und41 _ bf nf _ rfl HF1.out ?_)
     | fail)
    refine (HSo.out _ (Below.refl _ _)).mono ?_
    rintro e w3 ⟨rfl,ho3,hf3⟩
    have Ho3:=Lib.hid ho3
    have Hb3:=Lib.hid (Hb.out.trans (hf3.below (by omega) (by have:=Hb.out.size;omega)))
    have hs3f:=hf3.size
    have hlen3 : (srtC done).length=done.length:=(srtC_perm done).length_eq
    have HC:=Lib.hid (implClassesOk_any _ (srtC done) w3 ho3.rd)
    clear ho3 hf3
    rw [Hcl.out] at HC
    go_wp2_with fail
    refine HC.out.mono ?_
    rintro e w4 ⟨rfl,hb4⟩
    have Hr4:=Lib.hid ((OwnCl.below (OwnCd.cl Ho3.out) hb4).mono (show w.heap.size≤w2.heap.size by omega) (show wo.heap.size≤w4.heap.size by have:=hb4.size;omega))
    have Hb4:=Lib.hid (Hb3.out.trans (hb4.mono Hb3.out.size))
    clear hb4
    go_wp2_with fail
    go_ret2
    exact ⟨_,rfl,Hr4.out,Hb4.out⟩
  | (xw,xc) :: Lr',hxd' =>
    unfold exdC at hxd'
    rw [Bool.and_eq_true] at hxd'
    obtain ⟨e0,hS⟩:=stp_is9 hxd'.1
    have HNext:=Lib.hid hxd'.2
    have HS:=Lib.hid hS
    have hc0 : cfP P e0 ≠ 0:=by rw [hS.at_];exact hS.ne
    have hhas:=has_of_cf hf1 hf2 (by omega) hS.co hS.k7 hc0
    have hpos : (0 : Int) < (Maps.size D : Int):=by have:=size_pos hf2.tidy hhas;omega
    have Hhas:=Lib.hid hhas
    have HFi:=Lib.hid (first_any (.map (some bf)) 24 nf P e0 wo hP.out (by omega) hS.co hS.k7 hc0 hS.min)
    have HPw:=Lib.hid hP.out
    obtain ⟨t0,t1,t2,t3,t4,t5,t6,hts⟩:=lit7 hS.k7.1
    have Hts:=Lib.hid hts
    rw [hts,kv7] at HFi
    have Hlen:=Lib.hid hlen
    clear hxd hxd' hf1 hf2 hb hL hO hP hS hc0 hhas hts
    go_wp2_with (first
     | (at_len;refine wpList_len_own _ rfl _ 105 rfl 109 3 und41 _ bf nf _ rfl HF1.out ?_)
     | fail)
    refine HFi.out.mono ?_
    rintro e w3 ⟨rfl,hb3⟩
    obtain ⟨W,hW⟩ : ∃ W,W=w3.alloc (.cells #[.int .i64 t0,.int .i64 t1,.int .i64 t2,.int .i64 t3,.int .i64 t4,.int .i64 t5,.int .i64 t6] 109):=⟨_,rfl⟩
    have hzW : W.heap[w3.heap.size]?=some (.cells #[.int .i64 t0,.int .i64 t1,.int .i64 t2,.int .i64 t3,.int .i64 t4,.int .i64 t5,.int .i64 t6] 109 (0,0)):=by rw [hW];exact heap_alloc_top _ _
    have hbW : Below wo.heap.size wo W:=by rw [hW];exact hb3.trans ((below_alloc w3 _).mono hb3.size)
    have HzW:=Lib.hid hzW
    have HbW:=Lib.hid hbW
    have HW:=Lib.hid hW
    have HPo:=Lib.hid (PermOfCode_any (.slice (some ⟨w3.heap.size,0,none⟩) 7 7) e0 W (by rw [Hts.out];exact ArT.ints (T:=109) (a:=[t0,t1,t2,t3,t4,t5,t6]) hzW rfl) (by rw [HS.out.k7.1];omega) (by rw [HS.out.k7.1];omega) HS.out.poB)
    rw [HS.out.k7.1] at HPo
    have hx0:=cell_of_blk hzW (j:=0) rfl
    clear hzW hbW hW hb3 hpos
    go_wp2_with fail
    rw [← HW.out]
    refine HPo.out.mono ?_
    rintro e w4 ⟨u4,rfl,ho4,hb4⟩
    have HTr:=Lib.hid (implTrim_yes u4 (poO e0 7) w4 ho4.ints HS.out.per)
    have Hb4:=Lib.hid (HbW.out.trans (hb4.mono HbW.out.size))
    obtain ⟨p4,k4,e4,_,_⟩:=ho4.shape
    subst e4
    have hs4:=Hb4.out.size
    clear ho4
    go_wp2_with fail
    refine HTr.out.mono ?_
    rw [HS.out.trim]
    rintro e w5 ⟨u5,rfl,ho5,hb5⟩
    have Hb5:=Lib.hid (Hb4.out.trans (hb5.mono hs4))
    have HxI:=Lib.hid (ho5.mono hs4 (Nat.le_refl _))
    have hn5:=HS.out.w1
    obtain ⟨pu,ku,eu,hku,hkm⟩:=ho5.shape
    subst eu
    obtain ⟨gu,egu,_,_,_⟩:=ho5.fn.at_ hn5
    subst egu
    have hs5:=Hb5.out.size
    have hz5:=blk_later (blk_later HzW.out hb4) hb5
    obtain ⟨y0,y1,y2,y3,y4,y5,y6,_,_⟩:=blk7 hz5
    have keq:=Lib.run_eql_slice_nil (P:=Tryz.prog) w5 24 3 (some ⟨gu,0,none⟩) xw.length ku 0 0 Tryz.underlying24
    have Hlen':=Hlen.out
    have hd1 : ((done.length : Int) == 100)=false:=by rw [beq_eq_false_iff_ne];rw [List.length_cons] at Hlen';omega
    have hd2 : ¬ (done.length : Int)=100:=by rw [List.length_cons] at Hlen';omega
    have HF5:=Lib.hid (ownMp_below HF1.out Hb5.out)
    have Hkey:=Lib.hid (show keyOf Tryz.prog 109 (.agg #[.int .i64 t0,.int .i64 t1,.int .i64 t2,.int .i64 t3,.int .i64 t4,.int .i64 t5,.int .i64 t6])=some (kl e0) by
     rw [← kv7,← Hts.out]
     exact keyOf_kv HS.out.k7 (by omega))
    have HCc:=Lib.hid (show ∀ c,D.atKey (kl e0) (.lit (.int .i64 0))=.lit (.int .i64 c)→c=xc from fun c hat=>by
     rw [(at_cf HF1.out HF2.out (by omega) HS.out.co HS.out.k7 Hhas.out hat).1]
     exact HS.out.at_)
    obtain ⟨fd,g1,g2,g3⟩:=HO.out.below Hb5.out
    obtain ⟨nu,hnu⟩ : ∃ nu,nu=xw.length:=⟨_,rfl⟩
    obtain ⟨oC,hoC⟩ : ∃ o : Obj,o=.cells #[.slice (some ⟨gu,0,none⟩) nu ku,.int .i64 xc] 42:=⟨_,rfl⟩
    have hal:=below_alloc w5 oC
    have g1a:=Lib.hid (g1.below hal)
    have g2a:=Lib.hid (show ∀ i,i < done.length→OwnI 3 (w5.alloc oC) w2.heap.size wo.heap.size (fd i) (done.getD i clD).1 from fun i hi=>(g2 i hi).below hal)
    have G3:=Lib.hid g3
    have Hxt:=Lib.hid (HxI.out.below hal)
    have HFa:=Lib.hid (HF5.out.alloc oC)
    have Hcl2:=Lib.hid (show ∀ j,j < 2→(w5.alloc oC).cell? ⟨w5.heap.size,j,none⟩=some (match j with | 0=>.slice (some ⟨gu,0,none⟩) nu ku | _=>.int .i64 xc) from fun j hj=>by
     rw [hoC]
     exact match j,hj with
     | 0,_=>cell_of_blk (heap_alloc_top w5 _) (j:=0) rfl
     | 1,_=>cell_of_blk (heap_alloc_top w5 _) (j:=1) rfl)
    have Hone:=Lib.hid (show ∀ j,j < 2→(match j with | 0=>Value.slice (some ⟨gu,0,none⟩) nu ku | _=>.int .i64 xc).oneCell'=true from fun j hj =>
     match j,hj with
     | 0,_=>rfl
     | 1,_=>rfl)
    have Hn1:=Lib.hid (show done.length+1≤maxLen by unfold maxLen;rw [List.length_cons] at Hlen';omega)
    have Hn2:=Lib.hid (show (done.length+1) * 32≤140737488355328 by rw [List.length_cons] at Hlen';omega)
    have Hlo:=Lib.hid (show w2.heap.size≤(w5.alloc oC).heap.size by rw [size_alloc];omega)
    have hco:=HS.out.co e0
    rw [HS.out.at_] at hco
    have hng : IntKind.i64.wrap (-xc) = -xc:=k64 (by omega) (by omega)
    have hng2 : wrap64 (-xc) = -xc:=w64 (by omega) (by omega)
    have Hnu:=Lib.hid hnu
    have Hal:=Lib.hid hal
    have HoC:=Lib.hid hoC
    rw [← hnu] at hku hn5 ⊢
    rw [← hnu] at keq
    unfold maxLen at hkm
    rw [hoC] at g1a Hlo Hcl2
    clear g1 g2 g3 ho5 hb5 hz5 hal hnu hoC hco hb4 Hlen' hx0
    go_wp2_with (first
     | (at_lookup;refine wpList_lookup_own_int _ rfl _ _ 105 rfl 109 3 .i64 klaw und41 undI (zeroI _) bf nf D rfl HF5.out _ _ rfl Hkey.out ?_;intro c hat hwf;obtain rfl:=HCc.out c hat)
     | (at_builtin;go_must (refine wpList_append_S rfl (.tmp 33) (.tmp 37) 37 rfl 42 _ 2 32 Tryz.underlying37 info_cls rfl (by omega) w2.heap.size wo.heap.size _ done.length (clF done fd) rfl g1a.out Hlo.out _ _ _ rfl Hcl2.out Hone.out Hn1.out Hn2.out ?_;intro v6 w6 hv hg))
     | fail)
    have hxt:=Hxt.out
    have hal:=Hal.out
    have hFa:=HFa.out
    have hg2a:=g2a.out
    rw [HoC.out] at hxt hal hFa hg2a
    have hx6 : OwnI 3 w6 wo.heap.size w5.heap.size (.slice (some ⟨gu,0,none⟩) xw.length ku) xw :=
     ⟨ownsRow_of_block hxt.1 fun k hk=>hg.block k (Own.block hxt hk).2.2 fun e=>ne_of_kinds (g1a.out.kind k e.symm) (OwnI.kind hxt k hk) (by decide),hxt.2⟩
    have hF6 : OwnMp w6 bf nf D:=hFa.kept hg (map_ne hFa g1a.out)
    have hO6 : OwnCd w6 w2.heap.size w6.heap.size v6 (done ++ [(xw,c)]):=by
     rw [← Hnu.out] at hxt
     exact OwnCd.snoc (m:=(xw,c)) g1a.out hg2a G3.out hxt (by omega) hs5 hg (Nat.le_trans hal.size hg.size) hv
    have hgb:=grownBy_below hg g1a.out.blocks (Nat.le_refl _) Hlo.out
    have hb6 : Below w.heap.size w w6:=((Hb.out.trans (Hb5.out.mono Hb.out.size)).trans (hal.mono (by have:=Hb.out.size;omega))).trans (hgb.mono hs2)
    have hsz6 : w2.heap.size≤w6.heap.size:=Nat.le_trans Hlo.out hg.size
    rw [← Hnu.out] at hx6
    have HSc:=Lib.hid (schub9_any _ xw w6 hx6.ints HS.out.wok (by rw [HS.out.wtr];exact HS.out.w1) (by rw [HS.out.wtr];exact HS.out.w7) (by rw [HS.out.wtr];exact HS.out.low))
    have HF6:=Lib.hid hF6
    have HO6:=Lib.hid hO6
    have Hb6:=Lib.hid hb6
    obtain ⟨pv,lv,kv',rfl⟩ : ∃ p l k,v6=.slice p l k:=by obtain ⟨p,k,e,_⟩:=hO6.shape;exact ⟨_,_,_,e⟩
    clear hxt hal hFa hg2a hx6 hF6 hO6 hgb hb6 hg hv keq y0 y1 y2 y3 y4 y5 y6 hat hwf
    refine HSc.out.mono ?_
    rintro e w7 ⟨u7,rfl,hp7,hb7⟩
    have Hp7:=Lib.hid (hp7.mono (show 6≤24 by omega) (Nat.le_refl _))
    obtain ⟨b7,D7,rfl,_,_⟩:=hp7
    have Hb7:=Lib.hid (Hb6.out.trans (hb7.mono Hb6.out.size))
    have HF7:=Lib.hid (show PolV w7 (.map (some bf)) 24 nf P from ⟨bf,D,rfl,ownMp_below HF6.out hb7,HF2.out⟩)
    have HO7:=Lib.hid ((HO6.out.below hb7).mono (Nat.le_refl _) hb7.size)
    have hs7:=hb7.size
    have hnn : nf+16926659444736 < 1000000000000000:=by
     have hq:=Hlen.out
     rw [List.length_cons] at hq
     omega
    clear hb7
    go_wp2_with fail
    refine (plus_any _ _ (-c) 24 nf 16926659444736 P (schP9 xw) w7 HF7.out Hp7.out (by omega) hnn).mono ?_
    rintro e w8 ⟨u8,rfl,hp8,hb8⟩
    have Hp8:=Lib.hid (hp8.alt (Q:=subN P c (symS9 xw)) fun g=>Cg.of _ _ (by rw [Ev_subN,Ev_append,Ev_append,Ev_scl,Ev_scl,symS9_eq]))
    obtain ⟨b8,D8,rfl,_,_⟩:=hp8
    have Hb8:=Lib.hid (Hb7.out.trans (hb8.mono Hb7.out.size))
    have HO8:=Lib.hid ((HO7.out.below hb8).mono (Nat.le_refl _) hb8.size)
    have hs8:=hb8.size
    clear hb8
    go_wp2_with fail
    go_roundg (Lr'.length)
    case measure=>rw [List.length_cons];omega
    case rel =>
     refine ⟨subN P c (symS9 xw),done ++ [(xw,c)],Lr',nf+16926659444736,?_,rfl,HNext.out,Hp8.out,?_,?_,HO8.out,Hb8.out,by omega⟩
     ·show (done ++ [(xw,c)]) ++ Lr'=L
      rw [List.append_assoc]
      exact HL.out
     ·rw [List.length_append]
      show nf+16926659444736≤600+(done.length+1) * 16926659444736
      omega
     ·have hq:=Hlen.out
      rw [List.length_cons] at hq
      rw [List.length_append]
      show done.length+1+Lr'.length≤40
      omega
theorem Ev_mul_congr {P P' Q Q' : Pl} (hP : ∀ g,Ev P g=Ev P' g) (hQ : ∀ g,Ev Q g=Ev Q' g) (g : List Int→Int) : Ev (mulP P Q) g=Ev (mulP P' Q') g:=by
 rw [Ev_mulP,Ev_mulP,hP]
 congr 1
 funext a
 exact hQ _
theorem mem_of_cf {P : Pl} {e : List Int} (h : cfP P e ≠ 0) : e ∈ P.map (·.1):=by
 by_cases hm : e ∈ P.map (·.1)
 ·exact hm
 ·exact absurd (cf_none fun t ht e2=>hm (List.mem_map.2 ⟨t,ht,e2⟩)) h
theorem ts_in {ts : List Cls} (hok : TsOk ts) {P : Pl} (h : ∀ g,Ev ts g=Ev P g) {t : Cls} (ht : t ∈ ts) : t.1 ∈ P.map (·.1):=by
 refine mem_of_cf ?_
 have hn : (ts.map (·.1)).Nodup:=List.pairwise_map.2 (hok.2.2.imp fun {a b} hab e=>by
  rw [e,ltT_irrefl] at hab
  cases hab)
 have e1 : cfP P t.1=cfP ts t.1:=(h _).symm
 rw [e1,cf_one hn ht]
 exact (hok.2.1 t ht).2.2.1
theorem MulPolys9_any (v1 v2 : Value) (t1 t2 : List Cls) (P1 P2 : Pl) (w : World) (h1 : RdCl w v1 t1) (h2 : RdCl w v2 t2) (ok1 : TsOk t1) (ok2 : TsOk t2) (e1 : ∀ g,Ev t1 g=Ev P1 g) (e2 : ∀ g,Ev t2 g=Ev P2 g)
 (l1 : P1.length≤24) (l2 : P2.length≤24) (k1 : ∀ t ∈ P1,K7 6 t.1) (k2 : ∀ t ∈ P2,K7 6 t.1) (hco : ∀ e,-1000000≤cfP (mulP P1 P2) e∧cfP (mulP P1 P2) e≤1000000) :
 Calls Tryz.prog 36 #[v1,v2] w fun e w'=> ∃ u ts,e=.returned (.tuple #[u,.bool true])∧RdCl w' u ts∧TsOk ts∧(∀ g,Ev ts g=Ev (mulP P1 P2) g)∧Below w.heap.size w w':=by
 have kd1 : ∀ t ∈ t1,K7 6 t.1:=fun t ht=>by
  obtain ⟨s,hs,e⟩:=List.mem_map.1 (ts_in ok1 e1 ht)
  rw [← e];exact k1 s hs
 have kd2 : ∀ t ∈ t2,K7 6 t.1:=fun t ht=>by
  obtain ⟨s,hs,e⟩:=List.mem_map.1 (ts_in ok2 e2 ht)
  rw [← e];exact k2 s hs
 have hS : ∀ e,K7 12 e→cfP (mulP P1 P2) e ≠ 0→e ∈ (mulP P1 P2).map (·.1):=fun e _ he=>mem_of_cf he
 have hSl : ((mulP P1 P2).map (·.1)).length≤600:=by
  have hlen : ∀ (Q P : Pl),(mulP P Q).length=P.length * Q.length:=fun Q P=>by
   induction P with
   | nil=>simp [mulP]
   | cons p P ih =>
     show ((Q.map fun q=>(addE p.1 q.1,p.2 * q.2)) ++ mulP P Q).length=_
     rw [List.length_append,ih,List.length_map,List.length_cons,Nat.add_mul]
     omega
  rw [List.length_map,hlen]
  have:=Nat.mul_le_mul l1 l2
  omega
 have H1:=Lib.hid h1
 have H2:=Lib.hid h2
 have O1:=Lib.hid ok1
 have O2:=Lib.hid ok2
 have K1:=Lib.hid kd1
 have K2:=Lib.hid kd2
 have E12:=Lib.hid (Ev_mul_congr e1 e2)
 have Hco:=Lib.hid hco
 have HS:=Lib.hid hS
 have HSl:=Lib.hid hSl
 have hl1:=ok1.1
 have hl2:=ok2.1
 obtain ⟨f1,⟨p1,c1,rfl,_⟩,_⟩:=h1
 obtain ⟨f2,⟨p2,c2,rfl,_⟩,_⟩:=h2
 clear ok1 ok2 e1 e2 k1 k2 hco kd1 kd2 hS hSl
 go_enter Tryz.func36,Tryz.ntmps36
 go_wp2_with fail
 refine (PolyOk_yes _ t1 _ H1.out O1.out).mono ?_
 rintro e w1 ⟨rfl,hb1⟩
 have Hb1:=Lib.hid hb1
 clear hb1
 go_wp2_with fail
 refine (PolyOk_yes _ t2 _ (H2.out.below Hb1.out) O2.out).mono ?_
 rintro e w2 ⟨rfl,hb2⟩
 have Hb2:=Lib.hid (below_trans Hb1.out hb2)
 clear hb2
 go_wp2_with fail
 refine (openD_any 6 _ t1 _ (H1.out.below Hb2.out) O1.out (by omega) K1.out).mono ?_
 rintro e w3 ⟨u3,rfl,hp3,hb3⟩
 have Hp3:=Lib.hid hp3
 have Hb3:=Lib.hid (below_trans Hb2.out hb3)
 obtain ⟨b3,D3,rfl,_,_⟩:=hp3
 clear hb3
 go_wp2_with fail
 refine (openD_any 6 _ t2 _ (H2.out.below Hb3.out) O2.out (by omega) K2.out).mono ?_
 rintro e w4 ⟨u4,rfl,hp4,hb4⟩
 have Hp4:=Lib.hid hp4
 have Hp3:=Lib.hid (Hp3.out.below hb4)
 have Hb4:=Lib.hid (below_trans Hb3.out hb4)
 obtain ⟨b4,D4,rfl,_,_⟩:=hp4
 clear hb4
 have hnm : t1.length * t2.length < 1000000000000000:=by
  have:=Nat.mul_le_mul hl1 hl2
  omega
 go_wp2_with fail
 refine (times_any _ _ 6 t1.length t2.length t1 t2 _ Hp3.out Hp4.out (by omega) hnm (by omega)).mono ?_
 rintro e w5 ⟨u5,rfl,hp5,hb5⟩
 have Hp5:=Lib.hid (hp5.alt (Q:=mulP P1 P2) fun g=>Cg.of _ _ (E12.out g))
 have Hb5:=Lib.hid (below_trans Hb4.out hb5)
 obtain ⟨b5,D5,rfl,_,_⟩:=hp5
 clear hb5
 go_wp2_with fail
 refine (closed_any _ 12 _ (mulP P1 P2) w5 _ Hp5.out (by omega) Hco.out HS.out HSl.out).mono ?_
 rintro e w6 ⟨u6,ts,rfl,ho6,hok6,hev6,hb6⟩
 have Hr:=Lib.hid ho6.rd
 have Hok6:=Lib.hid hok6
 have Hev6:=Lib.hid hev6
 have Hb6:=Lib.hid (below_trans Hb5.out hb6)
 obtain ⟨p6,k6,rfl,_,_⟩:=ho6.shape
 clear ho6 hok6 hev6 hb6
 go_wp2_with fail
 go_ret2
 exact ⟨_,ts,rfl,Hr.out,Hok6.out,Hev6.out,Hb6.out⟩
end
section
open Go.RowKit
theorem ts_nodup {ts : List Cls} (h : AscT ts) : (ts.map (·.1)).Nodup:=List.pairwise_map.2 (h.imp fun {a b} hab e=>by
 rw [e,ltT_irrefl] at hab
 cases hab)
theorem ts_mem {ts us : List Cls} (h1 : TsOk ts) (h2 : TsOk us) (h : ∀ g,Ev ts g=Ev us g) {t : Cls} (ht : t ∈ ts) : t ∈ us:=by
 have hin:=ts_in h1 (P:=us) h ht
 obtain ⟨s,hs,e⟩:=List.mem_map.1 hin
 have c1 : cfP ts t.1=t.2:=cf_one (ts_nodup h1.2.2) ht
 have c2 : cfP us s.1=s.2:=cf_one (ts_nodup h2.2.2) hs
 have c3 : cfP ts t.1=cfP us t.1:=h _
 rw [e,← c3,c1] at c2
 have : s=t:=Prod.ext e c2.symm
 rw [← this];exact hs
theorem asc_eq : ∀ {ts us : List Cls},AscT ts→AscT us→(∀ t,t ∈ ts ↔ t ∈ us)→ts=us
 | [],[],_,_,_=>rfl
 | [],u :: us,_,_,h=>absurd ((h u).2 (List.mem_cons_self ..)) (by simp)
 | t :: ts,[],_,_,h=>absurd ((h t).1 (List.mem_cons_self ..)) (by simp)
 | t :: ts,u :: us,h1,h2,h=>by
   have a1:=List.pairwise_cons.1 h1
   have a2:=List.pairwise_cons.1 h2
   have e : t=u:=by
    rcases List.mem_cons.1 ((h t).1 (List.mem_cons_self ..)) with e | hm
    ·exact e
    ·rcases List.mem_cons.1 ((h u).2 (List.mem_cons_self ..)) with e | hm2
     ·exact e.symm
     ·have x1:=a2.1 t hm
      have x2:=a1.1 u hm2
      have:=ltT_trans _ _ _ x1 x2
      rw [ltT_irrefl] at this
      cases this
   subst e
   have hne : ∀ {l : List Cls},(∀ s ∈ l,ltT t.1 s.1=true)→t ∉ l:=fun hl hm=>by
    have:=hl t hm
    rw [ltT_irrefl] at this
    cases this
   rw [asc_eq (ts:=ts) (us:=us) a1.2 a2.2 fun s=>⟨fun hs=>by
    rcases List.mem_cons.1 ((h s).1 (List.mem_cons_of_mem _ hs)) with e | hm
    ·rw [e] at hs;exact absurd hs (hne a1.1)
    ·exact hm,fun hs=>by
    rcases List.mem_cons.1 ((h s).2 (List.mem_cons_of_mem _ hs)) with e | hm
    ·rw [e] at hs;exact absurd hs (hne a2.1)
    ·exact hm⟩]
theorem ts_uniq {ts us : List Cls} (h1 : TsOk ts) (h2 : TsOk us) (h : ∀ g,Ev ts g=Ev us g) : ts=us :=
 asc_eq h1.2.2 h2.2.2 fun t=>⟨ts_mem h1 h2 h,ts_mem h2 h1 fun g=>(h g).symm⟩
end
section
open Go.RowKit Go.Maps Go.WideMaps Go.WideElems Go.MapKept Go.ChangeMaps Go.ChangeShapes
structure SqIs (w : List Int) : Prop where
 low : lowOk 17 (trimL w)=true
 len : (symS9 w).length≤24
 k7 : ∀ t ∈ symS9 w,K7 6 t.1
 l1 : l1S (symS9 w)≤1000000
 l2 : l1S (sqP w)≤1000000
 pos : ∀ t ∈ symS9 w,0≤t.2
 tr : permOk (trimL w)=true∧trimL (trimL w)=trimL w
 how : (∃ L,xpF 40 (sqP w)=some L∧exdC (sqP w) L=true∧clsOk (srtC L)=true∧L.length≤40∧(L.map (·.1)).Nodup ∧ ∀ x ∈ srtC L,0≤x.2) ∨ (xpF 40 (sqP w)=none∧nopB (sqP w)=true)
theorem sq_is {w : List Int} (hp : permOk w=true) (h5 : w.length≤5) : SqIs w:=by
 have h:=all5_at sq_all hp h5
 unfold sqB at h
 simp only [Bool.and_eq_true,decide_eq_true_eq,List.all_eq_true] at h
 obtain ⟨⟨⟨⟨⟨⟨⟨⟨a1,a2⟩,a3⟩,a4⟩,a5⟩,a6⟩,a7⟩,a8⟩,a9⟩:=h
 refine ⟨a1,a2,fun t ht=>⟨(a3 t ht).1,fun x hx=>by have:=(a3 t ht).2 x hx;omega⟩,a4,a5,fun t ht=>a6 t ht,⟨a7,a8⟩,?_⟩
 cases hx : xpF 40 (sqP w) with
 | none=>rw [hx] at a9;exact .inr ⟨rfl,a9⟩
 | some L =>
   rw [hx] at a9
   simp only [Bool.and_eq_true,decide_eq_true_eq,List.all_eq_true] at a9
   exact .inl ⟨L,rfl,xpF_ok _ _ _ hx,a9.1.1.1,a9.1.1.2,a9.1.2,fun x hx=>a9.2 x hx⟩
theorem perm_len1 {w : List Int} (hp : permOk w=true) : 1≤w.length:=(of_decide_eq_true hp).1
theorem l1_co {P Q : Pl} (h : ∀ g,Ev P g=Ev Q g) (hl : l1S P≤1000000) (e : List Int) : -1000000≤cfP Q e∧cfP Q e≤1000000:=by
 have h1:=cf_l1 e P
 have h2 : cfP P e=cfP Q e:=h _
 rw [h2] at h1
 omega
theorem Schub5_any (v : Value) (xs : List Int) (w : World) (h : Ints w v xs) (hp : permOk xs=true) (h5 : xs.length≤5) :
 Calls Tryz.prog 35 #[v] w fun e w'=> ∃ u,e=.returned (.tuple #[u,.bool true])∧RetTs w (symS9 xs) u w':=by
 have Hh:=Lib.hid h
 have Hp:=Lib.hid hp
 have HS:=Lib.hid (sq_is hp h5)
 have hn1:=perm_len1 HS.out.tr.1
 have hn7 : (trimL xs).length≤7:=(of_decide_eq_true HS.out.tr.1).2.1
 have HSc:=Lib.hid (fun W (hb : Below w.heap.size w W)=>schub9_any v xs W (h.below hb) hp hn1 hn7 HS.out.low)
 obtain ⟨p,cap,rfl,_,_⟩:=h
 clear hp hn1 hn7
 go_enter Tryz.func35,Tryz.ntmps35
 go_wp2_with fail
 refine (implIsPerm_any _ xs _ Hh.out).mono ?_
 rintro e w1 ⟨rfl,hb1⟩
 rw [Hp.out]
 have Hb1:=Lib.hid hb1
 clear hb1
 go_wp2_with fail
 refine (HSc.out _ Hb1.out).mono ?_
 rintro e w2 ⟨u2,rfl,hpv,hb2⟩
 have Hpv:=Lib.hid (hpv.alt (Q:=symS9 xs) fun g=>Cg.of _ _ (symS9_eq xs g).symm)
 have Hb2:=Lib.hid (Hb1.out.trans (hb2.mono Hb1.out.size))
 obtain ⟨b2,D2,rfl,_,_⟩:=hpv
 clear hb2
 go_wp2_with fail
 refine (closed_any _ 6 _ (symS9 xs) _ ((symS9 xs).map (·.1)) Hpv.out (by omega) (l1_co (fun _=>rfl) HS.out.l1) (fun e _ he=>mem_of_cf he) (by rw [List.length_map];have:=HS.out.len;omega)).mono ?_
 rintro e w3 ⟨u3,ts,rfl,ho,hok,hev,hb3⟩
 have hs:=Hb2.out.size
 have Hr:=Lib.hid (show RetTs w (symS9 xs) u3 w3 from ⟨ts,ho.mono hs (Nat.le_refl _),hok,hev,Hb2.out.trans (hb3.mono hs)⟩)
 obtain ⟨p3,k3,rfl,_,_⟩:=ho.shape
 clear ho hok hev hb3
 go_wp2_with fail
 go_ret2
 exact ⟨_,rfl,Hr.out⟩
theorem ints_nilS (w : World) (p : Option Addr) : Ints w (.slice p 0 0) []:=⟨p,0,rfl,⟨Nat.le_refl _,Nat.zero_le _⟩,fun h=>absurd h (by simp)⟩
theorem implTrim_nil (w : World) : Calls Tryz.prog 15 #[.slice none 0 0] w fun e w'=>e=.returned (.slice none 0 0)∧Below w.heap.size w w':=by
 have HP:=Lib.hid (implIsPerm_b (.slice none 0 0) [] false rfl w (ints_nilS w none))
 go_enter Tryz.func15,Tryz.ntmps15
 go_wp2_with fail
 refine HP.out.mono ?_
 rintro e w1 ⟨rfl,hb⟩
 go_wp2_with fail
 go_ret
 exact ⟨rfl,hb⟩
structure NpIs (P : Pl) (e : List Int) : Prop where
 k7 : K7 24 e
 co : ∀ x,-1000000≤cfP P x∧cfP P x≤1000000
 ne : cfP P e ≠ 0
 min : ∀ x,K7 24 x→cfP P x ≠ 0→x=e ∨ ltT e x=true
 poB : poB e=false
theorem np_is {P : Pl} (h : nopB P=true) : ∃ e,NpIs P e:=by
 match P,h with
 | t :: P',h =>
   unfold nopB at h
   simp only [Bool.and_eq_true,decide_eq_true_eq,Bool.not_eq_true'] at h
   obtain ⟨⟨⟨⟨⟨a1,a2⟩,a3⟩,a5⟩,a6⟩,a7⟩:=h
   have hne : ∀ s ∈ P',s.1 ≠ t.1:=fun s hs e=>by
    have:=List.all_eq_true.1 a3 s hs
    rw [e,ltT_irrefl] at this
    cases this
   have hcf : cfP (t :: P') t.1=t.2:=by
    have h1 : cfP (t :: P') t.1=t.2 * ind t.1 t.1+cfP P' t.1:=Ev_cons t P' _
    rw [h1,cf_none hne]
    unfold ind
    rw [if_pos rfl]
    omega
   refine ⟨t.1,⟨a1,fun x hx=> ?_⟩,fun x=> ?_,by rw [hcf];exact a5,fun x _ hx=> ?_,a7⟩
   ·have:=List.all_eq_true.1 a2 x hx
    simpa using this
   ·have:=cf_l1 x (t :: P')
    omega
   ·by_cases e : x=t.1
    ·exact .inl e
    ·right
     by_cases hm : ∃ s ∈ P',s.1=x
     ·obtain ⟨s,hs,rfl⟩:=hm
      exact List.all_eq_true.1 a3 s hs
     ·exact absurd (cf_none (P:=t :: P') (e:=x) fun s hs e2=>by
       rcases List.mem_cons.1 hs with rfl | hs
       ·exact e e2.symm
       ·exact hm ⟨s,hs,e2⟩) hx
theorem ExpandPoly_no (v : Value) (ts : List Cls) (P0 : Pl) (w : World) (h : RdCl w v ts) (hok : TsOk ts) (hev : ∀ g,Ev ts g=Ev P0 g) (hx : nopB P0=true) :
 Calls Tryz.prog 37 #[v] w fun e w'=>e=.returned (.tuple #[.slice none 0 0,.bool false])∧Below w.heap.size w w':=by
 obtain ⟨e0,hS⟩:=np_is hx
 have HS:=Lib.hid hS
 have Hh:=Lib.hid h
 have Hok:=Lib.hid hok
 have Hev:=Lib.hid hev
 have h6:=hok.1
 obtain ⟨f,⟨p,cap,rfl,_⟩,_⟩:=h
 clear hok hev hx hS
 go_enter Tryz.func37,Tryz.ntmps37
 go_wp2_with fail
 refine (PolyOk_yes _ ts _ Hh.out Hok.out).mono ?_
 rintro e w1 ⟨rfl,hb1⟩
 have Hb1:=Lib.hid hb1
 clear hb1
 go_wp2_with fail
 refine (open_any _ ts _ (Hh.out.below Hb1.out) Hok.out).mono ?_
 rintro e w2 ⟨u2,rfl,hp2,hb2⟩
 have Hp2:=Lib.hid (hp2.alt (Q:=P0) fun g=>Cg.of _ _ (Hev.out g))
 obtain ⟨b2,D2,rfl,_,_⟩:=hp2
 have Hb2:=Lib.hid (Hb1.out.trans (hb2.mono Hb1.out.size))
 have hs2:=Hb2.out.size
 clear hb2
 go_wp2_with fail
 go_loopg [4,5,6,7,8] 1 (fun g s4 s5 s6 s7 s8 wr=>g=1∧Hid (PolV wr s4 24 ts.length P0)∧Hid (Below w.heap.size w wr)∧w2.heap.size≤wr.heap.size)
 case atStart=>exact ⟨rfl,Hp2.out.below (below_alloc w2 _),Hb2.out.trans ((below_alloc w2 _).mono hs2),by rw [size_alloc];omega⟩
 case round =>
  obtain ⟨rfl,hP,hb,hsz⟩:=hrel
  obtain ⟨wo,rfl⟩ : ∃ x : World,x=wr:=⟨_,rfl⟩
  have Hb:=Lib.hid hb.out
  obtain ⟨bf,D,rfl,hf1,hf2⟩:=hP.out
  have HF1:=Lib.hid hf1
  have hhas:=has_of_cf hf1 hf2 (by omega) HS.out.co HS.out.k7 HS.out.ne
  have hpos : (0 : Int) < (Maps.size D : Int):=by have:=size_pos hf2.tidy hhas;omega
  have HFi:=Lib.hid (first_any (.map (some bf)) 24 ts.length P0 e0 wo hP.out (by omega) HS.out.co HS.out.k7 HS.out.ne HS.out.min)
  obtain ⟨t0,t1,t2,t3,t4,t5,t6,hts⟩:=lit7 HS.out.k7.1
  have Hts:=Lib.hid hts
  rw [hts,kv7] at HFi
  clear hf1 hf2 hb hP hhas hts
  go_wp2_with (first
   | (at_len;refine wpList_len_own _ rfl _ 105 rfl 109 3 und41 _ bf ts.length _ rfl HF1.out ?_)
   | fail)
  refine HFi.out.mono ?_
  rintro e w3 ⟨rfl,hb3⟩
  obtain ⟨W,hW⟩ : ∃ W,W=w3.alloc (.cells #[.int .i64 t0,.int .i64 t1,.int .i64 t2,.int .i64 t3,.int .i64 t4,.int .i64 t5,.int .i64 t6] 109):=⟨_,rfl⟩
  have hzW : W.heap[w3.heap.size]?=some (.cells #[.int .i64 t0,.int .i64 t1,.int .i64 t2,.int .i64 t3,.int .i64 t4,.int .i64 t5,.int .i64 t6] 109 (0,0)):=by rw [hW];exact heap_alloc_top _ _
  have hbW : Below wo.heap.size wo W:=by rw [hW];exact hb3.trans ((below_alloc w3 _).mono hb3.size)
  have HbW:=Lib.hid (Hb.out.trans (hbW.mono Hb.out.size))
  have HW:=Lib.hid hW
  have HPo:=Lib.hid (PermOfCode_no (.slice (some ⟨w3.heap.size,0,none⟩) 7 7) e0 W (by rw [Hts.out];exact ArT.ints (T:=109) (a:=[t0,t1,t2,t3,t4,t5,t6]) hzW rfl) (by rw [HS.out.k7.1];omega) (by rw [HS.out.k7.1];omega) HS.out.poB (fun x hx=>by have:=HS.out.k7.2 x hx;omega))
  have hx0:=cell_of_blk hzW (j:=0) rfl
  clear hzW hbW hW hb3 hpos
  go_wp2_with fail
  rw [← HW.out]
  refine HPo.out.mono ?_
  rintro e w4 ⟨rfl,hb4⟩
  have Hb4:=Lib.hid (HbW.out.trans (hb4.mono HbW.out.size))
  clear hb4
  go_wp2_with fail
  refine (implTrim_nil _).mono ?_
  rintro e w5 ⟨rfl,hb5⟩
  have Hb5:=Lib.hid (Hb4.out.trans (hb5.mono Hb4.out.size))
  have keq:=Lib.run_eql_slice_nil (P:=Tryz.prog) w5 24 3 none 0 0 0 0 Tryz.underlying24
  clear hb5
  go_wp2_with fail
  go_ret2
  exact ⟨rfl,Hb5.out⟩
end
end Go.Proofs.YtincaodpjdeoeaaGreatDoor
