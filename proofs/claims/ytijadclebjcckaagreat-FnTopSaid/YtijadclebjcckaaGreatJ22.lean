/-
  A part of the proof of FnTop (texts of one proof, joined).
-/
import Derived.Test.YtijadclebjcckaaGreatJ21
namespace Go.Proofs.YtijadclebjcckaaGreat
set_option linter.all false
set_option maxRecDepth 100000
set_option maxHeartbeats 16000000
section
open Go.RowKit Go.Maps Go.WideMaps Go.WideElems Go.MapKept Go.ChangeMaps Go.ChangeShapes
theorem has_of_cf {w : World} {b n d : Nat} {D : DU} {P : Pl} (ho : OwnMp w b n D) (h : PolM d D P) (hd : d≤1000000) (hco : ∀ e,-1000000≤cfP P e∧cfP P e≤1000000) {e : List Int} (he : K7 d e) (hc : cfP P e ≠ 0) : has D (kl e)=true:=by
 cases hh : has D (kl e) with
 | true=>rfl
 | false =>
   have hs:=h.sum (ind e)
   have h2 : SmD D (fun l=>ind e (unkl l))=0:=by
    obtain ⟨es,rfl,hpw⟩:=h.tidy
    refine SmL_zero _ fun p hp=> ?_
    have hm:=hm_of ho es rfl p hp
    have hp1 : has (.map es) p.1=true:=List.any_eq_true.2 ⟨p,hp,WideAt.sameKey_self hm⟩
    obtain ⟨e',h1,h2⟩:=h.keys _ hp1
    rw [h1,unkl_kl h2 hd]
    unfold ind
    rw [if_neg fun e3=> ?_]
    rw [h1,e3,hh] at hp1
    cases hp1
   rw [h2] at hs
   exact absurd (cg_eq hs rfl (hco e)).symm hc
def Best (d : Nat) (D : DU) (left : Lit→Bool) (fl : Bool) (best : List Int) : Prop :=
 (fl=false ∧ ∀ l,has D l=true→left l=true) ∨ (fl=true∧K7 d best∧has D (kl best)=true∧left (kl best)=false ∧ ∀ e,K7 d e→has D (kl e)=true→left (kl e)=false→e=best ∨ ltT best e=true)
theorem Best.start (d : Nat) (D : DU) : Best d D (has D) false [0,0,0,0,0,0,0]:=.inl ⟨rfl,fun _ h=>h⟩
theorem left_split {d : Nat} (hd : d≤1000000) {left : Lit→Bool} {e a : List Int} (he : K7 d e) (ha : K7 d a) (h : (left (kl e) && !(kl e).sameKey (kl a))=false) : left (kl e)=false ∨ e=a:=by
 rw [Bool.and_eq_false_iff] at h
 rcases h with h | h
 ·exact .inl h
 ·right
  have h2 : (kl e).sameKey (kl a)=true:=by simpa using h
  exact kl_inj he hd ha hd (WideAt.sameKey_eq h2)
theorem Best.same {d : Nat} {D : DU} {left : Lit→Bool} {best a : List Int} (hd : d≤1000000) (h : Best d D left true best) (ha : K7 d a) (hla : left (kl a)=true) (hn : ltT a best=false) : Best d D (fun z=>left z && !z.sameKey (kl a)) true best:=by
 rcases h with ⟨h,_⟩ | ⟨_,h1,h2,h3,h4⟩
 ·cases h
 ·refine .inr ⟨rfl,h1,h2,by simp [h3],fun e he hh hl=> ?_⟩
  rcases left_split hd he ha hl with h5 | h5
  ·exact h4 e he hh h5
  ·subst h5
   cases h6 : ltT best e with
   | true=>exact .inr rfl
   | false=>exact .inl (ltT_total _ _ hn h6)
theorem Best.new {d : Nat} {D : DU} {left : Lit→Bool} {fl : Bool} {best a : List Int} (hd : d≤1000000) (h : Best d D left fl best) (ha : K7 d a) (hla : left (kl a)=true) (hh : has D (kl a)=true) (hn : fl=true→ltT a best=true) : Best d D (fun z=>left z && !z.sameKey (kl a)) true a:=by
 refine .inr ⟨rfl,ha,hh,by simp [WideAt.sameKey_self (kl_lit a)],fun e he hhe hl=> ?_⟩
 rcases left_split hd he ha hl with h5 | h5
 ·right
  rcases h with ⟨h,h1⟩ | ⟨h,h1,h2,h3,h4⟩
  ·rw [h1 _ hhe] at h5;cases h5
  ·have hab:=hn h
   rcases h4 e he hhe h5 with h6 | h6
   ·rw [h6];exact hab
   ·exact ltT_trans _ _ _ hab h6
 ·exact .inl h5
theorem Best.end {d : Nat} {D : DU} {left : Lit→Bool} {fl : Bool} {best e0 : List Int} (h : Best d D left fl best) (hl : ∀ l,left l=false) (h0 : K7 d e0) (hh : has D (kl e0)=true) (hm : ∀ e,K7 d e→has D (kl e)=true→e=e0 ∨ ltT e0 e=true) : best=e0:=by
 rcases h with ⟨_,h1⟩ | ⟨_,h1,h2,_,h4⟩
 ·have:=h1 _ hh
  rw [hl] at this;cases this
 ·rcases hm best h1 h2 with h5 | h5
  ·exact h5
  ·rcases h4 e0 h0 hh (hl _) with h6 | h6
   ·exact h6.symm
   ·have:=ltT_asym h5
    rw [h6] at this;cases this
theorem ArT.ints {T : TypeId} {w : World} {g : Nat} {a : List Int} (h : ArT T w g a) (h7 : a.length=7) : Ints w (.slice (some ⟨g,0,none⟩) 7 7) a :=
 ⟨_,_,by rw [h7],⟨by rw [h7];exact Nat.le_refl _,by unfold maxLen;omega⟩,fun _=>⟨g,0,rfl,fun j hj=>by
   rw [Nat.zero_add]
   exact h.cell hj⟩⟩
theorem ArT.below {T : TypeId} {w w' : World} {g : Nat} {a : List Int} (h : ArT T w g a) (hb : Below w.heap.size w w') : ArT T w' g a:=blk_later h hb
theorem set7 {w : World} {b : Nat} {x0 x1 x2 x3 x4 x5 x6 : Value} {T : TypeId} (h : w.heap[b]?=some (.cells #[x0,x1,x2,x3,x4,x5,x6] T (0,0))) (y0 y1 y2 y3 y4 y5 y6 : Value) :
 (((((((w.setCell ⟨b,0,none⟩ y0).setCell ⟨b,1,none⟩ y1).setCell ⟨b,2,none⟩ y2).setCell ⟨b,3,none⟩ y3).setCell ⟨b,4,none⟩ y4).setCell ⟨b,5,none⟩ y5).setCell ⟨b,6,none⟩ y6).heap[b]?=some (.cells #[y0,y1,y2,y3,y4,y5,y6] T (0,0)) ∧
   Frm b (b+1) w (((((((w.setCell ⟨b,0,none⟩ y0).setCell ⟨b,1,none⟩ y1).setCell ⟨b,2,none⟩ y2).setCell ⟨b,3,none⟩ y3).setCell ⟨b,4,none⟩ y4).setCell ⟨b,5,none⟩ y5).setCell ⟨b,6,none⟩ y6):=by
 constructor
 ·have h0:=heap_setCell_at h 0 y0
  have h1:=heap_setCell_at h0 1 y1
  have h2:=heap_setCell_at h1 2 y2
  have h3:=heap_setCell_at h2 3 y3
  have h4:=heap_setCell_at h3 4 y4
  have h5:=heap_setCell_at h4 5 y5
  have h6:=heap_setCell_at h5 6 y6
  rw [h6]
  rfl
 ·exact ((((((((Frm.refl b (b+1) w).setCell (p:=⟨b,0,none⟩) (Nat.le_refl _) (Nat.lt_succ_self _) _).setCell (p:=⟨b,1,none⟩) (Nat.le_refl _) (Nat.lt_succ_self _) _).setCell (p:=⟨b,2,none⟩) (Nat.le_refl _) (Nat.lt_succ_self _) _).setCell (p:=⟨b,3,none⟩) (Nat.le_refl _) (Nat.lt_succ_self _) _).setCell (p:=⟨b,4,none⟩) (Nat.le_refl _) (Nat.lt_succ_self _) _).setCell (p:=⟨b,5,none⟩) (Nat.le_refl _) (Nat.lt_succ_self _) _).setCell (p:=⟨b,6,none⟩) (Nat.le_refl _) (Nat.lt_succ_self _) _)
theorem lit7 {a : List Int} (h : a.length=7) : ∃ s0 s1 s2 s3 s4 s5 s6 : Int,a=[s0,s1,s2,s3,s4,s5,s6]:=by
 match a,h with
 | [s0,s1,s2,s3,s4,s5,s6],_=>exact ⟨_,_,_,_,_,_,_,rfl⟩
theorem kv7 (a0 a1 a2 a3 a4 a5 a6 : Int) : kv [a0,a1,a2,a3,a4,a5,a6]=.agg #[.int .i64 a0,.int .i64 a1,.int .i64 a2,.int .i64 a3,.int .i64 a4,.int .i64 a5,.int .i64 a6]:=by simp [kv]
theorem info7 : (Tryz.prog.info? 107).map (·.size)=some 7:=by kernel_rfl
theorem results_first (tmps : Array Value) (w : World) (g : Nat) (y0 y1 y2 y3 y4 y5 y6 : Value) (fr : Nat × Nat) (hp : tmps.getD 2 undef=.pointer (some ⟨g,0,none⟩)) (hg : w.heap[g]?=some (.cells #[y0,y1,y2,y3,y4,y5,y6] 107 fr)) :
 (results Tryz.f71 tmps).run Tryz.prog w=.ok (.agg #[y0,y1,y2,y3,y4,y5,y6]) w :=
 results_cell_row (ty:=107) (p:=2) (by kernel_rfl) tmps w g _ _ fr (.array 7 3) hp hg und56 rfl info7
theorem first_any (u : Value) (d n : Nat) (P : Pl) (e0 : List Int) (w : World) (hf : PolV w u d n P) (hd : d≤1000) (hco : ∀ e,-1000000≤cfP P e∧cfP P e≤1000000) (h0 : K7 d e0) (hc0 : cfP P e0 ≠ 0) (hmin : ∀ e,K7 d e→cfP P e ≠ 0→e=e0 ∨ ltT e0 e=true) :
 Calls Tryz.prog 71 #[u] w fun e w'=>e=.returned (kv e0)∧Below w.heap.size w w':=by
 obtain ⟨bf,D,rfl,hf1,hf2⟩:=hf
 have hhas:=has_of_cf hf1 hf2 (by omega) hco h0 hc0
 have hm : ∀ e,K7 d e→has D (kl e)=true→e=e0 ∨ ltT e0 e=true:=fun e he hh=>by
  obtain ⟨c,_,hc,_⟩:=hf1.lookup_int klaw und41 undI (zeroI _) (keyOf_kv he (by omega))
  obtain ⟨e1,e2⟩:=at_cf hf1 hf2 (by omega) hco he hh hc
  exact hmin e he (by rw [← e1];exact e2)
 have hbl:=hf1.lt
 have HF2:=Lib.hid hf2
 have Hhas:=Lib.hid hhas
 have Hm:=Lib.hid hm
 have H0:=Lib.hid h0
 obtain ⟨B,hB⟩ : ∃ B,B=w.heap.size:=⟨_,rfl⟩
 have HB:=Lib.hid hB
 obtain ⟨o1,ho1⟩ : ∃ o : Obj,o=.cells #[.int .i64 0,.int .i64 0,.int .i64 0,.int .i64 0,.int .i64 0,.int .i64 0,.int .i64 0] 107:=⟨_,rfl⟩
 have Ho1:=Lib.hid ho1
 have hfW:=(hf1.alloc o1).alloc o1
 rw [ho1] at hfW
 clear hf2 hhas hm h0 hc0 hmin hco ho1
 go_enter Tryz.func71,Tryz.ntmps71
 go_wp2_with (first
  | (at_range;refine wpList_range_own _ rfl _ 102 rfl 107 3 klaw und41 _ bf n _ rfl hfW ?_;intro w0 hrg0 hg0 hs0)
  | fail)
 go_frame
 rw [← Ho1.out] at hrg0 hg0 hs0 ⊢
 have hsa : ((w.alloc o1).alloc o1).heap.size=w.heap.size+1+1:=by rw [size_alloc,size_alloc]
 rw [hsa] at hrg0 hs0 ⊢
 have hbel0 : Below w.heap.size w w0:=(below_alloc2 w o1 o1).grown hg0 (by rw [hsa];omega) (fun j hj=>by cases hj)
 have hz0 : w0.heap[w.heap.size]?=some (.cells #[.int .i64 0,.int .i64 0,.int .i64 0,.int .i64 0,.int .i64 0,.int .i64 0,.int .i64 0] 107 (0,0)) :=
  (hg0.block _ (by rw [hsa];omega) (by simp)).trans (by rw [Ho1.out];exact blk_later (heap_alloc_top _ _) (below_alloc _ _))
 have hz1 : ArT 107 w0 (w.heap.size+1) [0,0,0,0,0,0,0] :=
  (hg0.block _ (by rw [hsa];omega) (by simp)).trans (by rw [Ho1.out];exact heap_alloc_at _ _ (by rw [size_alloc]))
 rw [← hB] at hrg0 hs0 hbel0 hz0 hz1 hbl ⊢
 have Hbel0:=Lib.hid hbel0
 have Hz0:=Lib.hid hz0
 have Hz1:=Lib.hid hz1
 clear hbel0 hg0 hsa hB hz0 hz1 hfW
 go_loopg [4,5] (Maps.size D) (fun g s4 s5 wr=> ∃ (left : Lit→Bool) (fl : Bool) (best : List Int),s4=.bool fl∧RanP wr bf (B+2) n D left g∧(∀ l,left l=true→has D l=true)∧B+2 < wr.heap.size∧best.length=7∧(∀ j,0≤best.getD j 0∧best.getD j 0≤1000) ∧
  Hid (Best d D left fl best)∧Hid (ArT 107 wr (B+1) best)∧Hid (wr.heap[B]?=some (.cells #[.int .i64 0,.int .i64 0,.int .i64 0,.int .i64 0,.int .i64 0,.int .i64 0,.int .i64 0] 107 (0,0)))∧Hid (Below B w wr))
 case atStart=>exact ⟨_,false,_,rfl,hrg0,fun _ h=>h,by omega,rfl,fun j=>by
  have : ∀ j,([0,0,0,0,0,0,0] : List Int).getD j 0=0:=fun j=>by
   match j with
   | 0 | 1 | 2 | 3 | 4 | 5 | 6=>rfl
   | j+7=>rfl
  rw [this];omega,Best.start d D,Hz1.out,Hz0.out,Hbel0.out⟩
 case round =>
  obtain ⟨left,fl,best,rfl,hrg,hleft,hsz,hbl7,hbr,hbest,hz1,hz0,hbel⟩:=hrel
  obtain ⟨wx,rfl⟩ : ∃ x : World,x=wr:=⟨_,rfl⟩
  go_wp2_with (first
   | (at_next;refine wpList_next_poly _ rfl _ rfl bf (B+2) n d D P left gk rfl hrg HF2.out (by omega) hleft ?_ ?_)
   | fail)
  ·intro hc0 hl0
   have he:=hbest.out.end hl0 H0.out Hhas.out Hm.out
   obtain ⟨t0,t1,t2,t3,t4,t5,t6,hts⟩:=lit7 hbl7
   have hz1':=hz1.out
   rw [hts] at hz1'
   obtain ⟨x0,x1,x2,x3,x4,x5,x6,_,_⟩:=blk7 hz1'
   have Hz0':=Lib.hid hz0.out
   obtain ⟨y0,y1,y2,y3,y4,y5,y6,yf,_⟩:=blk7 hz0.out
   have f0:=yf 0
   have f1:=yf 1
   have f2:=yf 2
   have f3:=yf 3
   have f4:=yf 4
   have f5:=yf 5
   have f6:=yf 6
   have He:=Lib.hid (he.symm.trans hts)
   have Hbel:=Lib.hid hbel.out
   clear he hts hz1' hz1 hz0 hbel yf hbest
   go_wp2_with fail
   obtain ⟨hset,hfr⟩:=set7 Hz0'.out (.int .i64 t0) (.int .i64 t1) (.int .i64 t2) (.int .i64 t3) (.int .i64 t4) (.int .i64 t5) (.int .i64 t6)
   have hb9:=Hbel.out.trans (hfr.below (B:=B) (Nat.le_refl _) (by omega))
   refine bodyPost_ret (results_first _ _ B _ _ _ _ _ _ _ _ rfl hset) rfl ?_
   rw [He.out,kv7]
   refine ⟨rfl,?_⟩
   rw [← HB.out]
   exact hb9
  ·intro a0 a1 a2 a3 a4 a5 a6 c w1 cnt1 hK hlx hwf hat hrg1 hlt hgr1 hs1 hen
   obtain ⟨av,hav⟩ : ∃ av : List Int,av=[a0,a1,a2,a3,a4,a5,a6]:=⟨_,rfl⟩
   have HK:=Lib.hid (show K7 d av by rw [hav];exact hK)
   have Hav:=Lib.hid hav
   have Hlx:=Lib.hid (show left (kl av)=true by rw [hav];exact hlx)
   have Hrg1:=Lib.hid (show RanP w1 bf (B+2) n D (fun z=>left z && !z.sameKey (kl av)) cnt1 by rw [hav];exact hrg1)
   have Hz1a:=Lib.hid (show ArT 107 w1 (B+1) best from (hgr1.block (B+1) (by omega) (by intro h;injection h with h;omega)).trans hz1.out)
   have Hz0a:=Lib.hid ((hgr1.block B (by omega) (by intro h;injection h with h;omega)).trans hz0.out)
   have Hbel1:=Lib.hid (hbel.out.grown hgr1 (by omega) (fun j hj=>by injection hj with hj;omega))
   obtain ⟨W,hW⟩ : ∃ W,W=w1.alloc (.cells #[.int .i64 a0,.int .i64 a1,.int .i64 a2,.int .i64 a3,.int .i64 a4,.int .i64 a5,.int .i64 a6] 107):=⟨_,rfl⟩
   have HzW:=Lib.hid (show ArT 107 W wx.heap.size av by rw [hW,hav];exact heap_alloc_at _ _ hs1.symm)
   have Hz1W:=Lib.hid (show ArT 107 W (B+1) best by rw [hW];exact (heap_alloc_low _ _ (by omega)).trans Hz1a.out)
   have Hz0W:=Lib.hid (show W.heap[B]?=some (.cells #[.int .i64 0,.int .i64 0,.int .i64 0,.int .i64 0,.int .i64 0,.int .i64 0,.int .i64 0] 107 (0,0)) by rw [hW];exact (heap_alloc_low _ _ (by omega)).trans Hz0a.out)
   have HrgW:=Lib.hid (show RanP W bf (B+2) n D (fun z=>left z && !z.sameKey (kl av)) cnt1 by rw [hW];exact Hrg1.out.alloc _)
   have HbelW:=Lib.hid (show Below B w W by rw [hW];exact Hbel1.out.alloc (by omega) _)
   have hszW : W.heap.size=wx.heap.size+1:=by rw [hW,size_alloc,hs1]
   have HW:=Lib.hid hW
   clear hav hK hlx hwf hat hrg1 hgr1 hW Hz1a Hz0a Hrg1 Hbel1 hz1 hz0 hbel hrg
   obtain ⟨qb,hqb⟩ : ∃ qb,qb=(!fl || ltT av best):=⟨_,rfl⟩
   have Hqb:=Lib.hid hqb
   clear hqb
   go_upto_region 6 with fail
   rw [← HW.out]
   go_cut [20] (fun s20 wc=>s20=.bool qb∧Qt W wc)
   case first =>
    cases fl with
    | false =>
      have Hf:=Lib.hid (show qb=true by rw [Hqb.out];rfl)
      go_quiet (fail)
      go_wp2_with fail
      go_meet
      exact ⟨by rw [Hf.out],⟨nq,rfl⟩⟩
    | true =>
      have hx0:=HzW.out.cell (j:=0) (by rw [HK.out.1];omega)
      have hy0:=Hz1W.out.cell (j:=0) (by rw [hbl7];omega)
      obtain ⟨cc,hcc⟩ : ∃ cc,cc=cmpT av best:=⟨_,rfl⟩
      have hq : ∀ q,Calls Tryz.prog 97 #[.slice (some ⟨wx.heap.size,0,none⟩) 7 7,.slice (some ⟨B+1,0,none⟩) 7 7] (W.drewN q) fun e w'=>e=.returned (.int .i64 cc)∧Qt (W.drewN q) w':=fun q=>by
       rw [hcc]
       exact byTerms_any _ _ av best _ ((HzW.out.ints HK.out.1).drewN q) ((Hz1W.out.ints hbl7).drewN q) HK.out.1 hbl7 (fun j=>by have:=HK.out.rng j;omega) (fun j=>by have:=hbr j;omega)
      have Hq:=Lib.hid hq
      have Hf:=Lib.hid (show qb=decide (cc < 0) by rw [Hqb.out,hcc,← cmpT_neg HK.out.1 hbl7];rfl)
      clear hq hcc hx0 hy0
      by_cases hc0 : cc < 0
      ·have Hf2:=Lib.hid (show qb=true by rw [Hf.out];exact decide_eq_true hc0)
       go_quiet (first | (go_at_call 97;refine quiet_q (Hq.out _)))
       go_wp2_with fail
       go_meet
       exact ⟨by rw [Hf2.out],⟨nq,rfl⟩⟩
      ·have Hf2:=Lib.hid (show qb=false by rw [Hf.out];exact decide_eq_false hc0)
       go_quiet (first | (go_at_call 97;refine quiet_q (Hq.out _)))
       go_wp2_with fail
       go_meet
       exact ⟨by rw [Hf2.out],⟨nq,rfl⟩⟩
   case rest =>
    obtain ⟨rfl,hq6⟩:=hcut
    obtain ⟨w6,rfl⟩ : ∃ x : World,x=wc:=⟨_,rfl⟩
    have Hb6:=Lib.hid (hq6.below W.heap.size)
    have hs6:=hq6.size
    have HzA:=Lib.hid (HzW.out.below Hb6.out)
    have HzB:=Lib.hid (Hz1W.out.below Hb6.out)
    have HzC:=Lib.hid (blk_later Hz0W.out Hb6.out)
    have Hrg6:=Lib.hid (HrgW.out.kept (row:=none) ⟨Hb6.out.os,Hb6.out.tape,Hb6.out.output,Hb6.out.size,fun i hi _=>Hb6.out.block i hi⟩ (by simp) (by simp))
    have Hbel6:=Lib.hid (HbelW.out.trans (Hb6.out.mono (by omega)))
    clear hq6
    cases qb with
    | false =>
      have hfl : fl=true∧ltT av best=false:=by
       have:=Hqb.out
       cases fl with
       | false=>cases this
       | true=>exact ⟨rfl,by simpa using this.symm⟩
      have hn:=hfl.2
      have Hn:=Lib.hid hn
      have Hfl:=Lib.hid hfl.1
      clear hn hfl
      go_wp2_with fail
      go_roundg cnt1
      case measure=>exact hlt
      case rel =>
       exact ⟨_,fl,best,rfl,Hrg6.out,has_sub hleft,by omega,hbl7,hbr,by
        have h:=hbest.out
        rw [Hfl.out] at h ⊢
        exact h.same (by omega) HK.out Hlx.out Hn.out,HzB.out,HzC.out,Hbel6.out⟩
    | true =>
      have hzA:=HzA.out
      rw [Hav.out] at hzA
      obtain ⟨x0,x1,x2,x3,x4,x5,x6,_,_⟩:=blk7 hzA
      have hzB:=HzB.out
      obtain ⟨t0,t1,t2,t3,t4,t5,t6,hts⟩:=lit7 hbl7
      rw [hts] at hzB
      obtain ⟨y0,y1,y2,y3,y4,y5,y6,yf,_⟩:=blk7 hzB
      have f0:=yf 0
      have f1:=yf 1
      have f2:=yf 2
      have f3:=yf 3
      have f4:=yf 4
      have f5:=yf 5
      have f6:=yf 6
      have HzB':=Lib.hid hzB
      have Hnew:=Lib.hid (Best.new (by omega) hbest.out HK.out Hlx.out (hleft _ Hlx.out) (fun hfl=>by
       have:=Hqb.out
       rw [hfl] at this
       simpa using this.symm))
      clear hzA hzB yf hts
      go_wp2_with fail
      go_roundg cnt1
      case measure=>exact hlt
      case rel =>
       obtain ⟨hset,hfr⟩:=set7 HzB'.out (.int .i64 a0) (.int .i64 a1) (.int .i64 a2) (.int .i64 a3) (.int .i64 a4) (.int .i64 a5) (.int .i64 a6)
       refine ⟨_,true,av,rfl,Hrg6.out.kept (frm_gb hfr) (by intro h;injection h with h;omega) (by intro h;injection h with h;omega),has_sub hleft,by have:=hfr.size;omega,HK.out.1,fun j=>by have:=HK.out.rng j;omega,Hnew.out,?_,?_,?_⟩
       ·show ArT _ _ _ av
        rw [Hav.out]
        exact hset
       ·exact (hfr.block B (by omega) (Or.inl (by omega))).trans HzC.out
       ·exact Hbel6.out.trans (hfr.below (by omega) (by omega))
theorem ownMp_below {w w' : World} {b n : Nat} {D : DU} (h : OwnMp w b n D) (hb : Below w.heap.size w w') : OwnMp w' b n D:=by
 have hlt:=h.lt
 obtain ⟨es,clock,hb',F,hs,hD⟩:=h
 exact ⟨es,clock,(hb.block b hlt).trans hb',F,hs,hD⟩
theorem size_pos {D : DU} (ht : Tidy D) {k : Lit} (h : has D k=true) : 0 < Maps.size D:=by
 obtain ⟨es,rfl,_⟩:=ht
 obtain ⟨p,hp,_⟩:=List.any_eq_true.1 h
 show 0 < es.length
 exact List.length_pos_of_mem hp
structure StpIs (P : Pl) (w : List Int) (c : Int) (e : List Int) : Prop where
 k7 : K7 24 e
 co : ∀ x,-1000000≤cfP P x∧cfP P x≤1000000
 at_ : cfP P e=c
 ne : c ≠ 0
 min : ∀ x,K7 24 x→cfP P x ≠ 0→x=e ∨ ltT e x=true
 poB : poB e=true
 per : permOk (poO e 7)=true
 trim : trimL (poO e 7)=w
 wok : permOk w=true
 wtr : trimL w=w
 w1 : 1≤w.length
 w7 : w.length≤7
 low : lowOk 15 w=true
theorem stp_is {P : Pl} {w : List Int} {c : Int} (h : stpB P w c=true) : ∃ e,StpIs P w c e:=by
 match P,h with
 | t :: P',h =>
   unfold stpB at h
   simp only [Bool.and_eq_true,decide_eq_true_eq] at h
   obtain ⟨⟨⟨⟨⟨⟨⟨⟨⟨⟨⟨⟨⟨a1,a2⟩,a3⟩,a4⟩,a5⟩,a6⟩,a7⟩,a8⟩,a9⟩,b1⟩,b2⟩,b3⟩,b4⟩,b5⟩:=h
   have hne : ∀ s ∈ P',s.1 ≠ t.1:=fun s hs e=>by
    have:=List.all_eq_true.1 a3 s hs
    rw [e,ltT_irrefl] at this
    cases this
   have hcf : cfP (t :: P') t.1=c:=by
    have h1 : cfP (t :: P') t.1=t.2 * ind t.1 t.1+cfP P' t.1:=Ev_cons t P' _
    rw [h1,cf_none hne]
    unfold ind
    rw [if_pos rfl,a4]
    omega
   refine ⟨t.1,⟨a1,fun x hx=> ?_⟩,fun x=> ?_,hcf,a5,fun x _ hx=> ?_,a7,a8,a9,b1,b2,b3,b4,b5⟩
   ·have:=List.all_eq_true.1 a2 x hx
    simpa using this
   ·have:=cf_l1 x (t :: P')
    omega
   ·by_cases e : x=t.1
    ·exact .inl e
    ·right
     by_cases hm : ∃ s ∈ P',s.1=x
     ·obtain ⟨s,hs,rfl⟩:=hm
      exact List.all_eq_true.1 a3 s hs
     ·exact absurd (cf_none (P:=t :: P') (e:=x) fun s hs e2=>by
       rcases List.mem_cons.1 hs with rfl | hs
       ·exact e e2.symm
       ·exact hm ⟨s,hs,e2⟩) hx
theorem map_ne {w : World} {b n m size lo hi : Nat} {D : DU} {T : TypeId} {v : Value} {F : Nat→Nat→Value} (h : OwnMp w b n D) (g : OwnS w lo hi T size v m F) : some b ≠ v.ownBlock:=fun e=>by
 obtain ⟨c,fz,hc⟩:=g.kind b e.symm
 obtain ⟨es,clock,hb',_⟩:=h
 rw [hc] at hb'
 cases hb'
theorem ExpandPoly_any (v : Value) (ts : List Cls) (P0 : Pl) (L : List Cls) (w : World) (h : RdCl w v ts) (hok : TsOk ts) (hev : ∀ g,Ev ts g=Ev P0 g) (hx : exdOk P0 L=true) (hcl : clsOk (srtC L)=true) (hl : L.length≤90) (hnd : (L.map (·.1)).Nodup) :
 Calls Tryz.prog 33 #[v] w fun e w'=> ∃ u,e=.returned (.tuple #[u,.bool true])∧RdCl w' u (srtC L)∧Below w.heap.size w w':=by
 have Hh:=Lib.hid h
 have Hok:=Lib.hid hok
 have Hev:=Lib.hid hev
 have Hx:=Lib.hid hx
 have Hcl:=Lib.hid hcl
 have Hnd:=Lib.hid hnd
 have h6:=hok.1
 obtain ⟨f,⟨p,cap,rfl,_⟩,_⟩:=h
 clear hok hev hx hcl hnd
 go_enter Tryz.func33,Tryz.ntmps33
 go_wp2_with fail
 refine (PolyOk_yes _ ts _ Hh.out Hok.out).mono ?_
 rintro e w1 ⟨rfl,hb1⟩
 have Hb1:=Lib.hid hb1
 clear hb1
 go_wp2_with fail
 refine (open_any _ ts _ (Hh.out.below Hb1.out) Hok.out).mono ?_
 rintro e w2 ⟨u2,rfl,hp2,hb2⟩
 have Hp2:=Lib.hid (hp2.alt (Q:=P0) fun g=>Cg.of _ _ (Hev.out g))
 obtain ⟨b2,D2,rfl,_,_⟩:=hp2
 have Hb2:=Lib.hid (Hb1.out.trans (hb2.mono Hb1.out.size))
 have hs2:=Hb2.out.size
 clear hb2
 go_wp2_with fail
 go_loopg [4,5,6,7,8] L.length (fun g s4 s5 s6 s7 s8 wr=> ∃ (P : Pl) (done Lr : List Cls) (nf : Nat),Hid (done ++ Lr=L)∧g=Lr.length∧Hid (exdOk P Lr=true)∧Hid (PolV wr s4 24 nf P)∧nf≤600+done.length * 470184984576∧done.length+Lr.length≤90∧Hid (OwnCd wr w2.heap.size wr.heap.size s5 done)∧Hid (Below w.heap.size w wr)∧w2.heap.size≤wr.heap.size)
 case atStart=>exact ⟨P0,[],L,ts.length,rfl,rfl,Hx.out,Hp2.out.below (below_alloc w2 _),by simpa using h6,by simpa using hl,(OwnCd.made0 w2).mono (Nat.le_refl _) (by rw [size_alloc];exact Nat.le_refl _),Hb2.out.trans ((below_alloc w2 _).mono hs2),by rw [size_alloc];omega⟩
 case round =>
  obtain ⟨P,done,Lr,nf,hL,rfl,hxd,hP,hnf,hlen,hO,hb,hsz⟩:=hrel
  obtain ⟨wo,rfl⟩ : ∃ x : World,x=wr:=⟨_,rfl⟩
  have HL:=Lib.hid hL.out
  have HO:=Lib.hid hO.out
  have Hb:=Lib.hid hb.out
  obtain ⟨bf,D,rfl,hf1,hf2⟩:=hP.out
  have HF1:=Lib.hid hf1
  have HF2:=Lib.hid hf2
  have hxd':=hxd.out
  obtain ⟨p5,k5,e5,_,_⟩:=HO.out.shape
  subst e5
  match Lr,hxd' with
  | [],hxd' =>
    have hP0 : P=[]:=by
     unfold exdOk at hxd'
     simpa using hxd'
    have hD0 : Maps.size D=0:=by
     have:=size_le hf1 hf2 (by omega) (fun e=>by rw [hP0];show (-1000000 : Int)≤0∧(0 : Int)≤1000000;omega) (S:=[]) (fun e _ he=>by rw [hP0] at he;exact absurd rfl he)
     simpa using this
    have hdone : done=L:=by have:=HL.out;rw [List.append_nil] at this;exact this
    subst hdone
    have HSo:=Lib.hid (fun (wx : World) (hb : Below wo.heap.size wo wx)=>sortClasses_any (.slice p5 done.length k5) done w2.heap.size wo.heap.size wx (HO.out.below hb) (by omega) Hnd.out)
    clear hxd hxd' hP0 hf1 hf2 hb hL hO hP
    go_wp2_with (first
     | (at_len;refine wpList_len_own _ rfl _ 102 rfl 107 3 und41 _ bf nf _ rfl HF1.out ?_)
     | fail)
    refine (HSo.out _ (Below.refl _ _)).mono ?_
    rintro e w3 ⟨rfl,ho3,hf3⟩
    have Ho3:=Lib.hid ho3
    have Hb3:=Lib.hid (Hb.out.trans (hf3.below (by omega) (by have:=Hb.out.size;omega)))
    have hlen3 : (srtC done).length=done.length:=(srtC_perm done).length_eq
    have HC:=Lib.hid (implClassesOk_any _ (srtC done) w3 ho3.rd)
    clear ho3 hf3
    rw [Hcl.out] at HC
    go_wp2_with fail
    refine HC.out.mono ?_
    rintro e w4 ⟨rfl,hb4⟩
    have Hr4:=Lib.hid (Ho3.out.rd.below hb4)
    have Hb4:=Lib.hid (Hb3.out.trans (hb4.mono Hb3.out.size))
    clear hb4
    go_wp2_with fail
    go_ret2
    exact ⟨_,rfl,Hr4.out,Hb4.out⟩
  | (xw,xc) :: Lr',hxd' =>
    unfold exdOk at hxd'
    rw [Bool.and_eq_true] at hxd'
    obtain ⟨e0,hS⟩:=stp_is hxd'.1
    have HNext:=Lib.hid hxd'.2
    have HS:=Lib.hid hS
    have hc0 : cfP P e0 ≠ 0:=by rw [hS.at_];exact hS.ne
    have hhas:=has_of_cf hf1 hf2 (by omega) hS.co hS.k7 hc0
    have hpos : (0 : Int) < (Maps.size D : Int):=by have:=size_pos hf2.tidy hhas;omega
    have Hhas:=Lib.hid hhas
    have HFi:=Lib.hid (first_any (.map (some bf)) 24 nf P e0 wo hP.out (by omega) hS.co hS.k7 hc0 hS.min)
    have HPw:=Lib.hid hP.out
    obtain ⟨t0,t1,t2,t3,t4,t5,t6,hts⟩:=lit7 hS.k7.1
    have Hts:=Lib.hid hts
    rw [hts,kv7] at HFi
    have Hlen:=Lib.hid hlen
    clear hxd hxd' hf1 hf2 hb hL hO hP hS hc0 hhas hts
    go_wp2_with (first
     | (at_len;refine wpList_len_own _ rfl _ 102 rfl 107 3 und41 _ bf nf _ rfl HF1.out ?_)
     | fail)
    refine HFi.out.mono ?_
    rintro e w3 ⟨rfl,hb3⟩
    obtain ⟨W,hW⟩ : ∃ W,W=w3.alloc (.cells #[.int .i64 t0,.int .i64 t1,.int .i64 t2,.int .i64 t3,.int .i64 t4,.int .i64 t5,.int .i64 t6] 107):=⟨_,rfl⟩
    have hzW : W.heap[w3.heap.size]?=some (.cells #[.int .i64 t0,.int .i64 t1,.int .i64 t2,.int .i64 t3,.int .i64 t4,.int .i64 t5,.int .i64 t6] 107 (0,0)):=by rw [hW];exact heap_alloc_top _ _
    have hbW : Below wo.heap.size wo W:=by rw [hW];exact hb3.trans ((below_alloc w3 _).mono hb3.size)
    have HzW:=Lib.hid hzW
    have HbW:=Lib.hid hbW
    have HW:=Lib.hid hW
    have HPo:=Lib.hid (PermOfCode_any (.slice (some ⟨w3.heap.size,0,none⟩) 7 7) e0 W (by rw [Hts.out];exact ArT.ints (T:=107) (a:=[t0,t1,t2,t3,t4,t5,t6]) hzW rfl) (by rw [HS.out.k7.1];omega) (by rw [HS.out.k7.1];omega) HS.out.poB)
    rw [HS.out.k7.1] at HPo
    have hx0:=cell_of_blk hzW (j:=0) rfl
    clear hzW hbW hW hb3 hpos
    go_wp2_with fail
    rw [← HW.out]
    refine HPo.out.mono ?_
    rintro e w4 ⟨u4,rfl,ho4,hb4⟩
    have HTr:=Lib.hid (implTrim_yes u4 (poO e0 7) w4 ho4.ints HS.out.per)
    have Hb4:=Lib.hid (HbW.out.trans (hb4.mono HbW.out.size))
    obtain ⟨p4,k4,e4,_,_⟩:=ho4.shape
    subst e4
    have hs4:=Hb4.out.size
    clear ho4
    go_wp2_with fail
    refine HTr.out.mono ?_
    rw [HS.out.trim]
    rintro e w5 ⟨u5,rfl,ho5,hb5⟩
    have Hb5:=Lib.hid (Hb4.out.trans (hb5.mono hs4))
    have HxI:=Lib.hid (ho5.mono hs4 (Nat.le_refl _))
    have hn5:=HS.out.w1
    obtain ⟨pu,ku,eu,hku,hkm⟩:=ho5.shape
    subst eu
    obtain ⟨gu,egu,_,_,_⟩:=ho5.fn.at_ hn5
    subst egu
    have hs5:=Hb5.out.size
    have hz5:=blk_later (blk_later HzW.out hb4) hb5
    obtain ⟨y0,y1,y2,y3,y4,y5,y6,_,_⟩:=blk7 hz5
    have keq:=Lib.run_eql_slice_nil (P:=Tryz.prog) w5 24 3 (some ⟨gu,0,none⟩) xw.length ku 0 0 Tryz.underlying24
    have Hlen':=Hlen.out
    have hd1 : ((done.length : Int) == 100)=false:=by rw [beq_eq_false_iff_ne];rw [List.length_cons] at Hlen';omega
    have hd2 : ¬ (done.length : Int)=100:=by rw [List.length_cons] at Hlen';omega
    have HF5:=Lib.hid (ownMp_below HF1.out Hb5.out)
    have Hkey:=Lib.hid (show keyOf Tryz.prog 107 (.agg #[.int .i64 t0,.int .i64 t1,.int .i64 t2,.int .i64 t3,.int .i64 t4,.int .i64 t5,.int .i64 t6])=some (kl e0) by
     rw [← kv7,← Hts.out]
     exact keyOf_kv HS.out.k7 (by omega))
    have HCc:=Lib.hid (show ∀ c,D.atKey (kl e0) (.lit (.int .i64 0))=.lit (.int .i64 c)→c=xc from fun c hat=>by
     rw [(at_cf HF1.out HF2.out (by omega) HS.out.co HS.out.k7 Hhas.out hat).1]
     exact HS.out.at_)
    obtain ⟨fd,g1,g2,g3⟩:=HO.out.below Hb5.out
    obtain ⟨nu,hnu⟩ : ∃ nu,nu=xw.length:=⟨_,rfl⟩
    obtain ⟨oC,hoC⟩ : ∃ o : Obj,o=.cells #[.slice (some ⟨gu,0,none⟩) nu ku,.int .i64 xc] 74:=⟨_,rfl⟩
    have hal:=below_alloc w5 oC
    have g1a:=Lib.hid (g1.below hal)
    have g2a:=Lib.hid (show ∀ i,i < done.length→OwnI 3 (w5.alloc oC) w2.heap.size wo.heap.size (fd i) (done.getD i clD).1 from fun i hi=>(g2 i hi).below hal)
    have G3:=Lib.hid g3
    have Hxt:=Lib.hid (HxI.out.below hal)
    have HFa:=Lib.hid (HF5.out.alloc oC)
    have Hcl2:=Lib.hid (show ∀ j,j < 2→(w5.alloc oC).cell? ⟨w5.heap.size,j,none⟩=some (match j with | 0=>.slice (some ⟨gu,0,none⟩) nu ku | _=>.int .i64 xc) from fun j hj=>by
     rw [hoC]
     exact match j,hj with
     | 0,_=>cell_of_blk (heap_alloc_top w5 _) (j:=0) rfl
     | 1,_=>cell_of_blk (heap_alloc_top w5 _) (j:=1) rfl)
    have Hone:=Lib.hid (show ∀ j,j < 2→(match j with | 0=>Value.slice (some ⟨gu,0,none⟩) nu ku | _=>.int .i64 xc).oneCell'=true from fun j hj =>
     match j,hj with
     | 0,_=>rfl
     | 1,_=>rfl)
    have Hn1:=Lib.hid (show done.length+1≤maxLen by unfold maxLen;rw [List.length_cons] at Hlen';omega)
    have Hn2:=Lib.hid (show (done.length+1) * 32≤140737488355328 by rw [List.length_cons] at Hlen';omega)
    have Hlo:=Lib.hid (show w2.heap.size≤(w5.alloc oC).heap.size by rw [size_alloc];omega)
    have hco:=HS.out.co e0
    rw [HS.out.at_] at hco
    have hng : IntKind.i64.wrap (-xc) = -xc:=k64 (by omega) (by omega)
    have hng2 : wrap64 (-xc) = -xc:=w64 (by omega) (by omega)
    have Hnu:=Lib.hid hnu
    have Hal:=Lib.hid hal
    have HoC:=Lib.hid hoC
    rw [← hnu] at hku hn5 ⊢
    rw [← hnu] at keq
    unfold maxLen at hkm
    rw [hoC] at g1a Hlo Hcl2
    clear g1 g2 g3 ho5 hb5 hz5 hal hnu hoC hco hb4 Hlen' hx0
    go_wp2_with (first
     | (at_lookup;refine wpList_lookup_own_int _ rfl _ _ 102 rfl 107 3 .i64 klaw und41 undI (zeroI _) bf nf D rfl HF5.out _ _ rfl Hkey.out ?_;intro c hat hwf;obtain rfl:=HCc.out c hat)
     | (at_builtin;go_must (refine wpList_append_S rfl (.tmp 33) (.tmp 37) 32 rfl 74 _ 2 32 Tryz.underlying32 info_cls rfl (by omega) w2.heap.size wo.heap.size _ done.length (clF done fd) rfl g1a.out Hlo.out _ _ _ rfl Hcl2.out Hone.out Hn1.out Hn2.out ?_;intro v6 w6 hv hg))
     | fail)
    have hxt:=Hxt.out
    have hal:=Hal.out
    have hFa:=HFa.out
    have hg2a:=g2a.out
    rw [HoC.out] at hxt hal hFa hg2a
    have hx6 : OwnI 3 w6 wo.heap.size w5.heap.size (.slice (some ⟨gu,0,none⟩) xw.length ku) xw :=
     ⟨ownsRow_of_block hxt.1 fun k hk=>hg.block k (Own.block hxt hk).2.2 fun e=>ne_of_kinds (g1a.out.kind k e.symm) (OwnI.kind hxt k hk) (by decide),hxt.2⟩
    have hF6 : OwnMp w6 bf nf D:=hFa.kept hg (map_ne hFa g1a.out)
    have hO6 : OwnCd w6 w2.heap.size w6.heap.size v6 (done ++ [(xw,c)]):=by
     rw [← Hnu.out] at hxt
     exact OwnCd.snoc (m:=(xw,c)) g1a.out hg2a G3.out hxt (by omega) hs5 hg (Nat.le_trans hal.size hg.size) hv
    have hgb:=grownBy_below hg g1a.out.blocks (Nat.le_refl _) Hlo.out
    have hb6 : Below w.heap.size w w6:=((Hb.out.trans (Hb5.out.mono Hb.out.size)).trans (hal.mono (by have:=Hb.out.size;omega))).trans (hgb.mono hs2)
    have hsz6 : w2.heap.size≤w6.heap.size:=Nat.le_trans Hlo.out hg.size
    rw [← Hnu.out] at hx6
    have HSc:=Lib.hid (schub7_any _ xw w6 hx6.ints HS.out.wok (by rw [HS.out.wtr];exact HS.out.w1) (by rw [HS.out.wtr];exact HS.out.w7) (by rw [HS.out.wtr];exact HS.out.low))
    have HF6:=Lib.hid hF6
    have HO6:=Lib.hid hO6
    have Hb6:=Lib.hid hb6
    obtain ⟨pv,lv,kv',rfl⟩ : ∃ p l k,v6=.slice p l k:=by obtain ⟨p,k,e,_⟩:=hO6.shape;exact ⟨_,_,_,e⟩
    clear hxt hal hFa hg2a hx6 hF6 hO6 hgb hb6 hg hv keq y0 y1 y2 y3 y4 y5 y6 hat hwf
    refine HSc.out.mono ?_
    rintro e w7 ⟨u7,rfl,hp7,hb7⟩
    have Hp7:=Lib.hid (hp7.mono (show 6≤24 by omega) (Nat.le_refl _))
    obtain ⟨b7,D7,rfl,_,_⟩:=hp7
    have Hb7:=Lib.hid (Hb6.out.trans (hb7.mono Hb6.out.size))
    have HF7:=Lib.hid (show PolV w7 (.map (some bf)) 24 nf P from ⟨bf,D,rfl,ownMp_below HF6.out hb7,HF2.out⟩)
    have HO7:=Lib.hid ((HO6.out.below hb7).mono (Nat.le_refl _) hb7.size)
    have hs7:=hb7.size
    have hnn : nf+470184984576 < 1000000000000000:=by
     have hq:=Hlen.out
     rw [List.length_cons] at hq
     omega
    clear hb7
    go_wp2_with fail
    refine (plus_any _ _ (-c) 24 nf 470184984576 P (schP7 xw) w7 HF7.out Hp7.out (by omega) hnn).mono ?_
    rintro e w8 ⟨u8,rfl,hp8,hb8⟩
    have Hp8:=Lib.hid (hp8.alt (Q:=subN P c (symS7 xw)) fun g=>Cg.of _ _ (by rw [Ev_subN,Ev_append,Ev_append,Ev_scl,Ev_scl,symS7_eq]))
    obtain ⟨b8,D8,rfl,_,_⟩:=hp8
    have Hb8:=Lib.hid (Hb7.out.trans (hb8.mono Hb7.out.size))
    have HO8:=Lib.hid ((HO7.out.below hb8).mono (Nat.le_refl _) hb8.size)
    have hs8:=hb8.size
    clear hb8
    go_wp2_with fail
    go_roundg (Lr'.length)
    case measure=>rw [List.length_cons];omega
    case rel =>
     refine ⟨subN P c (symS7 xw),done ++ [(xw,c)],Lr',nf+470184984576,?_,rfl,HNext.out,Hp8.out,?_,?_,HO8.out,Hb8.out,by omega⟩
     ·show (done ++ [(xw,c)]) ++ Lr'=L
      rw [List.append_assoc]
      exact HL.out
     ·rw [List.length_append]
      show nf+470184984576≤600+(done.length+1) * 470184984576
      omega
     ·have hq:=Hlen.out
      rw [List.length_cons] at hq
      rw [List.length_append]
      show done.length+1+Lr'.length≤90
      omega
end
section
def mT1_0 : List (List Cls):=[
 [([0],1)]]
def mT1 : List (List (List Cls)):=[mT1_0]
def mT2_0 : List (List Cls):=[
 [([0],1)],
 [([1,0],1)]]
def mT2_1 : List (List Cls):=[
 [([1,0],1)],
 [([2,0,1],1)]]
def mT2 : List (List (List Cls)):=[mT2_0,mT2_1]
def mT3_0 : List (List Cls):=[
 [([0],1)],
 [([0,2,1],1)],
 [([1,0],1)],
 [([1,2,0],1)],
 [([2,0,1],1)],
 [([2,1,0],1)]]
def mT3_1 : List (List Cls):=[
 [([0,2,1],1)],
 [([0,3,1,2],1),([1,2,0],1)],
 [([1,2,0],1),([2,0,1],1)],
 [([1,3,0,2],1)],
 [([2,1,0],1),([3,0,1,2],1)],
 [([2,3,0,1],1),([3,1,0,2],1)]]
def mT3_2 : List (List Cls):=[
 [([1,0],1)],
 [([1,2,0],1),([2,0,1],1)],
 [([2,0,1],1)],
 [([2,1,0],1)],
 [([3,0,1,2],1)],
 [([3,1,0,2],1)]]
def mT3_3 : List (List Cls):=[
 [([1,2,0],1)],
 [([1,3,0,2],1)],
 [([2,1,0],1)],
 [([2,3,0,1],1)],
 [([3,1,0,2],1)],
 [([3,2,0,1],1)]]
def mT3_4 : List (List Cls):=[
 [([2,0,1],1)],
 [([2,1,0],1),([3,0,1,2],1)],
 [([3,0,1,2],1)],
 [([3,1,0,2],1)],
 [([4,0,1,2,3],1)],
 [([4,1,0,2,3],1)]]
def mT3_5 : List (List Cls):=[
 [([2,1,0],1)],
 [([2,3,0,1],1),([3,1,0,2],1)],
 [([3,1,0,2],1)],
 [([3,2,0,1],1)],
 [([4,1,0,2,3],1)],
 [([4,2,0,1,3],1)]]
def mT3 : List (List (List Cls)):=[mT3_0,mT3_1,mT3_2,mT3_3,mT3_4,mT3_5]
def mT4_0 : List (List Cls):=[
 [([0],1)],
 [([0,1,3,2],1)],
 [([0,2,1],1)],
 [([0,2,3,1],1)],
 [([0,3,1,2],1)],
 [([0,3,2,1],1)],
 [([1,0],1)],
 [([1,0,3,2],1)],
 [([1,2,0],1)],
 [([1,2,3,0],1)],
 [([1,3,0,2],1)],
 [([1,3,2,0],1)],
 [([2,0,1],1)],
 [([2,0,3,1],1)],
 [([2,1,0],1)],
 [([2,1,3,0],1)],
 [([2,3,0,1],1)],
 [([2,3,1,0],1)],
 [([3,0,1,2],1)],
 [([3,0,2,1],1)],
 [([3,1,0,2],1)],
 [([3,1,2,0],1)],
 [([3,2,0,1],1)],
 [([3,2,1,0],1)]]
def mT4_1 : List (List Cls):=[
 [([0,1,3,2],1)],
 [([0,1,4,2,3],1),([0,2,3,1],1)],
 [([0,2,3,1],1),([0,3,1,2],1)],
 [([0,2,4,1,3],1),([1,2,3,0],1)],
 [([0,3,2,1],1),([0,4,1,2,3],1)],
 [([0,3,4,1,2],1),([0,4,2,1,3],1),([1,3,2,0],1)],
 [([1,0,3,2],1)],
 [([1,0,4,2,3],1),([1,2,3,0],1),([2,0,3,1],1)],
 [([1,2,3,0],1),([1,3,0,2],1)],
 [([1,2,4,0,3],1)],
 [([1,3,2,0],1),([1,4,0,2,3],1),([2,3,0,1],1)],
 [([1,3,4,0,2],1),([1,4,2,0,3],1)],
 [([2,0,3,1],1),([3,0,1,2],1)],
 [([2,0,4,1,3],1),([2,1,3,0],1)],
 [([2,1,3,0],1),([2,3,0,1],1),([3,1,0,2],1)],
 [([2,1,4,0,3],1)],
 [([2,3,1,0],1),([2,4,0,1,3],1)],
 [([2,3,4,0,1],1),([2,4,1,0,3],1)],
 [([3,0,2,1],1),([4,0,1,2,3],1)],
 [([3,0,4,1,2],1),([3,1,2,0],1),([4,0,2,1,3],1)],
 [([3,1,2,0],1),([3,2,0,1],1),([4,1,0,2,3],1)],
 [([3,1,4,0,2],1),([4,1,2,0,3],1)],
 [([3,2,1,0],1),([3,4,0,1,2],1),([4,2,0,1,3],1)],
 [([3,2,4,0,1],1),([3,4,1,0,2],1),([4,2,1,0,3],1)]]
def mT4_2 : List (List Cls):=[
 [([0,2,1],1)],
 [([0,2,3,1],1),([0,3,1,2],1)],
 [([0,3,1,2],1),([1,2,0],1)],
 [([0,3,2,1],1),([1,2,3,0],1)],
 [([0,4,1,2,3],1),([1,3,0,2],1)],
 [([0,4,2,1,3],1),([1,3,2,0],1),([2,3,0,1],1)],
 [([1,2,0],1),([2,0,1],1)],
 [([1,2,3,0],1),([2,0,3,1],1),([1,3,0,2],1),([3,0,1,2],1)],
 [([1,3,0,2],1)],
 [([1,3,2,0],1)],
 [([1,4,0,2,3],1),([2,3,0,1],1)],
 [([1,4,2,0,3],1),([2,3,1,0],1)],
 [([2,1,0],1),([3,0,1,2],1)],
 [([2,1,3,0],1),([3,0,2,1],1),([2,3,0,1],1)],
 [([2,3,0,1],1),([3,1,0,2],1)],
 [([2,3,1,0],1),([3,1,2,0],1)],
 [([2,4,0,1,3],1)],
 [([2,4,1,0,3],1)],
 [([3,1,0,2],1),([4,0,1,2,3],1)],
 [([3,1,2,0],1),([4,0,2,1,3],1),([3,2,0,1],1)],
 [([3,2,0,1],1),([4,1,0,2,3],1)],
 [([3,2,1,0],1),([4,1,2,0,3],1)],
 [([3,4,0,1,2],1),([4,2,0,1,3],1)],
 [([3,4,1,0,2],1),([4,2,1,0,3],1)]]
def mT4_3 : List (List Cls):=[
 [([0,2,3,1],1)],
 [([0,2,4,1,3],1),([1,2,3,0],1)],
 [([0,3,2,1],1),([1,2,3,0],1)],
 [([0,3,4,1,2],1),([1,2,4,0,3],1)],
 [([0,4,2,1,3],1),([1,3,2,0],1)],
 [([0,4,3,1,2],1),([1,3,4,0,2],1),([1,4,2,0,3],1)],
 [([1,2,3,0],1),([2,0,3,1],1)],
 [([1,2,4,0,3],1),([2,0,4,1,3],1),([2,1,3,0],1)],
 [([1,3,2,0],1),([2,3,0,1],1)],
 [([1,3,4,0,2],1)],
 [([1,4,2,0,3],1),([2,3,1,0],1),([2,4,0,1,3],1)],
 [([1,4,3,0,2],1),([2,3,4,0,1],1)],
 [([2,1,3,0],1),([3,0,2,1],1)],
 [([2,1,4,0,3],1),([3,0,4,1,2],1)],
 [([2,3,1,0],1),([3,1,2,0],1),([3,2,0,1],1)],
 [([2,3,4,0,1],1),([3,1,4,0,2],1)],
 [([2,4,1,0,3],1),([3,4,0,1,2],1)],
 [([2,4,3,0,1],1),([3,4,1,0,2],1)],
 [([3,1,2,0],1),([4,0,2,1,3],1)],
 [([3,1,4,0,2],1),([4,0,3,1,2],1),([4,1,2,0,3],1)],
 [([3,2,1,0],1),([4,1,2,0,3],1),([4,2,0,1,3],1)],
 [([3,2,4,0,1],1),([4,1,3,0,2],1)],
 [([3,4,1,0,2],1),([4,2,1,0,3],1),([4,3,0,1,2],1)],
 [([3,4,2,0,1],1),([4,2,3,0,1],1),([4,3,1,0,2],1)]]
def mT4_4 : List (List Cls):=[
 [([0,3,1,2],1)],
 [([0,3,2,1],1),([0,4,1,2,3],1)],
 [([0,4,1,2,3],1),([1,3,0,2],1)],
 [([0,4,2,1,3],1),([1,3,2,0],1)],
 [([0,5,1,2,3,4],1),([1,4,0,2,3],1),([2,3,0,1],1)],
 [([0,5,2,1,3,4],1),([1,4,2,0,3],1),([2,3,1,0],1),([2,4,0,1,3],1)],
 [([1,3,0,2],1),([3,0,1,2],1)],
 [([1,3,2,0],1),([3,0,2,1],1),([1,4,0,2,3],1),([2,3,0,1],1),([4,0,1,2,3],1)],
 [([1,4,0,2,3],1)],
 [([1,4,2,0,3],1)],
 [([1,5,0,2,3,4],1),([2,4,0,1,3],1)],
 [([1,5,2,0,3,4],1),([2,4,1,0,3],1)],
 [([2,3,0,1],1),([3,1,0,2],1),([4,0,1,2,3],1)],
 [([2,3,1,0],1),([3,1,2,0],1),([4,0,2,1,3],1),([2,4,0,1,3],1)],
 [([2,4,0,1,3],1),([4,1,0,2,3],1)],
 [([2,4,1,0,3],1),([4,1,2,0,3],1)],
 [([2,5,0,1,3,4],1)],
 [([2,5,1,0,3,4],1)],
 [([3,2,0,1],1),([4,1,0,2,3],1),([5,0,1,2,3,4],1)],
 [([3,2,1,0],1),([4,1,2,0,3],1),([5,0,2,1,3,4],1),([3,4,0,1,2],1),([4,2,0,1,3],1)],
 [([3,4,0,1,2],1),([4,2,0,1,3],1),([5,1,0,2,3,4],1)],
 [([3,4,1,0,2],1),([4,2,1,0,3],1),([5,1,2,0,3,4],1)],
 [([3,5,0,1,2,4],1),([5,2,0,1,3,4],1)],
 [([3,5,1,0,2,4],1),([5,2,1,0,3,4],1)]]
def mT4_5 : List (List Cls):=[
 [([0,3,2,1],1)],
 [([0,3,4,1,2],1),([0,4,2,1,3],1),([1,3,2,0],1)],
 [([0,4,2,1,3],1),([1,3,2,0],1),([2,3,0,1],1)],
 [([0,4,3,1,2],1),([1,3,4,0,2],1),([1,4,2,0,3],1)],
 [([0,5,2,1,3,4],1),([1,4,2,0,3],1),([2,3,1,0],1),([2,4,0,1,3],1)],
 [([0,5,3,1,2,4],1),([1,4,3,0,2],1),([2,3,4,0,1],1),([1,5,2,0,3,4],1),([2,4,1,0,3],1),([3,4,0,1,2],1)],
 [([1,3,2,0],1),([3,0,2,1],1),([2,3,0,1],1)],
 [([1,3,4,0,2],1),([3,0,4,1,2],1),([1,4,2,0,3],1),([2,3,1,0],1),([3,1,2,0],1),([4,0,2,1,3],1),([2,4,0,1,3],1)],
 [([1,4,2,0,3],1),([2,4,0,1,3],1)],
 [([1,4,3,0,2],1)],
 [([1,5,2,0,3,4],1),([2,4,1,0,3],1),([2,5,0,1,3,4],1),([3,4,0,1,2],1)],
 [([1,5,3,0,2,4],1),([2,4,3,0,1],1),([3,4,1,0,2],1)],
 [([2,3,1,0],1),([3,1,2,0],1),([4,0,2,1,3],1),([3,2,0,1],1)],
 [([2,3,4,0,1],1),([3,1,4,0,2],1),([4,0,3,1,2],1),([2,4,1,0,3],1),([4,1,2,0,3],1),([3,4,0,1,2],1)],
 [([2,4,1,0,3],1),([4,1,2,0,3],1),([3,4,0,1,2],1),([4,2,0,1,3],1)],
 [([2,4,3,0,1],1),([4,1,3,0,2],1),([3,4,1,0,2],1)],
 [([2,5,1,0,3,4],1),([3,5,0,1,2,4],1)],
 [([2,5,3,0,1,4],1),([3,5,1,0,2,4],1)],
 [([3,2,1,0],1),([4,1,2,0,3],1),([5,0,2,1,3,4],1),([4,2,0,1,3],1)],
 [([3,2,4,0,1],1),([4,1,3,0,2],1),([5,0,3,1,2,4],1),([3,4,1,0,2],1),([4,2,1,0,3],1),([5,1,2,0,3,4],1),([4,3,0,1,2],1)],
 [([3,4,1,0,2],1),([4,2,1,0,3],1),([5,1,2,0,3,4],1),([4,3,0,1,2],1),([5,2,0,1,3,4],1)],
 [([3,4,2,0,1],1),([4,2,3,0,1],1),([5,1,3,0,2,4],1),([4,3,1,0,2],1)],
 [([3,5,1,0,2,4],1),([5,2,1,0,3,4],1),([4,5,0,1,2,3],1),([5,3,0,1,2,4],1)],
 [([3,5,2,0,1,4],1),([5,2,3,0,1,4],1),([4,5,1,0,2,3],1),([5,3,1,0,2,4],1)]]
def mT4_6 : List (List Cls):=[
 [([1,0],1)],
 [([1,0,3,2],1)],
 [([1,2,0],1),([2,0,1],1)],
 [([1,2,3,0],1),([2,0,3,1],1)],
 [([1,3,0,2],1),([3,0,1,2],1)],
 [([1,3,2,0],1),([3,0,2,1],1),([2,3,0,1],1)],
 [([2,0,1],1)],
 [([2,0,3,1],1),([3,0,1,2],1)],
 [([2,1,0],1)],
 [([2,1,3,0],1)],
 [([2,3,0,1],1),([3,1,0,2],1)],
 [([2,3,1,0],1),([3,1,2,0],1)],
 [([3,0,1,2],1)],
 [([3,0,2,1],1)],
 [([3,1,0,2],1)],
 [([3,1,2,0],1)],
 [([3,2,0,1],1)],
 [([3,2,1,0],1)],
 [([4,0,1,2,3],1)],
 [([4,0,2,1,3],1)],
 [([4,1,0,2,3],1)],
 [([4,1,2,0,3],1)],
 [([4,2,0,1,3],1)],
 [([4,2,1,0,3],1)]]
def mT4_7 : List (List Cls):=[
 [([1,0,3,2],1)],
 [([1,0,4,2,3],1),([1,2,3,0],1),([2,0,3,1],1)],
 [([1,2,3,0],1),([2,0,3,1],1),([1,3,0,2],1),([3,0,1,2],1)],
 [([1,2,4,0,3],1),([2,0,4,1,3],1),([2,1,3,0],1)],
 [([1,3,2,0],1),([3,0,2,1],1),([1,4,0,2,3],1),([2,3,0,1],1),([4,0,1,2,3],1)],
 [([1,3,4,0,2],1),([3,0,4,1,2],1),([1,4,2,0,3],1),([2,3,1,0],1),([3,1,2,0],1),([4,0,2,1,3],1),([2,4,0,1,3],1)],
 [([2,0,3,1],1),([3,0,1,2],1)],
 [([2,0,4,1,3],1),([2,1,3,0],1),([3,0,2,1],1),([4,0,1,2,3],1)],
 [([2,1,3,0],1),([2,3,0,1],1),([3,1,0,2],1)],
 [([2,1,4,0,3],1)],
 [([2,3,1,0],1),([3,1,2,0],1),([2,4,0,1,3],1),([3,2,0,1],1),([4,1,0,2,3],1)],
 [([2,3,4,0,1],1),([3,1,4,0,2],1),([2,4,1,0,3],1),([4,1,2,0,3],1)],
 [([3,0,2,1],1),([4,0,1,2,3],1)],
 [([3,0,4,1,2],1),([3,1,2,0],1),([4,0,2,1,3],1)],
 [([3,1,2,0],1),([3,2,0,1],1),([4,1,0,2,3],1)],
 [([3,1,4,0,2],1),([4,1,2,0,3],1)],
 [([3,2,1,0],1),([3,4,0,1,2],1),([4,2,0,1,3],1)],
 [([3,2,4,0,1],1),([3,4,1,0,2],1),([4,2,1,0,3],1)],
 [([4,0,2,1,3],1),([5,0,1,2,3,4],1)],
 [([4,0,3,1,2],1),([4,1,2,0,3],1),([5,0,2,1,3,4],1)],
 [([4,1,2,0,3],1),([4,2,0,1,3],1),([5,1,0,2,3,4],1)],
 [([4,1,3,0,2],1),([5,1,2,0,3,4],1)],
 [([4,2,1,0,3],1),([4,3,0,1,2],1),([5,2,0,1,3,4],1)],
 [([4,2,3,0,1],1),([4,3,1,0,2],1),([5,2,1,0,3,4],1)]]
def mT4_8 : List (List Cls):=[
 [([1,2,0],1)],
 [([1,2,3,0],1),([1,3,0,2],1)],
 [([1,3,0,2],1)],
 [([1,3,2,0],1),([2,3,0,1],1)],
 [([1,4,0,2,3],1)],
 [([1,4,2,0,3],1),([2,4,0,1,3],1)],
 [([2,1,0],1)],
 [([2,1,3,0],1),([2,3,0,1],1),([3,1,0,2],1)],
 [([2,3,0,1],1)],
 [([2,3,1,0],1)],
 [([2,4,0,1,3],1)],
 [([2,4,1,0,3],1)],
 [([3,1,0,2],1)],
 [([3,1,2,0],1),([3,2,0,1],1)],
 [([3,2,0,1],1)],
 [([3,2,1,0],1)],
 [([3,4,0,1,2],1)],
 [([3,4,1,0,2],1)],
 [([4,1,0,2,3],1)],
 [([4,1,2,0,3],1),([4,2,0,1,3],1)],
 [([4,2,0,1,3],1)],
 [([4,2,1,0,3],1)],
 [([4,3,0,1,2],1)],
 [([4,3,1,0,2],1)]]
def mT4_9 : List (List Cls):=[
 [([1,2,3,0],1)],
 [([1,2,4,0,3],1)],
 [([1,3,2,0],1)],
 [([1,3,4,0,2],1)],
 [([1,4,2,0,3],1)],
 [([1,4,3,0,2],1)],
 [([2,1,3,0],1)],
 [([2,1,4,0,3],1)],
 [([2,3,1,0],1)],
 [([2,3,4,0,1],1)],
 [([2,4,1,0,3],1)],
 [([2,4,3,0,1],1)],
 [([3,1,2,0],1)],
 [([3,1,4,0,2],1)],
 [([3,2,1,0],1)],
 [([3,2,4,0,1],1)],
 [([3,4,1,0,2],1)],
 [([3,4,2,0,1],1)],
 [([4,1,2,0,3],1)],
 [([4,1,3,0,2],1)],
 [([4,2,1,0,3],1)],
 [([4,2,3,0,1],1)],
 [([4,3,1,0,2],1)],
 [([4,3,2,0,1],1)]]
def mT4_10 : List (List Cls):=[
 [([1,3,0,2],1)],
 [([1,3,2,0],1),([1,4,0,2,3],1),([2,3,0,1],1)],
 [([1,4,0,2,3],1),([2,3,0,1],1)],
 [([1,4,2,0,3],1),([2,3,1,0],1),([2,4,0,1,3],1)],
 [([1,5,0,2,3,4],1),([2,4,0,1,3],1)],
 [([1,5,2,0,3,4],1),([2,4,1,0,3],1),([2,5,0,1,3,4],1),([3,4,0,1,2],1)],
 [([2,3,0,1],1),([3,1,0,2],1)],
 [([2,3,1,0],1),([3,1,2,0],1),([2,4,0,1,3],1),([3,2,0,1],1),([4,1,0,2,3],1)],
 [([2,4,0,1,3],1)],
 [([2,4,1,0,3],1)],
 [([2,5,0,1,3,4],1),([3,4,0,1,2],1)],
 [([2,5,1,0,3,4],1),([3,4,1,0,2],1)],
 [([3,2,0,1],1),([4,1,0,2,3],1)],
 [([3,2,1,0],1),([4,1,2,0,3],1),([3,4,0,1,2],1),([4,2,0,1,3],1)],
 [([3,4,0,1,2],1),([4,2,0,1,3],1)],
 [([3,4,1,0,2],1),([4,2,1,0,3],1)],
 [([3,5,0,1,2,4],1)],
 [([3,5,1,0,2,4],1)],
 [([4,2,0,1,3],1),([5,1,0,2,3,4],1)],
 [([4,2,1,0,3],1),([5,1,2,0,3,4],1),([4,3,0,1,2],1),([5,2,0,1,3,4],1)],
 [([4,3,0,1,2],1),([5,2,0,1,3,4],1)],
 [([4,3,1,0,2],1),([5,2,1,0,3,4],1)],
 [([4,5,0,1,2,3],1),([5,3,0,1,2,4],1)],
 [([4,5,1,0,2,3],1),([5,3,1,0,2,4],1)]]
def mT4_11 : List (List Cls):=[
 [([1,3,2,0],1)],
 [([1,3,4,0,2],1),([1,4,2,0,3],1)],
 [([1,4,2,0,3],1),([2,3,1,0],1)],
 [([1,4,3,0,2],1),([2,3,4,0,1],1)],
 [([1,5,2,0,3,4],1),([2,4,1,0,3],1)],
 [([1,5,3,0,2,4],1),([2,4,3,0,1],1),([3,4,1,0,2],1)],
 [([2,3,1,0],1),([3,1,2,0],1)],
 [([2,3,4,0,1],1),([3,1,4,0,2],1),([2,4,1,0,3],1),([4,1,2,0,3],1)],
 [([2,4,1,0,3],1)],
 [([2,4,3,0,1],1)],
 [([2,5,1,0,3,4],1),([3,4,1,0,2],1)],
 [([2,5,3,0,1,4],1),([3,4,2,0,1],1)],
 [([3,2,1,0],1),([4,1,2,0,3],1)],
 [([3,2,4,0,1],1),([4,1,3,0,2],1),([3,4,1,0,2],1)],
 [([3,4,1,0,2],1),([4,2,1,0,3],1)],
 [([3,4,2,0,1],1),([4,2,3,0,1],1)],
 [([3,5,1,0,2,4],1)],
 [([3,5,2,0,1,4],1)],
 [([4,2,1,0,3],1),([5,1,2,0,3,4],1)],
 [([4,2,3,0,1],1),([5,1,3,0,2,4],1),([4,3,1,0,2],1)],
 [([4,3,1,0,2],1),([5,2,1,0,3,4],1)],
 [([4,3,2,0,1],1),([5,2,3,0,1,4],1)],
 [([4,5,1,0,2,3],1),([5,3,1,0,2,4],1)],
 [([4,5,2,0,1,3],1),([5,3,2,0,1,4],1)]]
def mT4_12 : List (List Cls):=[
 [([2,0,1],1)],
 [([2,0,3,1],1),([3,0,1,2],1)],
 [([2,1,0],1),([3,0,1,2],1)],
 [([2,1,3,0],1),([3,0,2,1],1)],
 [([2,3,0,1],1),([3,1,0,2],1),([4,0,1,2,3],1)],
 [([2,3,1,0],1),([3,1,2,0],1),([4,0,2,1,3],1),([3,2,0,1],1)],
 [([3,0,1,2],1)],
 [([3,0,2,1],1),([4,0,1,2,3],1)],
 [([3,1,0,2],1)],
 [([3,1,2,0],1)],
 [([3,2,0,1],1),([4,1,0,2,3],1)],
 [([3,2,1,0],1),([4,1,2,0,3],1)],
 [([4,0,1,2,3],1)],
 [([4,0,2,1,3],1)],
 [([4,1,0,2,3],1)],
 [([4,1,2,0,3],1)],
 [([4,2,0,1,3],1)],
 [([4,2,1,0,3],1)],
 [([5,0,1,2,3,4],1)],
 [([5,0,2,1,3,4],1)],
 [([5,1,0,2,3,4],1)],
 [([5,1,2,0,3,4],1)],
 [([5,2,0,1,3,4],1)],
 [([5,2,1,0,3,4],1)]]
def mT4_13 : List (List Cls):=[
 [([2,0,3,1],1)],
 [([2,0,4,1,3],1),([2,1,3,0],1)],
 [([2,1,3,0],1),([3,0,2,1],1),([2,3,0,1],1)],
 [([2,1,4,0,3],1),([3,0,4,1,2],1)],
 [([2,3,1,0],1),([3,1,2,0],1),([4,0,2,1,3],1),([2,4,0,1,3],1)],
 [([2,3,4,0,1],1),([3,1,4,0,2],1),([4,0,3,1,2],1),([2,4,1,0,3],1),([4,1,2,0,3],1),([3,4,0,1,2],1)],
 [([3,0,2,1],1)],
 [([3,0,4,1,2],1),([3,1,2,0],1),([4,0,2,1,3],1)],
 [([3,1,2,0],1),([3,2,0,1],1)],
 [([3,1,4,0,2],1)],
 [([3,2,1,0],1),([4,1,2,0,3],1),([3,4,0,1,2],1),([4,2,0,1,3],1)],
 [([3,2,4,0,1],1),([4,1,3,0,2],1),([3,4,1,0,2],1)],
 [([4,0,2,1,3],1)],
 [([4,0,3,1,2],1),([4,1,2,0,3],1)],
 [([4,1,2,0,3],1),([4,2,0,1,3],1)],
 [([4,1,3,0,2],1)],
 [([4,2,1,0,3],1),([4,3,0,1,2],1)],
 [([4,2,3,0,1],1),([4,3,1,0,2],1)],
 [([5,0,2,1,3,4],1)],
 [([5,0,3,1,2,4],1),([5,1,2,0,3,4],1)],
 [([5,1,2,0,3,4],1),([5,2,0,1,3,4],1)],
 [([5,1,3,0,2,4],1)],
 [([5,2,1,0,3,4],1),([5,3,0,1,2,4],1)],
 [([5,2,3,0,1,4],1),([5,3,1,0,2,4],1)]]
def mT4_14 : List (List Cls):=[
 [([2,1,0],1)],
 [([2,1,3,0],1),([2,3,0,1],1),([3,1,0,2],1)],
 [([2,3,0,1],1),([3,1,0,2],1)],
 [([2,3,1,0],1),([3,1,2,0],1),([3,2,0,1],1)],
 [([2,4,0,1,3],1),([4,1,0,2,3],1)],
 [([2,4,1,0,3],1),([4,1,2,0,3],1),([3,4,0,1,2],1),([4,2,0,1,3],1)],
 [([3,1,0,2],1)],
 [([3,1,2,0],1),([3,2,0,1],1),([4,1,0,2,3],1)],
 [([3,2,0,1],1)],
 [([3,2,1,0],1)],
 [([3,4,0,1,2],1),([4,2,0,1,3],1)],
 [([3,4,1,0,2],1),([4,2,1,0,3],1)],
 [([4,1,0,2,3],1)],
 [([4,1,2,0,3],1),([4,2,0,1,3],1)],
 [([4,2,0,1,3],1)],
 [([4,2,1,0,3],1)],
 [([4,3,0,1,2],1)],
 [([4,3,1,0,2],1)],
 [([5,1,0,2,3,4],1)],
 [([5,1,2,0,3,4],1),([5,2,0,1,3,4],1)],
 [([5,2,0,1,3,4],1)],
 [([5,2,1,0,3,4],1)],
 [([5,3,0,1,2,4],1)],
 [([5,3,1,0,2,4],1)]]
def mT4_15 : List (List Cls):=[
 [([2,1,3,0],1)],
 [([2,1,4,0,3],1)],
 [([2,3,1,0],1),([3,1,2,0],1)],
 [([2,3,4,0,1],1),([3,1,4,0,2],1)],
 [([2,4,1,0,3],1),([4,1,2,0,3],1)],
 [([2,4,3,0,1],1),([4,1,3,0,2],1),([3,4,1,0,2],1)],
 [([3,1,2,0],1)],
 [([3,1,4,0,2],1),([4,1,2,0,3],1)],
 [([3,2,1,0],1)],
 [([3,2,4,0,1],1)],
 [([3,4,1,0,2],1),([4,2,1,0,3],1)],
 [([3,4,2,0,1],1),([4,2,3,0,1],1)],
 [([4,1,2,0,3],1)],
 [([4,1,3,0,2],1)],
 [([4,2,1,0,3],1)],
 [([4,2,3,0,1],1)],
 [([4,3,1,0,2],1)],
 [([4,3,2,0,1],1)],
 [([5,1,2,0,3,4],1)],
 [([5,1,3,0,2,4],1)],
 [([5,2,1,0,3,4],1)],
 [([5,2,3,0,1,4],1)],
 [([5,3,1,0,2,4],1)],
 [([5,3,2,0,1,4],1)]]
def mT4_16 : List (List Cls):=[
 [([2,3,0,1],1)],
 [([2,3,1,0],1),([2,4,0,1,3],1)],
 [([2,4,0,1,3],1)],
 [([2,4,1,0,3],1),([3,4,0,1,2],1)],
 [([2,5,0,1,3,4],1)],
 [([2,5,1,0,3,4],1),([3,5,0,1,2,4],1)],
 [([3,2,0,1],1)],
 [([3,2,1,0],1),([3,4,0,1,2],1),([4,2,0,1,3],1)],
 [([3,4,0,1,2],1)],
 [([3,4,1,0,2],1)],
 [([3,5,0,1,2,4],1)],
 [([3,5,1,0,2,4],1)],
 [([4,2,0,1,3],1)],
 [([4,2,1,0,3],1),([4,3,0,1,2],1)],
 [([4,3,0,1,2],1)],
 [([4,3,1,0,2],1)],
 [([4,5,0,1,2,3],1)],
 [([4,5,1,0,2,3],1)],
 [([5,2,0,1,3,4],1)],
 [([5,2,1,0,3,4],1),([5,3,0,1,2,4],1)],
 [([5,3,0,1,2,4],1)],
 [([5,3,1,0,2,4],1)],
 [([5,4,0,1,2,3],1)],
 [([5,4,1,0,2,3],1)]]
def mT4_17 : List (List Cls):=[
 [([2,3,1,0],1)],
 [([2,3,4,0,1],1),([2,4,1,0,3],1)],
 [([2,4,1,0,3],1)],
 [([2,4,3,0,1],1),([3,4,1,0,2],1)],
 [([2,5,1,0,3,4],1)],
 [([2,5,3,0,1,4],1),([3,5,1,0,2,4],1)],
 [([3,2,1,0],1)],
 [([3,2,4,0,1],1),([3,4,1,0,2],1),([4,2,1,0,3],1)],
 [([3,4,1,0,2],1)],
 [([3,4,2,0,1],1)],
 [([3,5,1,0,2,4],1)],
 [([3,5,2,0,1,4],1)],
 [([4,2,1,0,3],1)],
 [([4,2,3,0,1],1),([4,3,1,0,2],1)],
 [([4,3,1,0,2],1)],
 [([4,3,2,0,1],1)],
 [([4,5,1,0,2,3],1)],
 [([4,5,2,0,1,3],1)],
 [([5,2,1,0,3,4],1)],
 [([5,2,3,0,1,4],1),([5,3,1,0,2,4],1)],
 [([5,3,1,0,2,4],1)],
 [([5,3,2,0,1,4],1)],
 [([5,4,1,0,2,3],1)],
 [([5,4,2,0,1,3],1)]]
def mT4_18 : List (List Cls):=[
 [([3,0,1,2],1)],
 [([3,0,2,1],1),([4,0,1,2,3],1)],
 [([3,1,0,2],1),([4,0,1,2,3],1)],
 [([3,1,2,0],1),([4,0,2,1,3],1)],
 [([3,2,0,1],1),([4,1,0,2,3],1),([5,0,1,2,3,4],1)],
 [([3,2,1,0],1),([4,1,2,0,3],1),([5,0,2,1,3,4],1),([4,2,0,1,3],1)],
 [([4,0,1,2,3],1)],
 [([4,0,2,1,3],1),([5,0,1,2,3,4],1)],
 [([4,1,0,2,3],1)],
 [([4,1,2,0,3],1)],
 [([4,2,0,1,3],1),([5,1,0,2,3,4],1)],
 [([4,2,1,0,3],1),([5,1,2,0,3,4],1)],
 [([5,0,1,2,3,4],1)],
 [([5,0,2,1,3,4],1)],
 [([5,1,0,2,3,4],1)],
 [([5,1,2,0,3,4],1)],
 [([5,2,0,1,3,4],1)],
 [([5,2,1,0,3,4],1)],
 [([6,0,1,2,3,4,5],1)],
 [([6,0,2,1,3,4,5],1)],
 [([6,1,0,2,3,4,5],1)],
 [([6,1,2,0,3,4,5],1)],
 [([6,2,0,1,3,4,5],1)],
 [([6,2,1,0,3,4,5],1)]]
def mT4_19 : List (List Cls):=[
 [([3,0,2,1],1)],
 [([3,0,4,1,2],1),([3,1,2,0],1),([4,0,2,1,3],1)],
 [([3,1,2,0],1),([4,0,2,1,3],1),([3,2,0,1],1)],
 [([3,1,4,0,2],1),([4,0,3,1,2],1),([4,1,2,0,3],1)],
 [([3,2,1,0],1),([4,1,2,0,3],1),([5,0,2,1,3,4],1),([3,4,0,1,2],1),([4,2,0,1,3],1)],
 [([3,2,4,0,1],1),([4,1,3,0,2],1),([5,0,3,1,2,4],1),([3,4,1,0,2],1),([4,2,1,0,3],1),([5,1,2,0,3,4],1),([4,3,0,1,2],1)],
 [([4,0,2,1,3],1)],
 [([4,0,3,1,2],1),([4,1,2,0,3],1),([5,0,2,1,3,4],1)],
 [([4,1,2,0,3],1),([4,2,0,1,3],1)],
 [([4,1,3,0,2],1)],
 [([4,2,1,0,3],1),([5,1,2,0,3,4],1),([4,3,0,1,2],1),([5,2,0,1,3,4],1)],
 [([4,2,3,0,1],1),([5,1,3,0,2,4],1),([4,3,1,0,2],1)],
 [([5,0,2,1,3,4],1)],
 [([5,0,3,1,2,4],1),([5,1,2,0,3,4],1)],
 [([5,1,2,0,3,4],1),([5,2,0,1,3,4],1)],
 [([5,1,3,0,2,4],1)],
 [([5,2,1,0,3,4],1),([5,3,0,1,2,4],1)],
 [([5,2,3,0,1,4],1),([5,3,1,0,2,4],1)],
 [([6,0,2,1,3,4,5],1)],
 [([6,0,3,1,2,4,5],1),([6,1,2,0,3,4,5],1)],
 [([6,1,2,0,3,4,5],1),([6,2,0,1,3,4,5],1)],
 [([6,1,3,0,2,4,5],1)],
 [([6,2,1,0,3,4,5],1),([6,3,0,1,2,4,5],1)],
 [([6,2,3,0,1,4,5],1),([6,3,1,0,2,4,5],1)]]
def mT4_20 : List (List Cls):=[
 [([3,1,0,2],1)],
 [([3,1,2,0],1),([3,2,0,1],1),([4,1,0,2,3],1)],
 [([3,2,0,1],1),([4,1,0,2,3],1)],
 [([3,2,1,0],1),([4,1,2,0,3],1),([4,2,0,1,3],1)],
 [([3,4,0,1,2],1),([4,2,0,1,3],1),([5,1,0,2,3,4],1)],
 [([3,4,1,0,2],1),([4,2,1,0,3],1),([5,1,2,0,3,4],1),([4,3,0,1,2],1),([5,2,0,1,3,4],1)],
 [([4,1,0,2,3],1)],
 [([4,1,2,0,3],1),([4,2,0,1,3],1),([5,1,0,2,3,4],1)],
 [([4,2,0,1,3],1)],
 [([4,2,1,0,3],1)],
 [([4,3,0,1,2],1),([5,2,0,1,3,4],1)],
 [([4,3,1,0,2],1),([5,2,1,0,3,4],1)],
 [([5,1,0,2,3,4],1)],
 [([5,1,2,0,3,4],1),([5,2,0,1,3,4],1)],
 [([5,2,0,1,3,4],1)],
 [([5,2,1,0,3,4],1)],
 [([5,3,0,1,2,4],1)],
 [([5,3,1,0,2,4],1)],
 [([6,1,0,2,3,4,5],1)],
 [([6,1,2,0,3,4,5],1),([6,2,0,1,3,4,5],1)],
 [([6,2,0,1,3,4,5],1)],
 [([6,2,1,0,3,4,5],1)],
 [([6,3,0,1,2,4,5],1)],
 [([6,3,1,0,2,4,5],1)]]
def mT4_21 : List (List Cls):=[
 [([3,1,2,0],1)],
 [([3,1,4,0,2],1),([4,1,2,0,3],1)],
 [([3,2,1,0],1),([4,1,2,0,3],1)],
 [([3,2,4,0,1],1),([4,1,3,0,2],1)],
 [([3,4,1,0,2],1),([4,2,1,0,3],1),([5,1,2,0,3,4],1)],
 [([3,4,2,0,1],1),([4,2,3,0,1],1),([5,1,3,0,2,4],1),([4,3,1,0,2],1)],
 [([4,1,2,0,3],1)],
 [([4,1,3,0,2],1),([5,1,2,0,3,4],1)],
 [([4,2,1,0,3],1)],
 [([4,2,3,0,1],1)],
 [([4,3,1,0,2],1),([5,2,1,0,3,4],1)],
 [([4,3,2,0,1],1),([5,2,3,0,1,4],1)],
 [([5,1,2,0,3,4],1)],
 [([5,1,3,0,2,4],1)],
 [([5,2,1,0,3,4],1)],
 [([5,2,3,0,1,4],1)],
 [([5,3,1,0,2,4],1)],
 [([5,3,2,0,1,4],1)],
 [([6,1,2,0,3,4,5],1)],
 [([6,1,3,0,2,4,5],1)],
 [([6,2,1,0,3,4,5],1)],
 [([6,2,3,0,1,4,5],1)],
 [([6,3,1,0,2,4,5],1)],
 [([6,3,2,0,1,4,5],1)]]
def mT4_22 : List (List Cls):=[
 [([3,2,0,1],1)],
 [([3,2,1,0],1),([3,4,0,1,2],1),([4,2,0,1,3],1)],
 [([3,4,0,1,2],1),([4,2,0,1,3],1)],
 [([3,4,1,0,2],1),([4,2,1,0,3],1),([4,3,0,1,2],1)],
 [([3,5,0,1,2,4],1),([5,2,0,1,3,4],1)],
 [([3,5,1,0,2,4],1),([5,2,1,0,3,4],1),([4,5,0,1,2,3],1),([5,3,0,1,2,4],1)],
 [([4,2,0,1,3],1)],
 [([4,2,1,0,3],1),([4,3,0,1,2],1),([5,2,0,1,3,4],1)],
 [([4,3,0,1,2],1)],
 [([4,3,1,0,2],1)],
 [([4,5,0,1,2,3],1),([5,3,0,1,2,4],1)],
 [([4,5,1,0,2,3],1),([5,3,1,0,2,4],1)],
 [([5,2,0,1,3,4],1)],
 [([5,2,1,0,3,4],1),([5,3,0,1,2,4],1)],
 [([5,3,0,1,2,4],1)],
 [([5,3,1,0,2,4],1)],
 [([5,4,0,1,2,3],1)],
 [([5,4,1,0,2,3],1)],
 [([6,2,0,1,3,4,5],1)],
 [([6,2,1,0,3,4,5],1),([6,3,0,1,2,4,5],1)],
 [([6,3,0,1,2,4,5],1)],
 [([6,3,1,0,2,4,5],1)],
 [([6,4,0,1,2,3,5],1)],
 [([6,4,1,0,2,3,5],1)]]
def mT4_23 : List (List Cls):=[
 [([3,2,1,0],1)],
 [([3,2,4,0,1],1),([3,4,1,0,2],1),([4,2,1,0,3],1)],
 [([3,4,1,0,2],1),([4,2,1,0,3],1)],
 [([3,4,2,0,1],1),([4,2,3,0,1],1),([4,3,1,0,2],1)],
 [([3,5,1,0,2,4],1),([5,2,1,0,3,4],1)],
 [([3,5,2,0,1,4],1),([5,2,3,0,1,4],1),([4,5,1,0,2,3],1),([5,3,1,0,2,4],1)],
 [([4,2,1,0,3],1)],
 [([4,2,3,0,1],1),([4,3,1,0,2],1),([5,2,1,0,3,4],1)],
 [([4,3,1,0,2],1)],
 [([4,3,2,0,1],1)],
 [([4,5,1,0,2,3],1),([5,3,1,0,2,4],1)],
 [([4,5,2,0,1,3],1),([5,3,2,0,1,4],1)],
 [([5,2,1,0,3,4],1)],
 [([5,2,3,0,1,4],1),([5,3,1,0,2,4],1)],
 [([5,3,1,0,2,4],1)],
 [([5,3,2,0,1,4],1)],
 [([5,4,1,0,2,3],1)],
 [([5,4,2,0,1,3],1)],
 [([6,2,1,0,3,4,5],1)],
 [([6,2,3,0,1,4,5],1),([6,3,1,0,2,4,5],1)],
 [([6,3,1,0,2,4,5],1)],
 [([6,3,2,0,1,4,5],1)],
 [([6,4,1,0,2,3,5],1)],
 [([6,4,2,0,1,3,5],1)]]
def mT4 : List (List (List Cls)):=[mT4_0,mT4_1,mT4_2,mT4_3,mT4_4,mT4_5,mT4_6,mT4_7,mT4_8,mT4_9,mT4_10,mT4_11,mT4_12,mT4_13,mT4_14,mT4_15,mT4_16,mT4_17,mT4_18,mT4_19,mT4_20,mT4_21,mT4_22,mT4_23]
def mT : Nat→List (List (List Cls))
 | 1=>mT1
 | 2=>mT2
 | 3=>mT3
 | _=>mT4
end
end Go.Proofs.YtijadclebjcckaaGreat
