/-
  A part of the proof of FnTop (texts of one proof, joined).
-/
import Derived.Test.YtijadclebjcckaaGreatJ16
namespace Go.Proofs.YtijadclebjcckaaGreat
set_option linter.all false
set_option maxRecDepth 100000
set_option maxHeartbeats 16000000
section
open Go.RowKit Go.Lib
structure FilP (a b : List Int) (rows : Nat) (most : Int) : Prop where
 r16 : rows≤16
 la : a.length≤rows
 lb : b.length≤16
 ba : ∀ i,i < a.length→0≤a.getD i 0∧a.getD i 0≤1000
 bb : ∀ i,i < b.length→0≤b.getD i 0∧b.getD i 0≤1000
 bm : 0≤most∧most≤1000
theorem startL_len {a : List Int} {rows : Nat} (h : a.length≤rows) : (startL a rows).length=rows:=by unfold startL;simp;omega
theorem startL_getD {a : List Int} {rows i : Nat} : (startL a rows).getD i 0=a.getD i 0:=by
 unfold startL
 rw [List.getD_eq_getElem?_getD,List.getD_eq_getElem?_getD,List.getElem?_append]
 split
 ·rfl
 ·rw [List.getElem?_replicate,List.getElem?_eq_none (by omega)]
  split <;> rfl
theorem FilP.start {a : List Int} {c : Int} {cs : List Int} {rows : Nat} {most : Int} (h : FilP a (c :: cs) rows most) : LayP rows most (startL a rows) (c :: cs) (startL a rows) 0 c.toNat none (List.replicate rows 0):=by
 have hs : ∀ i,0≤(startL a rows).getD i 0∧(startL a rows).getD i 0≤1000:=fun i=>by
  rw [startL_getD]
  by_cases hi : i < a.length
  ·exact h.ba i hi
  ·rw [List.getD_eq_getElem?_getD,List.getElem?_eq_none (by omega)]
   exact ⟨by decide,by decide⟩
 have hc:=h.bb 0 (by simp)
 refine ⟨h.r16,startL_len h.la,startL_len h.la,List.length_replicate,Nat.zero_le _,fun _ _ _=>rfl,fun i _=>hs i,fun i _=>hs i,fun i hi=> ?_,(fun l hl=>by cases hl),by simp,h.lb,h.bb,?_,h.bm⟩
 ·simp [List.getD_eq_getElem?_getD,List.getElem?_replicate,hi]
 ·simp at hc
  omega
theorem cell_of_bel {w w' : World} {a : Addr} {v : Value} (hb : Below w.heap.size w w') (h : w.cell? a=some v) : w'.cell? a=some v:=cell_below hb h
theorem run_append_make_Z {P : Program} (w : World) (t ti ty e : TypeId) (z : Value) (bytes : Nat) (ht : P.underlying t=some (.slice e)) (hti : P.underlying ti=some (.int .i64))
 (hinfo : (P.info? e).map (fun i=>(i.zero,i.size,i.bytes))=some (some z,1,bytes)) (hzs : z.cells.size=1) (hz1 : ∀ u ∈ z.cells.toList,u.oneCell'=true) (hb : bytes≤1000) (hb0 : 0 < bytes)
 (lo hi' : Nat) (v : Value) (n : Nat) (f : Nat→Value) (hown : OwnF w lo hi' e v n f) (hlo : lo≤w.heap.size) (hhi : hi'≤w.heap.size) (m : Nat) (hnm : n+m≤1000000) :
 ∃ v' w',(Builtin.append_ #[t,ti] ty #[v,.int .i64 (m : Int)]).run P w=.ok v' w'∧OwnF w' lo w'.heap.size e v' (n+m) (fun j=>if j < n then f j else z.cells[0]!)∧w.grownBy w' v.ownBlock:=by
 rcases Nat.eq_zero_or_pos m with rfl | hm
 ·refine ⟨v,w,?_,(hown.mono (Nat.le_refl _) hhi).congr fun j hj=>by rw [if_pos hj],⟨rfl,rfl,rfl,Nat.le_refl _,fun _ _ _=>rfl⟩⟩
  obtain ⟨i,hi,hz,hsz,hby⟩:=info_parts hinfo
  obtain ⟨p,cap,rfl,hnc,_⟩:=hown.shape
  have hwr : IntKind.i64.wrap (0 : Int)=0:=by decide
  cases p <;> simp [Builtin.append_,run_underlying ht,run_underlying hti,sizeOf,typeInfo,zeroValue,hi,hz,hsz,asInt,asIntOf,hwr,hnc,storeCells]
 ·obtain ⟨v',w',h1,h2,h3,_⟩:=run_append_make_F (P:=P) w t ti ty e z bytes ht hti hinfo hzs hz1 hb hb0 lo hi' v n f hown hlo hhi m hm hnm
  exact ⟨v',w',h1,h2,h3⟩
theorem wpList_append_make_Z {P : Program} {w : World} {ops : Array Oper} {rest : List Oper} {o : Oper} {a : Act} {Q : Exit→Act→World→Prop} (hgd : o.guard=none) (s x : Operand) (t ti : TypeId)
 (ho : o.op=.call { callee:=.builtin .append,args:=#[s,x],argTypes:=#[t,ti] })
 (e : TypeId) (z : Value) (bytes : Nat) (ht : P.underlying t=some (.slice e)) (hti : P.underlying ti=some (.int .i64))
 (hinfo : (P.info? e).map (fun i=>(i.zero,i.size,i.bytes))=some (some z,1,bytes)) (hzs : z.cells.size=1) (hz1 : ∀ u ∈ z.cells.toList,u.oneCell'=true) (hb : bytes≤1000) (hb0 : 0 < bytes)
 (lo hi' : Nat) (v : Value) (n : Nat) (f : Nat→Value) (hs : a.eval s=v) (hown : OwnF w lo hi' e v n f) (hlo : lo≤w.heap.size) (hhi : hi'≤w.heap.size) (m : Nat) (hx : a.eval x=.int .i64 (m : Int)) (hnm : n+m≤1000000)
 (h : ∀ v' w',OwnF w' lo w'.heap.size e v' (n+m) (fun j=>if j < n then f j else z.cells[0]!)→w.grownBy w' v.ownBlock→wpList P ops Q rest (a.put o.dst v') w') :
 wpList P ops Q (o :: rest) a w:=by
 refine wpList_plain hgd fun K hK'=> ?_
 obtain ⟨v',w',hr,h2,h3⟩:=run_append_make_Z (P:=P) w t ti o.type e z bytes ht hti hinfo hzs hz1 hb hb0 lo hi' v n f hown hlo hhi m hnm
 unfold Oper.wp
 simp [execOp,ho,resolve,invoke,builtin,hs,hx,hr,Result.andThen]
 exact hK' _ _ (h v' w' h2 h3)
theorem fillings_any (va vb : Value) (a b : List Int) (rows : Nat) (most : Int) (w : World) (ha : Ints w va a) (hb : Ints w vb b) (hP : FilP a b rows most) (hm : (fsL a b rows most).length < 1000) :
 Calls Tryz.prog 24 #[va,vb,.int .i64 (rows : Int),.int .i64 most] w fun e w' =>
  ∃ u lo2,e=.returned u∧w.heap.size≤lo2∧OwnP2 w' w.heap.size lo2 w'.heap.size u (filL a b rows most)∧AscP (filL a b rows most)∧BdP (filL a b rows most) (fsL a b rows most).length∧Below w.heap.size w w':=by
 have h16:=hP.r16
 have hla:=hP.la
 have hlb:=hP.lb
 obtain ⟨m,hmr⟩ : ∃ m,rows=a.length+m:=⟨rows - a.length,by omega⟩
 have HA:=Lib.hid ha
 have HB:=Lib.hid hb
 have HP:=Lib.hid hP
 have Hm:=Lib.hid hm
 obtain ⟨pa,ka,rfl,_,_⟩:=ha
 obtain ⟨pb,kb,rfl,hkb1,hkb2⟩:=hb
 obtain ⟨na,hna⟩ : ∃ n,n=a.length:=⟨_,rfl⟩
 obtain ⟨nb,hnb⟩ : ∃ n,n=b.length:=⟨_,rfl⟩
 rw [← hna] at HA hla hmr ⊢
 rw [← hnb] at HB hkb1 hlb ⊢
 have Hna:=Lib.hid hna
 have Hnb:=Lib.hid hnb
 have hsub : (rows : Int) - (na : Int)=(m : Int):=by omega
 have Hmr:=Lib.hid hmr
 have HCl:=Lib.hid (show Calls Tryz.prog 42 #[.slice pa na ka] w fun e w'=> ∃ u,e=.returned u∧OwnI 3 w' w.heap.size w'.heap.size u a∧Below w.heap.size w w' from
  (by
    have h:=clone_any (.slice pa na ka) a w HA.out (by rw [← hna];omega)
    exact h))
 clear hm hP hna hnb hmr
 go_enter Tryz.func24,Tryz.ntmps24
 go_wp2_with fail
 refine HCl.out.mono ?_
 rintro e w1 ⟨u1,rfl,ho1,hb1⟩
 have Ho1:=Lib.hid ho1
 have Hb1:=Lib.hid hb1
 clear ho1 hb1 HCl
 go_wp2_with (at_builtin;go_must (refine wpList_append_make_Z rfl (.tmp 13) (.tmp 17) 24 3 rfl 3 (.int .i64 0) 8 Tryz.underlying24 Tryz.underlying3 info_int rfl (by intro u hu;simp [Value.cells] at hu;subst hu;rfl) (by decide) (by decide) w.heap.size _ _ na (iv a) rfl (by have h:=Ho1.out.fn;rw [← Hna.out] at h;exact h) Hb1.out.size (Nat.le_refl _) m rfl (by have:=Hmr.out;omega) ?_;intro v2 w2 ho2 hg2))
 all_goals
  have hBw2 : Below w.heap.size w w2:=⟨hg2.os.trans Hb1.out.os,hg2.tape.trans Hb1.out.tape,hg2.output.trans Hb1.out.output,Nat.le_trans Hb1.out.size hg2.size,fun k hk=>(hg2.block k (Nat.lt_of_lt_of_le hk Hb1.out.size) fun e=>by
   have:=(Own.block Ho1.out e.symm).1
   omega).trans (Hb1.out.block k hk)⟩
  have HI2:=Lib.hid (show OwnI 3 w2 w.heap.size w2.heap.size v2 (startL a rows) by
   refine OwnF.ints ?_
   rw [startL_len (by rw [← Hna.out];exact hla),Hmr.out]
   refine ho2.congr fun j hj=> ?_
   unfold iv
   rw [startL_getD]
   by_cases h : j < na
   ·rw [if_pos h]
   ·rw [if_neg h,List.getD_eq_getElem?_getD,List.getElem?_eq_none (by have:=Hna.out;omega)]
    rfl)
  obtain ⟨W0,hW0⟩ : ∃ W0,W0=((w2.alloc (.cells #[] 39)).alloc (.cells #[.slice (some ⟨w2.heap.size,0,none⟩) 0 0] 27)):=⟨_,rfl⟩
  have hs0 : W0.heap.size=w2.heap.size+2:=by rw [hW0,size_alloc,size_alloc]
  have hB0 : Below w2.heap.size w2 W0:=by rw [hW0];exact below_alloc2 _ _ _
  have hz1 : W0.heap[w2.heap.size]?=some (.cells #[] 39 (0,0)):=by rw [hW0];exact blk_later (heap_alloc_top _ _) (below_alloc _ _)
  have hz2 : W0.heap[w2.heap.size+1]?=some (.cells #[.slice (some ⟨w2.heap.size,0,none⟩) 0 0] 27 (0,0)):=by rw [hW0];exact heap_alloc_at _ _ (by rw [size_alloc])
  have hBW:=hBw2.trans (hB0.mono hBw2.size)
  have HE0:=Lib.hid (show Env w w.heap.size w.heap.size (w2.heap.size+1) [] 0 W0 from
   ⟨hBW,hBW.size,hBW.size,Nat.le_refl _,by have:=hBw2.size;omega,⟨_,hz2,fun _=>.slice none 0 0,⟨[],⟨⟨rfl,.inr ⟨w2.heap.size,0,#[],rfl,hBw2.size,hz1,Nat.le_refl _,Nat.zero_le _,rfl,rfl⟩⟩,fun k hk=>by
     have : w2.heap.size=k:=by injection hk
     omega⟩,fun i hi=>absurd hi (Nat.not_lt_zero _)⟩,fun i hi=>absurd hi (Nat.not_lt_zero _)⟩,List.Pairwise.nil,⟨Nat.le_refl _,fun x hx=>absurd hx List.not_mem_nil⟩⟩)
  have HI0:=Lib.hid (HI2.out.below hB0)
  have HBW:=Lib.hid hBW
  have HFin:=Lib.hid (show ∀ w' cs m',Env w w.heap.size w.heap.size (w2.heap.size+1) cs m' w'→FrX w.heap.size (fun k=>k=w2.heap.size+1) W0 w' → ∃ u,w'.cell? ⟨w2.heap.size+1,0,none⟩=some u∧OwnP2 w' w.heap.size w.heap.size w'.heap.size u cs∧AscP cs∧BdP cs m'∧Below w.heap.size w w' from fun w' cs m' hE _=>by
   obtain ⟨u,h1,h2⟩:=hE.out
   exact ⟨u,cell_of_blk h1 (j:=0) rfl,h2,hE.asc,hE.bd,hE.base⟩)
  rw [← hW0]
  clear hg2 ho2 hBw2 hW0 hz1 hz2 hBW hB0
 ·have h0 : ((nb : Int) == 0)=true:=by assumption
  obtain rfl : nb=0:=by simpa using h0
  obtain rfl : b=[]:=List.eq_nil_of_length_eq_zero Hnb.out.symm
  have e1 : filL a [] rows most=sumdL (shL (startL a rows)) 1 []:=rfl
  have e2 : (fsL a [] rows most).length=0+1:=rfl
  refine (seeF_any w w.heap.size w.heap.size (w2.heap.size+1) 0 v2 (startL a rows) [] W0 HE0.out HI0.out.ints (by rw [startL_len (by rw [← Hna.out];exact hla)];omega) (by decide)).mono ?_
  rintro e w9 ⟨rfl,hE9,hF9⟩
  obtain ⟨u,hu,q1,q2,q3,q4⟩:=HFin.out w9 _ _ hE9 hF9
  have Q:=Lib.hid (And.intro q1 (And.intro q2 (And.intro q3 q4)))
  clear q1 q2 q3 q4 hE9 hF9
  go_wp2_with fail
  go_ret
  rw [e1,e2]
  exact ⟨u,w.heap.size,rfl,Nat.le_refl _,Q.out⟩
 ·rename_i h0
  cases b with
  | nil =>
    have:=Hnb.out
    simp at this
    subst this
    exact absurd h0 (by decide)
  | cons c0 cs0 =>
    obtain ⟨p2,k2,rfl,_,_⟩:=HI0.out.shape
    have hsl : (startL a rows).length=rows:=startL_len (by rw [← Hna.out];exact hla)
    rw [hsl] at HI0 ⊢
    have hc0:=HP.out.bb 0 (by simp)
    have hc1 : 0≤c0∧c0≤1000:=by simpa using hc0
    obtain ⟨O,hO⟩ : ∃ O : Obj,O=.cells (madeCells #[Value.int .i64 0] rows) 3:=⟨_,rfl⟩
    have hmk:=run_make_row' (P:=Tryz.prog) 24 3 (.int .i64 0) 8 Tryz.underlying24 info_int rfl .i64 .i64 rows (by omega) (by omega)
    rw [← hO] at hmk
    have hOz : O=.cells (ivs (List.replicate rows 0)).toArray 3:=by rw [hO,madeF_zeros]
    obtain ⟨_,_,e,_,hcp⟩:=HB.out
    injection e with e1 e2 e3
    subst e1 e3
    obtain ⟨bb,ob,rfl,hcq⟩:=hcp (by simp)
    have c1' : W0.cell? ⟨bb,ob,none⟩=some (.int .i64 c0):=cell_of_bel HBW.out (hcq 0 (by simp))
    have hnb2 : 0 < nb:=by have:=Hnb.out;simp at this;omega
    have hnb1 : (0 : Int) < (nb : Int):=by omega
    have hIB : IntsK w.heap.size W0 (.slice (some ⟨bb,ob,none⟩) nb kb) (c0 :: cs0):=.of_ints HB.out HBW.out
    have HLay:=Lib.hid (show ∀ (WX : World) (vo' : Value) (g' : Nat),Below W0.heap.size W0 WX→IntsK w.heap.size WX vo' (startL a rows)→WX.heap[g']?=some O→Calls Tryz.prog 58 #[.slice p2 rows k2,.slice (some ⟨bb,ob,none⟩) nb kb,vo',.int .i64 0,.int .i64 c0,.slice none 0 0,.slice (some ⟨g',0,none⟩) rows rows,.int .i64 most,.func (.func 53) #[] #[.pointer (some ⟨w2.heap.size+1,0,none⟩)]] WX fun e w' =>
     e=.returned (.tuple #[])∧(∃ u,w'.cell? ⟨w2.heap.size+1,0,none⟩=some u∧Hid (OwnP2 w' w.heap.size w.heap.size w'.heap.size u (filL a (c0 :: cs0) rows most)∧AscP (filL a (c0 :: cs0) rows most)∧BdP (filL a (c0 :: cs0) rows most) (fsL a (c0 :: cs0) rows most).length∧Below w.heap.size w w'))∧w'.cell? ⟨bb,ob,none⟩=some (.int .i64 c0) from fun WX vo' g' hw h1 h4=>by
     have hz : Arr WX g' (List.replicate rows 0):=by unfold Arr;rw [h4,hOz]
     have hzI:=IntsK.of_arr (B:=w.heap.size) hz (by rw [List.length_replicate];unfold maxLen;omega)
     rw [List.length_replicate] at hzI
     have hI:=IntsK.of_own (B:=w.heap.size) (HI0.out.below hw)
     have:=layer_any (wB:=w) (lo:=w.heap.size) (lo2:=w.heap.size) (bo:=w2.heap.size+1) (rows:=rows) (most:=most) ((cs0.length+1) * (rows+1)+1) (startL a rows) (c0 :: cs0) (startL a rows) 0 c0.toNat none (List.replicate rows 0) [] 0 WX (.slice p2 rows k2) (.slice (some ⟨bb,ob,none⟩) nb kb) vo' (.slice none 0 0) (.slice (some ⟨g',0,none⟩) rows rows)
      HP.out.start (by simp only [List.length_cons];omega) (HE0.out.below hw) hI (hIB.below hw) h1 rfl hzI (by rw [Nat.zero_add];exact Hm.out)
     rw [Int.toNat_of_nonneg hc1.1,Nat.zero_add] at this
     refine this.mono fun e w' ⟨he,hE',hF⟩=> ?_
     obtain ⟨u,hu,q1,q2,q3,q4⟩:=HFin.out w' _ _ hE' ((FrX.of_below hw).trans hF)
     refine ⟨he,⟨u,hu,Lib.hid ⟨q1,q2,q3,q4⟩⟩,?_⟩
     exact cell_of_bel q4 (hcq 0 (by simp)))
    have HCl:=Lib.hid (show ∀ wx,Below W0.heap.size W0 wx→Calls Tryz.prog 42 #[.slice p2 rows k2] wx fun e w'=> ∃ u,e=.returned u∧IntsK w.heap.size w' u (startL a rows)∧Below wx.heap.size wx w'∧Below W0.heap.size W0 w' from fun wx hx=>by
     have h:=clone_any (.slice p2 rows k2) (startL a rows) wx (by have q:=(HI0.out.below hx).ints;exact q) (by rw [hsl];omega)
     exact h.mono fun e w' ⟨u,he,ho,hb⟩=>⟨u,he,.of_own ho,hb,hx.trans (hb.mono hx.size)⟩)
    clear e2 hcp hcq hIB hO hOz hsl hc0 hs0
    go_wp2_with fail
    go_region_held3 (fun w'=>w'.cell? ⟨bb,ob,none⟩=some (.int .i64 c0))
     (first | with_reducible assumption | exact c1' | exact cell_below (below_alloc _ _) (by assumption) | exact cell_below bC (by assumption) | exact hS9)
     (first
       | (go_at_call 42;with_reducible refine Calls.mono (HCl.out _ (by (repeat (first | assumption | with_reducible refine Below.drew ?_ | with_reducible refine belF_al ?_ (Nat.le_refl _) _ | exact Below.refl _ _)))) ?_;rintro e wC ⟨uC,rfl,oC,bC,bC2⟩)
       | (go_at_call 58;with_reducible refine Calls.mono (HLay.out _ _ _ (by (repeat (first | assumption | with_reducible refine Below.drew ?_ | with_reducible refine belF_al ?_ (Nat.le_refl _) _ | exact Below.refl _ _))) (by first | exact oC | exact oC.below (below_alloc _ _)) (by (repeat (first | with_reducible exact heap_alloc_top _ _ | with_reducible refine blk_later ?_ bC | with_reducible refine blkF_drew ?_)))) ?_;rintro e w9 ⟨rfl,⟨u9,hu9,Q9⟩,hS9⟩))
    all_goals
     go_wp2_with fail
     go_ret
     exact ⟨u9,w.heap.size,rfl,Nat.le_refl _,Q9.out⟩
theorem bx_shape {xs : List Int} {r c : Nat} (h : bxOk xs r c=true) : xs.length≤16∧xs.length≤r ∧ ∀ i,i < xs.length→0≤xs.getD i 0∧xs.getD i 0≤1000:=by
 unfold bxOk shOk at h
 simp only [Bool.and_eq_true,decide_eq_true_eq] at h
 refine ⟨h.1.1.1,h.1.2,fun i hi=> ?_⟩
 have:=h.1.1.2 i hi
 unfold shAt at this
 omega
theorem filP_of {a b : List Int} {k n : Nat} (ha : bxOk a k n=true) (hb : bxOk b k n=true) (hk : k≤n) (hn : n≤7) : FilP a b k ((n - k : Nat) : Int):=by
 obtain ⟨a1,a2,a3⟩:=bx_shape ha
 obtain ⟨b1,b2,b3⟩:=bx_shape hb
 exact ⟨by omega,a2,b1,a3,b3,by omega⟩
theorem GrProduct_any (va vb : Value) (a b : List Int) (k n : Nat) (w : World) (ha : Ints w va a) (hb : Ints w vb b) (hxa : bxOk a k n=true) (hxb : bxOk b k n=true) (hk : k≤n) (h1 : 1≤n) (h7 : n≤7) (hm : (fsL a b k ((n - k : Nat) : Int)).length < 1000) :
 Calls Tryz.prog 6 #[va,vb,.int .i64 (k : Int),.int .i64 (n : Int)] w fun e w' =>
  ∃ u lo2,e=.returned (.tuple #[u,.bool true])∧w.heap.size≤lo2∧OwnP2 w' w.heap.size lo2 w'.heap.size u (filL a b k ((n - k : Nat) : Int))∧AscP (filL a b k ((n - k : Nat) : Int))∧BdP (filL a b k ((n - k : Nat) : Int)) (fsL a b k ((n - k : Nat) : Int)).length∧Below w.heap.size w w':=by
 have HA:=Lib.hid ha
 have HB:=Lib.hid hb
 have HXa:=Lib.hid (show ∀ wx,Qt w wx→Calls Tryz.prog 23 #[va,.int .i64 (k : Int),.int .i64 (n : Int)] wx fun e w'=>e=.returned (.bool true)∧Qt wx w' from fun wx hq=>hxa ▸ IsInBox_any va a k n wx (ha.qt hq) hk h1 h7)
 have HXb:=Lib.hid (show ∀ wx,Qt w wx→Calls Tryz.prog 23 #[vb,.int .i64 (k : Int),.int .i64 (n : Int)] wx fun e w'=>e=.returned (.bool true)∧Qt wx w' from fun wx hq=>hxb ▸ IsInBox_any vb b k n wx (hb.qt hq) hk h1 h7)
 have HF:=Lib.hid (show ∀ wx,Qt w wx→Calls Tryz.prog 24 #[va,vb,.int .i64 (k : Int),.int .i64 ((n : Int) - (k : Int))] wx fun e w' =>
  ∃ u lo2,e=.returned u∧w.heap.size≤lo2∧OwnP2 w' w.heap.size lo2 w'.heap.size u (filL a b k ((n - k : Nat) : Int))∧AscP (filL a b k ((n - k : Nat) : Int))∧BdP (filL a b k ((n - k : Nat) : Int)) (fsL a b k ((n - k : Nat) : Int)).length∧Below w.heap.size w w' from fun wx hq=>by
  rw [show (n : Int) - (k : Int)=((n - k : Nat) : Int) by omega]
  refine (fillings_any va vb a b k ((n - k : Nat) : Int) wx (ha.qt hq) (hb.qt hq) (filP_of hxa hxb hk h7) hm).mono ?_
  rintro e w' ⟨u,lo2,he,h1,h2,h3,h4,h5⟩
  rw [hq.size] at h1 h2 h5
  exact ⟨u,lo2,he,h1,h2,h3,h4,(hq.below _).trans h5⟩)
 have hkn : (k : Int)≤(n : Int):=by omega
 have hnn : (n : Int)≤7:=by omega
 clear ha hb hxa hxb hm
 go_enter Tryz.func6,Tryz.ntmps6
 go_wp2_with fail
 refine (HXa.out _ (Qt.refl _)).mono ?_
 rintro e w1 ⟨rfl,hq1⟩
 go_wp2_with fail
 refine (HXb.out _ hq1).mono ?_
 rintro e w2 ⟨rfl,hq2⟩
 have Hq2:=Lib.hid (hq1.trans hq2)
 clear hq1 hq2
 go_wp2_with fail
 refine (HF.out _ Hq2.out).mono ?_
 rintro e w3 ⟨u,lo2,rfl,q1,q2,q3,q4,q5⟩
 have Q:=Lib.hid (And.intro q1 (And.intro q2 (And.intro q3 (And.intro q4 q5))))
 clear q1 q2 q3 q4 q5
 go_wp2_with fail
 go_ret2
 exact ⟨u,lo2,rfl,Q.out⟩
theorem countOf_any (v1 v2 : Value) (cs : List Cls) (t : List Int) (w : World) (h1 : RdCl w v1 cs) (h2 : Ints w v2 t) :
 Calls Tryz.prog 44 #[v1,v2] w fun e w'=>e=.returned (.int .i64 (inC cs t))∧Below w.heap.size w w':=by
 obtain ⟨f,hs1,hf⟩:=h1
 obtain ⟨p,cap,rfl,⟨hx1,hx⟩,hxc⟩:=hs1.two
 unfold maxLen at hx
 obtain ⟨N,hN⟩ : ∃ N,N=cs.length:=⟨_,rfl⟩
 have HN:=Lib.hid hN
 rw [← hN] at hx1 hxc hf ⊢
 have Hf:=Lib.hid hf
 have Hxc:=Lib.hid hxc
 have HT:=Lib.hid h2
 clear hf hs1 hxc hN h2
 obtain ⟨K,hK⟩ : ∃ K,K=inC cs t:=⟨_,rfl⟩
 rw [← hK]
 have HK:=Lib.hid hK
 clear hK
 go_enter Tryz.func44,Tryz.ntmps44
 go_wp2_with fail
 go_loopg [6,9] N (fun n s6 i wr=> ∃ k : Nat,k≤N∧n=N - k∧i=.int .i64 k∧Hid (Below w.heap.size w wr)∧Hid (inC (cs.drop k) t=K))
 case atStart=>exact ⟨0,Nat.zero_le _,rfl,rfl,Lib.hid (Below.refl _ _),Lib.hid (by rw [List.drop_zero,HK.out])⟩
 case round =>
  obtain ⟨k,hk,rfl,rfl,hq,hkk⟩:=hrel
  obtain ⟨wx,rfl⟩ : ∃ x : World,x=wr:=⟨_,rfl⟩
  have HQ:=Lib.hid hq.out
  have HKK:=Lib.hid hkk.out
  clear hq hkk
  by_cases hlt : k < N
  ·have hlti : (k : Int) < (N : Int):=by omega
   obtain ⟨b,rfl,hc⟩:=Hxc.out (by omega)
   obtain ⟨a0,a1⟩:=hc k hlt
   have c0:=cell_below HQ.out a0
   have c1:=cell_below HQ.out a1
   have i1:=(Hf.out k hlt).below HQ.out
   obtain ⟨y1,hy1'⟩ : ∃ y,y=f k:=⟨_,rfl⟩
   rw [← hy1'] at c0 i1
   obtain ⟨c,hcc⟩ : ∃ c,c=(cs.getD k clD).2:=⟨_,rfl⟩
   obtain ⟨xs,hxx⟩ : ∃ xs,xs=(cs.getD k clD).1:=⟨_,rfl⟩
   rw [← hcc] at c1
   rw [← hxx] at i1
   have hdr : cs.drop k=(xs,c) :: cs.drop (k+1):=by
    rw [List.drop_eq_getElem_cons (by rw [← HN.out];exact hlt),hxx,hcc,List.getD_eq_getElem?_getD,List.getElem?_eq_getElem (by rw [← HN.out];exact hlt)];rfl
   have Hdr:=Lib.hid hdr
   have Hi1:=Lib.hid i1
   have HQ2:=Lib.hid (HQ.out.trans ((below_alloc wx (.cells #[y1,.int .i64 c] 39)).mono HQ.out.size))
   have d0 : (wx.alloc (.cells #[y1,.int .i64 c] 39)).cell? ⟨wx.heap.size,0,none⟩=some y1:=cell_of_blk (heap_alloc_top _ _) (j:=0) rfl
   have d1 : (wx.alloc (.cells #[y1,.int .i64 c] 39)).cell? ⟨wx.heap.size,1,none⟩=some (.int .i64 c):=cell_of_blk (heap_alloc_top _ _) (j:=1) rfl
   have Hd1:=Lib.hid d1
   have Hq:=Lib.hid (sliceEq_any y1 v2 xs t (wx.alloc (.cells #[y1,.int .i64 c] 39)) (i1.below (below_alloc _ _)) (HT.out.below HQ2.out))
   obtain ⟨py,ky,rfl,_,_⟩:=i1
   clear hc a0 a1 hy1' hcc hxx hdr d1
   by_cases e : xs=t
   ·have Hd:=Lib.hid (decide_eq_true e)
    have He:=Lib.hid e
    rw [decide_eq_true e] at Hq
    clear e
    go_wp2_with fail
    refine Hq.out.mono ?_
    rintro e w' ⟨rfl,q⟩
    have d1':=q.cell Hd1.out
    have Hq':=Lib.hid q
    clear q
    go_wp2_with fail
    go_ret
    have hk : K=c:=by rw [← HKK.out,Hdr.out,inC,if_pos He.out]
    rw [hk]
    exact ⟨rfl,HQ2.out.trans ((Hq'.out.below _).mono HQ2.out.size)⟩
   ·have Hd:=Lib.hid (decide_eq_false e)
    have He:=Lib.hid e
    rw [decide_eq_false e] at Hq
    clear e
    go_wp2_with fail
    refine Hq.out.mono ?_
    rintro e w' ⟨rfl,q⟩
    have Hq':=Lib.hid q
    clear q
    go_wp2_with fail
    go_roundg (N - (k+1))
    case measure=>omega
    case rel=>exact ⟨k+1,by omega,rfl,by go_num,Lib.hid (HQ2.out.trans ((Hq'.out.below _).mono HQ2.out.size)),Lib.hid (by rw [← HKK.out,Hdr.out,inC,if_neg He.out])⟩
  ·obtain rfl : k=N:=by omega
   go_wp2_with fail
   go_ret
   refine ⟨?_,HQ.out⟩
   rw [← HKK.out,List.drop_of_length_le (by rw [HN.out];exact Nat.le_refl _)];rfl
theorem mul64_small (k : Nat) (hk : k≤7) (w : World) : Calls Tryz.prog 133 #[.int .u64 1,.int .u64 (k : Int)] w fun e w'=>e=.returned (.tuple #[.int .u64 0,.int .u64 (k : Int)])∧w'=w:=by
 rcases (show k=0 ∨ k=1 ∨ k=2 ∨ k=3 ∨ k=4 ∨ k=5 ∨ k=6 ∨ k=7 by omega) with rfl | rfl | rfl | rfl | rfl | rfl | rfl | rfl
 all_goals
  go_enter Tryz.func133,Tryz.ntmps133
  go_wp2_with fail
  go_ret2
  exact ⟨rfl,rfl⟩
theorem mul_small (k : Nat) (hk : k≤7) (w : World) : Calls Tryz.prog 114 #[.int .u64 1,.int .u64 (k : Int)] w fun e w'=>e=.returned (.tuple #[.int .u64 0,.int .u64 (k : Int)])∧w'=w:=by
 have H:=Lib.hid (mul64_small k hk w)
 go_enter Tryz.func114,Tryz.ntmps114
 go_wp2_with fail
 refine H.out.mono ?_
 rintro e w1 ⟨rfl,rfl⟩
 go_wp2_with fail
 go_ret2
 exact ⟨rfl,rfl⟩
theorem one_two (x : Int) (k c m : Nat) (hm : m=min c (k - c)) (h1 : 1≤c) (hc : c < k) :
 ((ivs (List.replicate c x ++ List.replicate (k - c) 0)).take c ++ List.replicate m (Value.int .i64 x) ++ (ivs (List.replicate c x ++ List.replicate (k - c) 0)).drop (c+m))=ivs (List.replicate (c+m) x ++ List.replicate (k - (c+m)) 0):=by
 unfold ivs
 simp only [List.map_append,List.map_replicate]
 rw [List.take_append_of_le_length (by simp),List.take_of_length_le (by simp),List.drop_append,List.drop_eq_nil_of_le (by simp),List.nil_append]
 simp only [List.length_replicate,List.drop_replicate]
 rw [← List.replicate_append_replicate]
 congr 2
 omega
theorem Repeat_any (v : Value) (x : Int) (k : Nat) (hk : k≤7) (w : World) (hv : Ints w v [x]) :
 Calls Tryz.prog 81 #[v,.int .i64 (k : Int)] w fun e w'=> ∃ u,e=.returned u∧Ints w' u (List.replicate k x)∧Below w.heap.size w w':=by
 obtain ⟨p,cap,rfl,hx1,hxc⟩:=hv
 obtain ⟨b,off,rfl,hc⟩:=hxc (show 0 < [x].length from Nat.zero_lt_one)
 have c0:=hc 0 (show 0 < [x].length from Nat.zero_lt_one)
 have hi : iv [x] 0=.int .i64 x:=rfl
 rw [hi] at c0
 simp only [Nat.add_zero] at c0
 rw [show [x].length=1 from rfl]
 have HM:=Lib.hid (mul_small k hk w)
 obtain ⟨O,hO⟩ : ∃ O : Obj,O=.cells (madeCells #[Value.int .i64 0] k) 3:=⟨_,rfl⟩
 have hmk:=run_make_row' (P:=Tryz.prog) 24 3 (.int .i64 0) 8 Tryz.underlying24 info_int rfl .i64 .i64 k (by omega) (by omega)
 rw [← hO] at hmk
 have hOz : O=.cells (ivs (List.replicate k 0)).toArray 3:=by rw [hO,madeF_zeros]
 have HO:=Lib.hid hOz
 have hk0 : (0 : Int)≤(k : Int):=by omega
 have hk7 : (k : Int)≤7:=by omega
 have hu1 : IntKind.u64.wrap (k : Int)=(k : Int):=by
  rcases (show k=0 ∨ k=1 ∨ k=2 ∨ k=3 ∨ k=4 ∨ k=5 ∨ k=6 ∨ k=7 by omega) with rfl | rfl | rfl | rfl | rfl | rfl | rfl | rfl <;> decide
 have hu2 : IntKind.i64.wrap (k : Int)=(k : Int):=k64 (by omega) (by omega)
 have hsz1 : (Tryz.prog.info? 3).map (·.size)=some 1:=by
  have h:=info_int
  cases hq : Tryz.prog.info? 3 with
  | none=>rw [hq] at h;cases h
  | some i=>rw [hq] at h;simp at h;simp [h.2.1]
 obtain ⟨c1,hc1⟩ : ∃ c1,c1=min 1 k:=⟨_,rfl⟩
 obtain ⟨g,hg⟩ : ∃ g,g=w.heap.size:=⟨_,rfl⟩
 have hz : Arr (w.alloc O) g (List.replicate k 0):=by rw [hg,hOz];exact heap_alloc_top _ _
 have hbO:=below_alloc w O
 have hcp1 : ∀ ty,(Builtin.copy_ #[24,24] ty #[.slice (some ⟨g,0,none⟩) k k,.slice (some ⟨b,off,none⟩) 1 cap]).run Tryz.prog (w.alloc O)=.ok (goInt ((c1 : Nat) : Int)) ((w.alloc O).setRow g (ivs (List.replicate c1 x ++ List.replicate (k - c1) 0)).toArray):=fun ty=>by
  have h:=run_copy_z (P:=Tryz.prog) (w.alloc O) 24 24 ty 3 g 0 k k ⟨b,off,none⟩ 1 cap 1 c1 (ivs (List.replicate k 0)).toArray 3 (List.replicate c1 (.int .i64 x)) Tryz.underlying24 hsz1 hz (by rw [hc1];try rfl) (by simp) (fun j u hj=>by
   have hj2 : j < c1:=by
    have:=(List.getElem?_eq_some_iff.1 hj).1
    simpa using this
   obtain rfl : j=0:=by omega
   rw [List.getElem?_replicate,if_pos hj2] at hj
   injection hj with hj
   rw [← hj,addr_add,Nat.add_zero]
   exact cell_below hbO c0) (by simp [ivs] <;> omega) (fun u hu=>by rw [List.eq_of_mem_replicate hu];rfl)
  have e : ((ivs (List.replicate k 0)).toArray.toList.take 0 ++ List.replicate c1 (Value.int .i64 x) ++ (ivs (List.replicate k 0)).toArray.toList.drop (0+(List.replicate c1 (Value.int .i64 x)).length))=ivs (List.replicate c1 x ++ List.replicate (k - c1) 0):=by
   simp [ivs]
  rw [e] at h
  exact h
 have hcpN : ∀ (wo : World) (c m : Nat),m=min c (k - c)→1≤c→c < k→Arr wo g (List.replicate c x ++ List.replicate (k - c) 0) → ∀ ty,(Builtin.copy_ #[24,24] ty #[.slice (some ⟨g,c,none⟩) (k - c) (k - c),.slice (some ⟨g,0,none⟩) c k]).run Tryz.prog wo.drew=.ok (goInt ((m : Nat) : Int)) (wo.drew.setRow g (ivs (List.replicate (c+m) x ++ List.replicate (k - (c+m)) 0)).toArray):=fun wo c m hm h1 hck ha ty=>by
  have h:=run_copy_z (P:=Tryz.prog) wo.drew 24 24 ty 3 g c (k - c) (k - c) ⟨g,0,none⟩ c k 1 m (ivs (List.replicate c x ++ List.replicate (k - c) 0)).toArray 3 (List.replicate m (.int .i64 x)) Tryz.underlying24 hsz1 ha (by rw [hm];try rfl) (by simp) (fun j u hj=>by
   have hj2 : j < m:=by
    have:=(List.getElem?_eq_some_iff.1 hj).1
    simpa using this
   rw [List.getElem?_replicate,if_pos hj2] at hj
   injection hj with hj
   rw [← hj,addr_add,Nat.zero_add]
   have:=ha.cell (j:=j) (by simp;omega)
   have e2 : (List.replicate c x ++ List.replicate (k - c) 0).getD j 0=x:=by
    rw [List.getD_eq_getElem?_getD,List.getElem?_append_left (by simp;omega),List.getElem?_replicate,if_pos (by omega)]
    rfl
   rw [e2] at this
   exact this) (by simp [ivs] <;> omega) (fun u hu=>by rw [List.eq_of_mem_replicate hu];rfl)
  have e:=one_two x k c m hm h1 hck
  rw [List.length_replicate] at h
  rw [← e]
  exact h
 have HN:=Lib.hid hcpN
 have Hz:=Lib.hid hz
 have HbO:=Lib.hid hbO
 have Hg:=Lib.hid hg
 have Hc1:=Lib.hid hc1
 rw [hg] at hcp1
 have HC:=Lib.hid hcp1
 clear hc hi hO hOz hx1 hxc hsz1 hz hbO hcp1 hcpN hg hc1 c0
 go_enter Tryz.func81,Tryz.ntmps81
 go_wp2_with fail
 refine HM.out.mono ?_
 rintro e w1 ⟨rfl,rfl⟩
 have hcpx:=HC.out 3
 go_wp2_with fail
 rw [← Hg.out]
 have HA:=Lib.hid (show Arr ((w1.alloc O).setRow g (ivs (List.replicate c1 x ++ List.replicate (k - c1) 0)).toArray) g (List.replicate c1 x ++ List.replicate (k - c1) 0) from setRow_heap _ _ _ _ _ _ Hz.out)
 have HB1:=Lib.hid (show Below w1.heap.size w1 ((w1.alloc O).setRow g (ivs (List.replicate c1 x ++ List.replicate (k - c1) 0)).toArray) from
  ⟨HbO.out.os,HbO.out.tape,HbO.out.output,by rw [size_setRow];exact HbO.out.size,fun j hj=>(setRow_other _ _ _ _ (by have:=Hg.out;omega)).trans (HbO.out.block j hj)⟩)
 go_wp2_with fail
 go_loopg [8] (k - c1) (fun gg s8 wr=> ∃ c : Nat,c≤k∧(1≤c ∨ k=0)∧gg=k - c∧s8=.int .i64 (c : Int)∧Hid (Below w1.heap.size w1 wr)∧Hid (Arr wr g (List.replicate c x ++ List.replicate (k - c) 0)))
 case atStart=>exact ⟨c1,by have:=Hc1.out;omega,by have:=Hc1.out;omega,rfl,rfl,HB1,HA⟩
 case round =>
  obtain ⟨c,hck,hc1,rfl,rfl,hb,ha⟩:=hrel
  obtain ⟨wo,rfl⟩ : ∃ x : World,x=wr:=⟨_,rfl⟩
  by_cases hlt : c < k
  ·have hlti : (c : Int) < (k : Int):=by omega
   have hci : (c : Int)≤(k : Int):=by omega
   have hcne : k - c ≠ 0:=by omega
   have hce : (k : Int) - (c : Int)=((k - c : Nat) : Int):=by omega
   obtain ⟨m,hm⟩ : ∃ m,m=min c (k - c):=⟨_,rfl⟩
   have HNc:=Lib.hid (HN.out wo c m hm (by omega) hlt ha.out)
   have HA2:=Lib.hid (show Arr (wo.drew.setRow g (ivs (List.replicate (c+m) x ++ List.replicate (k - (c+m)) 0)).toArray) g (List.replicate (c+m) x ++ List.replicate (k - (c+m)) 0) from setRow_heap _ _ _ _ _ _ ha.out)
   have HB2:=Lib.hid (show Below w1.heap.size w1 (wo.drew.setRow g (ivs (List.replicate (c+m) x ++ List.replicate (k - (c+m)) 0)).toArray) from
    ⟨hb.out.os,hb.out.tape,hb.out.output,by rw [size_setRow];exact hb.out.size,fun j hj=>(setRow_other _ _ _ _ (by have:=Hg.out;omega)).trans (hb.out.block j hj)⟩)
   have Hm:=Lib.hid hm
   have Hw:=Lib.hid (show wrap64 ((c : Int)+(m : Int))=((c+m : Nat) : Int) by rw [w64 (by omega) (by omega)];omega)
   have Hw2:=Lib.hid (show IntKind.i64.wrap ((c : Int)+(m : Int))=((c+m : Nat) : Int) by rw [k64 (by omega) (by omega)];omega)
   have hm7 : (m : Int)≤7:=by omega
   have hcm7 : (c : Int)+(m : Int)≤7:=by omega
   have hkc : ¬ k=c:=by omega
   have hck' : ¬ c=k:=by omega
   clear ha hb hm
   go_wp2_with fail
   go_region_law (refine step_copy_z rfl (.tmp 41) (.tmp 44) 24 24 rfl (.slice (some ⟨g,c,none⟩) (k - c) (k - c)) (.slice (some ⟨g,0,none⟩) c k) (by simp [Act.eval,Act.put]) (by simp [Act.eval,Act.put]) (HNc.out _) ?_)
   all_goals
    go_wp2_with fail
    go_roundg (k - (c+m))
    case measure=>have:=Hm.out;omega
    case rel=>exact ⟨c+m,by have:=Hm.out;omega,by have:=Hm.out;omega,rfl,by first | rfl | (rw [Hw2.out]) | (rw [Hw.out]) | go_num,HB2,HA2⟩
  ·obtain rfl : c=k:=by omega
   go_wp2_with fail
   go_ret
   have ha:=ha.out
   rw [Nat.sub_self,List.replicate_zero,List.append_nil] at ha
   have h:=ha.ints (by rw [List.length_replicate];unfold maxLen;omega)
   rw [List.length_replicate] at h
   exact ⟨_,rfl,h,hb.out⟩
theorem block_any (k n : Nat) (hk : k≤n) (hn : n≤7) (w : World) : Calls Tryz.prog 45 #[.int .i64 (k : Int),.int .i64 (n : Int)] w fun e w'=> ∃ u,e=.returned u∧Ints w' u (blkL k n)∧Below w.heap.size w w':=by
 unfold blkL
 by_cases e : n=k
 ·subst e
  rw [if_pos rfl]
  go_enter Tryz.func45,Tryz.ntmps45
  go_wp2_with fail
  go_ret
  exact ⟨_,rfl,⟨none,0,rfl,⟨Nat.le_refl _,Nat.zero_le _⟩,fun h=>absurd h (Nat.lt_irrefl _)⟩,Below.refl _ _⟩
 ·rw [if_neg e]
  have hne : ((n : Int) == (k : Int))=false:=by simp;omega
  have hkn : (k : Int)≤(n : Int):=by omega
  have hn7 : (n : Int)≤7:=by omega
  have hsub : (n : Int) - (k : Int)=((n - k : Nat) : Int):=by omega
  have hb:=below_alloc w (.cells #[.int .i64 ((n - k : Nat) : Int)] 3)
  have HR:=Lib.hid (Repeat_any (.slice (some ⟨w.heap.size,0,none⟩) 1 1) ((n - k : Nat) : Int) k (by omega) (w.alloc (.cells #[.int .i64 ((n - k : Nat) : Int)] 3)) ⟨_,_,rfl,⟨Nat.le_refl _,by unfold maxLen;simp⟩,fun _=>⟨w.heap.size,0,rfl,fun j hj=>by
   have : j=0:=by simp at hj;exact hj
   subst this
   exact cell_of_blk (heap_alloc_top _ _) (j:=0) rfl⟩⟩)
  have Hb:=Lib.hid hb
  clear hb e
  go_enter Tryz.func45,Tryz.ntmps45
  go_wp2_with fail
  refine HR.out.mono ?_
  rintro e w1 ⟨u,rfl,hi,hb1⟩
  have Hi:=Lib.hid hi
  have Hb1:=Lib.hid hb1
  clear hi hb1
  go_wp2_with fail
  go_ret
  exact ⟨_,rfl,Hi.out,Hb.out.trans (Hb1.out.mono Hb.out.size)⟩
def addL (c : Int) (ls nx : List Cls) : List Cls:=ls.foldl (fun nx x=>sumdL x.1 (c * x.2) nx) nx
def stepL (k n : Nat) (s : List Int) (now nx : List Cls) : List Cls:=now.foldl (fun nx p=>addL p.2 (filL p.1 s k ((n - k : Nat) : Int)) nx) nx
def lnI (k n : Nat) (s : List Int) : List Cls→Nat
 | []=>0
 | p :: now=>(filL p.1 s k ((n - k : Nat) : Int)).length+lnI k n s now
theorem isnS_eq (k n : Nat) (s : List Int) (now : List Cls) : isnS k n s now=stepL k n s now []:=rfl
theorem takeI_snoc {α : Type} (l : List α) (d : α) {j : Nat} (h : j < l.length) : l.take (j+1)=l.take j ++ [l.getD j d]:=by
 rw [List.take_add_one,List.getElem?_eq_getElem h]
 simp [List.getD_eq_getElem?_getD,List.getElem?_eq_getElem h]
theorem addL_succ (c : Int) (ls nx : List Cls) {t : Nat} (h : t < ls.length) : addL c (ls.take (t+1)) nx=sumdL (ls.getD t clD).1 (c * (ls.getD t clD).2) (addL c (ls.take t) nx):=by
 unfold addL
 rw [takeI_snoc ls clD h,List.foldl_append]
 rfl
theorem stepL_succ (k n : Nat) (s : List Int) (now nx : List Cls) {i : Nat} (h : i < now.length) : stepL k n s (now.take (i+1)) nx=addL (now.getD i clD).2 (filL (now.getD i clD).1 s k ((n - k : Nat) : Int)) (stepL k n s (now.take i) nx):=by
 unfold stepL
 rw [takeI_snoc now clD h,List.foldl_append]
 rfl
theorem lnI_append (k n : Nat) (s : List Int) : ∀ a b : List Cls,lnI k n s (a ++ b)=lnI k n s a+lnI k n s b
 | [],b=>by simp [lnI]
 | p :: a,b=>by
   show _+lnI k n s (a ++ b)=_+lnI k n s a+_
   rw [lnI_append k n s a b]
   omega
theorem lnI_succ (k n : Nat) (s : List Int) (now : List Cls) {i : Nat} (h : i < now.length) : lnI k n s (now.take (i+1))=lnI k n s (now.take i)+(filL (now.getD i clD).1 s k ((n - k : Nat) : Int)).length:=by
 rw [takeI_snoc now clD h,lnI_append]
 rfl
theorem lnI_take (k n : Nat) (s : List Int) (now : List Cls) (i : Nat) : lnI k n s (now.take i)≤lnI k n s now:=by
 have:=lnI_append k n s (now.take i) (now.drop i)
 rw [List.take_append_drop] at this
 omega
def isnC (k n : Nat) (s : List Int) (now : List Cls) : Bool :=
 (now.all fun p=>bxOk p.1 k n && decide ((fsL p.1 s k ((n - k : Nat) : Int)).length < 1000) && decide (0≤p.2∧p.2≤1000000) &&
   (filL p.1 s k ((n - k : Nat) : Int)).all fun x=>decide (0≤x.2∧x.2≤1000000) && decide (x.1.length≤1000)) && decide (lnI k n s now≤900)
def isnD (k n : Nat) : List (List Int)→List Cls→Bool
 | [],_=>true
 | s :: ss,now=>isnC k n s now && isnD k n ss (isnS k n s now)
structure IsnP (k n : Nat) (s : List Int) (now : List Cls) : Prop where
 bx : ∀ i,i < now.length→bxOk (now.getD i clD).1 k n=true
 fs : ∀ i,i < now.length→(fsL (now.getD i clD).1 s k ((n - k : Nat) : Int)).length < 1000
 ct : ∀ i,i < now.length→0≤(now.getD i clD).2∧(now.getD i clD).2≤1000000
 xs : ∀ i,i < now.length → ∀ t,t < (filL (now.getD i clD).1 s k ((n - k : Nat) : Int)).length→(0≤((filL (now.getD i clD).1 s k ((n - k : Nat) : Int)).getD t clD).2∧((filL (now.getD i clD).1 s k ((n - k : Nat) : Int)).getD t clD).2≤1000000)∧((filL (now.getD i clD).1 s k ((n - k : Nat) : Int)).getD t clD).1.length≤1000
 ln : lnI k n s now≤900
theorem getDI_in {α : Type} {l : List α} {d : α} {i : Nat} (h : i < l.length) : l.getD i d ∈ l:=by
 rw [List.getD_eq_getElem?_getD,List.getElem?_eq_getElem h]
 exact List.getElem_mem h
theorem isnP_of {k n : Nat} {s : List Int} {now : List Cls} (h : isnC k n s now=true) : IsnP k n s now:=by
 unfold isnC at h
 rw [Bool.and_eq_true,decide_eq_true_eq,List.all_eq_true] at h
 have key:=fun i (hi : i < now.length)=>h.1 _ (getDI_in (d:=clD) hi)
 refine ⟨fun i hi=> ?_,fun i hi=> ?_,fun i hi=> ?_,fun i hi t ht=> ?_,h.2⟩
 all_goals
  have q:=key i hi
  rw [Bool.and_eq_true,Bool.and_eq_true,Bool.and_eq_true,decide_eq_true_eq,decide_eq_true_eq,List.all_eq_true] at q
 ·exact q.1.1.1
 ·exact q.1.1.2
 ·exact q.1.2
 ·have:=q.2 _ (getDI_in (d:=clD) ht)
  rw [Bool.and_eq_true,decide_eq_true_eq,decide_eq_true_eq] at this
  exact this
theorem OwnP2.frm {w w' : World} {lo lo2 hi a b : Nat} {v : Value} {cs : List Cls} (h : OwnP2 w lo lo2 hi v cs) (hf : Frm a b w w') (h1 : b≤lo) (h2 : b≤lo2) : OwnP2 w' lo lo2 hi v cs:=by
 obtain ⟨g,⟨xs,q1,q2⟩,q3⟩:=h
 exact ⟨g,⟨xs,q1.frm hf (.inr h1),q2⟩,fun i hi=>(q3 i hi).frm hf (.inr h2)⟩
theorem OwnP2.made0 (w : World) : OwnP2 (w.alloc (.cells #[] 39)) w.heap.size w.heap.size (w.alloc (.cells #[] 39)).heap.size (.slice (some ⟨w.heap.size,0,none⟩) 0 0) [] :=
 ⟨fun _=>.slice none 0 0,⟨[],⟨⟨rfl,.inr ⟨w.heap.size,0,#[],rfl,Nat.le_refl _,heap_alloc_top _ _,Nat.le_refl _,Nat.zero_le _,rfl,rfl⟩⟩,fun k hk=>by
   have : w.heap.size=k:=by injection hk
   rw [size_alloc];omega⟩,fun i hi=>absurd hi (Nat.not_lt_zero _)⟩,fun i hi=>absurd hi (Nat.not_lt_zero _)⟩
theorem OwnP2.blk {w : World} {lo lo2 hi : Nat} {v : Value} {cs : List Cls} (h : OwnP2 w lo lo2 hi v cs) {b : Nat} (hb : v.ownBlock=some b) : lo≤b∧b < hi:=by
 obtain ⟨g,⟨xs,q1,_⟩,_⟩:=h
 exact ⟨(q1.block hb).1,(q1.block hb).2.1⟩
theorem Frm.step {lo B : Nat} {w0 w w' : World} {v : Value} (hf : Frm lo B w0 w) (hv : ∀ b,v.ownBlock=some b→(lo≤b∧b < B) ∨ w0.heap.size≤b) (h1 : w'.os=w.os) (h2 : w'.tape=w.tape) (h3 : w'.output=w.output) (h4 : w.heap.size≤w'.heap.size)
 (hk : ∀ k,k < w.heap.size→v.ownBlock ≠ some k→w'.heap[k]?=w.heap[k]?) : Frm lo B w0 w' :=
 ⟨h1.trans hf.os,h2.trans hf.tape,h3.trans hf.output,Nat.le_trans hf.size h4,fun k hk0 ho=>(hk k (Nat.lt_of_lt_of_le hk0 hf.size) fun e=>by
   rcases hv k e with h | h <;> omega).trans (hf.block k hk0 ho)⟩
theorem Frm.cellF {lo B : Nat} {w w' : World} (hf : Frm lo B w w') {a : Addr} {v : Value} (h : w.cell? a=some v) (ha : B≤a.block) : w'.cell? a=some v:=by
 rw [← h]
 unfold World.cell?
 rw [hf.block a.block (World.block_lt_of_cell? w a h) (.inr ha)]
theorem Below.of_frm {lo B : Nat} {w0 w w' : World} (h : Below lo w0 w) (hf : Frm lo B w w') (hw : lo≤w.heap.size) : Below lo w0 w' :=
 ⟨hf.os.trans h.os,hf.tape.trans h.tape,hf.output.trans h.output,Nat.le_trans h.size hf.size,fun k hk=>(hf.block k (by omega) (.inl hk)).trans (h.block k hk)⟩
end
end Go.Proofs.YtijadclebjcckaaGreat
