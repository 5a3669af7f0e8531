/-
  A part of the proof of FnSessions (texts of one proof, joined).
-/
import Derived.Test.YtincaodpjdeoeaaGreatDoorJ5
namespace Go.Proofs.YtincaodpjdeoeaaGreatDoor
set_option linter.all false
set_option maxRecDepth 100000
set_option maxHeartbeats 16000000
section
open Go.RowKit Go.Maps Go.WideMaps Go.WideElems Go.MapKept Go.ChangeMaps Go.ChangeShapes
abbrev OwnMp (w : World) (b n : Nat) (D : DU) : Prop:=w.ownsMap Tryz.prog 109 (plainElem (H:=Unit) Tryz.prog 3) b n D
theorem blk7 {w : World} {b : Nat} {x0 x1 x2 x3 x4 x5 x6 : Value} {T : TypeId} (h : w.heap[b]?=some (.cells #[x0,x1,x2,x3,x4,x5,x6] T (0,0))) :
 w.cell? ⟨b,0,none⟩=some x0∧w.cell? ⟨b,1,none⟩=some x1∧w.cell? ⟨b,2,none⟩=some x2∧w.cell? ⟨b,3,none⟩=some x3∧w.cell? ⟨b,4,none⟩=some x4∧w.cell? ⟨b,5,none⟩=some x5∧w.cell? ⟨b,6,none⟩=some x6∧(∀ j,w.frozen? ⟨b,j,none⟩=false)∧b < w.heap.size :=
 ⟨cell_of_blk h rfl,cell_of_blk h rfl,cell_of_blk h rfl,cell_of_blk h rfl,cell_of_blk h rfl,cell_of_blk h rfl,cell_of_blk h rfl,free_of_blk h,(Array.getElem?_eq_some_iff.1 h).1⟩
theorem add_facts {u : World} {b n : Nat} {D : DU} {key : Value} {k0 : Lit} (hown : OwnMp u b n D) (hn : n < 1000000000000000) (hkey : keyOf Tryz.prog 109 key=some k0) :
 ∃ (c0 : Int) (st : Nat) (W1 : World),(Instr.lookup 105 (.map (some b)) key false).run Tryz.prog u=.ok (.int .i64 c0) u ∧
   D.atKey k0 (.lit (.int .i64 0))=.lit (.int .i64 c0) ∧
   (Instr.mapEntry 105 (.map (some b)) key).run Tryz.prog u=.ok (.tuple #[.int .i64 c0,.int .i64 (st : Int)]) W1 ∧
   (Instr.lookup 105 (.map (some b)) key false).run Tryz.prog W1=.ok (.int .i64 c0) W1 ∧
   u.grownBy W1 (some b)∧W1.heap.size=u.heap.size ∧
   ∀ s : Int,(Lit.int .i64 s).wf=true → ∃ W2,(Instr.entryStore 105 (.map (some b)) (.int .i64 (st : Int)) (.int .i64 s)).run Tryz.prog W1=.ok () W2 ∧
     OwnMp W2 b (n+1) (D.put k0 (.lit (.int .i64 s)))∧u.grownBy W2 (some b)∧W2.heap.size=u.heap.size:=by
 have hown':=hown
 obtain ⟨c0,hl0,hat,hw0⟩:=hown.lookup_int klaw und41 undI (zeroI _) hkey
 obtain ⟨es,clock,hb,F,hs,hD⟩:=hown
 obtain ⟨v0,st,es1,clock1,h1,_,h3⟩:=entry_then_store arr7.law und41 zeroI hb F hkey
 have hlk:=entry_look arr7.law und41 zeroI hb F hkey h1
 have hv : v0=.int .i64 c0:=by
  have:=hlk.2
  rw [hl0] at this
  injection this with this
  exact this.symm
 subst hv
 have hsz : ∀ o,(setBlock u b o).heap.size=u.heap.size:=fun o=>by simp [setBlock]
 have hgr : ∀ o,u.grownBy (setBlock u b o) (some b):=fun o=>⟨rfl,rfl,rfl,by rw [hsz];exact Nat.le_refl _,fun i _ hi=>heap_setBlock_other hb _ (fun e=>hi (by rw [e]))⟩
 refine ⟨c0,st,_,hl0,hat,h1,hlk.1,hgr _,hsz _,fun s hs=> ?_⟩
 obtain ⟨es',clock',hst,hup⟩:=h3 _ (.int .i64 s) (heap_setBlock_same hb _)
 obtain ⟨w',hrun,ho',hg'⟩:=hown'.update klaw und41 (by unfold maxLen;omega) hkey (plainElem_int undI hs)
 rw [hup] at hrun
 injection hrun with _ hrun
 have hh : setBlock (setBlock u b (.map es1 clock1)) b (.map es' clock')=setBlock u b (.map es' clock'):=by
  simp [setBlock,Array.setIfInBounds_setIfInBounds]
 rw [hh] at hst
 exact ⟨_,hst,by rw [hrun];exact ho',hgr _,hsz _⟩
theorem gb_undrew {u W : World} {r : Option Nat} (h : u.drew.grownBy W r) : u.grownBy W r:=⟨h.os,h.tape,h.output,h.size,h.block⟩
theorem cg_wrap (x : Int) : Cg (wrap64 x) x:=⟨-((x+9223372036854775808) / 18446744073709551616),by unfold wrap64 M64;omega⟩
theorem add_any (b n d : Nat) (D : DU) (P : Pl) (e : List Int) (c : Int) (w : World) (hown : OwnMp w b n D) (hp : PolM d D P) (he : K7 d e) (hd : d≤1000000) (hn : n < 1000000000000000) :
 Calls Tryz.prog 107 #[.map (some b),kv e,.int .i64 c] w fun e' w'=>e'=.returned (.tuple #[]) ∧ ∃ D',OwnMp w' b (n+1) D'∧PolM d D' (P ++ [(e,c)])∧w.grownBy w' (some b):=by
 have hkey:=keyOf_kv he hd
 obtain ⟨k0,hk0⟩ : ∃ k,k=kl e:=⟨_,rfl⟩
 have hadd:=fun c0 s=>PolM.add hp hd he (c0:=c0) (c:=c) (s:=s)
 rw [← hk0] at hkey hadd
 have Hadd:=Lib.hid hadd
 clear hadd hk0
 obtain ⟨hl,hr⟩:=he
 match e,hl with
 | [a0,a1,a2,a3,a4,a5,a6],_ =>
 clear hr
 have hown1 : OwnMp (w.alloc (.cells #[.int .i64 a0,.int .i64 a1,.int .i64 a2,.int .i64 a3,.int .i64 a4,.int .i64 a5,.int .i64 a6] 109)).drew b n D:=hown.alloc _
 have Hg0:=Lib.hid (World.grownBy_alloc w (.cells #[.int .i64 a0,.int .i64 a1,.int .i64 a2,.int .i64 a3,.int .i64 a4,.int .i64 a5,.int .i64 a6] 109) none)
 have hbw:=hown.lt
 have hq:=heap_alloc_top w (.cells #[.int .i64 a0,.int .i64 a1,.int .i64 a2,.int .i64 a3,.int .i64 a4,.int .i64 a5,.int .i64 a6] 109)
 obtain ⟨u,hu⟩ : ∃ u,u=w.alloc (.cells #[.int .i64 a0,.int .i64 a1,.int .i64 a2,.int .i64 a3,.int .i64 a4,.int .i64 a5,.int .i64 a6] 109):=⟨_,rfl⟩
 obtain ⟨B,hB⟩ : ∃ B,B=w.heap.size:=⟨_,rfl⟩
 rw [← hu] at hown1 Hg0 hq
 have hkey' : keyOf Tryz.prog 109 (.agg #[.int .i64 a0,.int .i64 a1,.int .i64 a2,.int .i64 a3,.int .i64 a4,.int .i64 a5,.int .i64 a6])=some k0:=hkey
 obtain ⟨c0,st,W1,hl0,hat,hent,hl1,hg1,hsz1,hst⟩:=add_facts hown1 hn hkey'
 obtain ⟨s,hs⟩ : ∃ s,s=wrap64 (c0+c):=⟨_,rfl⟩
 show Calls Tryz.prog 107 #[.map (some b),.agg #[.int .i64 a0,.int .i64 a1,.int .i64 a2,.int .i64 a3,.int .i64 a4,.int .i64 a5,.int .i64 a6],.int .i64 c] w _
 go_enter Tryz.func107,Tryz.ntmps107
 go_wp2_with fail
 rw [← hu,← hB]
 rw [← hB] at hq hbw
 obtain ⟨f0,f1,f2,f3,f4,f5,f6,_,_⟩:=blk7 (w:=u.drew) hq
 have hq1 : W1.heap[B]?=some (.cells #[.int .i64 a0,.int .i64 a1,.int .i64 a2,.int .i64 a3,.int .i64 a4,.int .i64 a5,.int .i64 a6] 109 (0,0)):=(hg1.block B (Array.getElem?_eq_some_iff.1 hq).1 (by intro h;injection h with h;omega)).trans hq
 obtain ⟨g0,g1,g2,g3,g4,g5,g6,_,_⟩:=blk7 hq1
 obtain ⟨W2,hst2,ho2,hg2,hsz2⟩:=hst s (by rw [hs];exact wrap64_wf _)
 have hq2 : W2.heap[B]?=some (.cells #[.int .i64 a0,.int .i64 a1,.int .i64 a2,.int .i64 a3,.int .i64 a4,.int .i64 a5,.int .i64 a6] 109 (0,0)):=(hg2.block B (Array.getElem?_eq_some_iff.1 hq).1 (by intro h;injection h with h;omega)).trans hq
 obtain ⟨h0,h1,h2,h3,h4,h5,h6,_,_⟩:=blk7 hq2
 rw [hs] at hst2
 have Hown1:=Lib.hid hown1
 have Hst:=Lib.hid hst
 have Hat:=Lib.hid hat
 have Ho2:=Lib.hid ho2
 have Hg2:=Lib.hid hg2
 have Hs:=Lib.hid hs
 have Hhu:=Lib.hid hu
 have Hq2:=Lib.hid hq2
 have Htd:=Lib.hid hp.tidy
 clear hown hown1 hst hat hg1 hu hq hq1 hq2 hg2 ho2 hs hp hbw hkey hB
 go_region
 have hown2:=Ho2.out
 obtain ⟨c1,hl2,hat2,_⟩:=hown2.lookup_int klaw und41 undI (zeroI _) hkey'
 have hc1 : c1=s:=by
  have hk : WideAt.IsKeyLit k0:=klaw.key hkey'
  rw [atKey_put_same Htd.out.isMap hk] at hat2
  injection hat2 with hat2
  injection hat2 with _ hat2
  exact hat2.symm
 subst hc1
 have hws : Cg c1 (c0+c):=by rw [Hs.out];exact cg_wrap _
 have hfin : ∀ (W : World),OwnMp W b (n+1) (addD D k0 c1)→W2.grownBy W (some b) → ∃ D',OwnMp W b (n+1) D'∧PolM d D' (P ++ [([a0,a1,a2,a3,a4,a5,a6],c)])∧w.grownBy W (some b):=fun W h1 h2 =>
  ⟨_,h1,Hadd.out c0 c1 Hat.out hws,((Hg0.out.but (some b)).trans (gb_undrew Hg2.out)).trans h2⟩
 have Hfin:=Lib.hid hfin
 clear hfin hws hat2 hown2
 by_cases hz : c1=0
 ·have hz' : (c1 == 0)=true:=by simp [hz]
  have Hz:=Lib.hid hz
  clear hz
  go_wp2_with (first | (at_delete;refine wpList_delete_own _ rfl _ _ 105 109 rfl 3 klaw und41 _ b (n+1) _ rfl Ho2.out _ _ rfl hkey' ?_;intro w3 hown3 hturn3) | fail)
  go_end0
  exact ⟨rfl,Hfin.out _ (by unfold addD;rw [if_pos Hz.out];exact hown3) hturn3.grown⟩
 ·have hz' : (c1 == 0)=false:=by simp [hz]
  go_wp2_with fail
  go_end0
  exact ⟨rfl,Hfin.out _ (by unfold addD;rw [if_neg hz];exact Ho2.out) (World.grownBy.refl _ _)⟩
theorem PolM.alt {d : Nat} {D : DU} {P Q : Pl} (h : PolM d D P) (hq : ∀ g,Cg (Ev P g) (Ev Q g)) : PolM d D Q:=⟨h.tidy,h.keys,fun g=>(h.sum g).trans (hq g),h.nz⟩
abbrev RanP (w : World) (b r n : Nat) (D : DU) (left : Lit→Bool) (cnt : Nat) : Prop:=w.ranges Tryz.prog 109 (plainElem (H:=Unit) Tryz.prog 3) b r n D left cnt
section
variable {P0 : Program} (w : World) {ops : Array Oper} {rest : List Oper} {o : Oper} {a : Act} {Q : Exit→Act→World→Prop}
theorem wpList_next_poly (hg : o.guard=none) (it : Operand) (hop : o.op=Op.next it false) (b r n d : Nat) (D : DU) (P : Pl) (left : Lit→Bool) (cnt : Nat)
 (hit : a.eval it=.pointer (some ⟨r,0,none⟩)) (h : RanP w b r n D left cnt) (hp : PolM d D P) (hd : d≤1000000) (hleft : ∀ l,left l=true→has D l=true)
 (hDone : cnt=0→(∀ kl,left kl=false)→wpList Tryz.prog ops Q rest (a.put o.dst (.tuple #[.bool false])) w)
 (hMore : ∀ (a0 a1 a2 a3 a4 a5 a6 c : Int) (w' : World) (cnt' : Nat),K7 d [a0,a1,a2,a3,a4,a5,a6]→left (kl [a0,a1,a2,a3,a4,a5,a6])=true→(Lit.int .i64 c).wf=true →
   D.atKey (kl [a0,a1,a2,a3,a4,a5,a6]) (.lit (.int .i64 0))=.lit (.int .i64 c)→RanP w' b r n D (fun z=>left z && !z.sameKey (kl [a0,a1,a2,a3,a4,a5,a6])) cnt'→cnt' < cnt →
   w.grownBy w' (some r)→w'.heap.size=w.heap.size →
   (Instr.entry (.pointer (some ⟨r,0,none⟩))).run Tryz.prog w'=.ok (.tuple #[.agg #[.int .i64 a0,.int .i64 a1,.int .i64 a2,.int .i64 a3,.int .i64 a4,.int .i64 a5,.int .i64 a6],.int .i64 c]) w' →
   wpList Tryz.prog ops Q rest (a.put o.dst (.tuple #[.bool true,.agg #[.int .i64 a0,.int .i64 a1,.int .i64 a2,.int .i64 a3,.int .i64 a4,.int .i64 a5,.int .i64 a6],.int .i64 c])) w') :
 wpList Tryz.prog ops Q (o :: rest) a w :=
 wpList_next_ranges w hg it hop 109 klaw (plainElem Tryz.prog 3) (fun x : Value=>x) (Value.int .i64) (fun key _ _=>⟨key,rfl⟩) (fun v y hv=>by obtain ⟨c,rfl,_⟩:=plainElem_int_inv undI hv;exact ⟨c,rfl⟩)
  b r n D left cnt hit h hDone (fun x c l y w' cnt' hkey hlk hv hat hrg hlt hgr hsz hen=>by
    obtain ⟨e,rfl,he⟩:=hp.keys l (hleft l hlk)
    obtain rfl:=klaw.inj hkey (keyOf_kv he hd)
    obtain ⟨c',ec,rfl,hwc⟩:=plainElem_int_inv undI hv
    cases ec
    obtain ⟨hl,hr⟩:=he
    match e,hl with
    | [a0,a1,a2,a3,a4,a5,a6],hl=>exact hMore a0 a1 a2 a3 a4 a5 a6 c w' cnt' ⟨hl,hr⟩ hlk hwc (hat _) hrg hlt hgr hsz hen)
end
def Gath (D : DU) (P : Pl) (T : (List Int→Int)→List Int→Int) (left : Lit→Bool) (A : Pl) : Prop :=
 ∀ g : List Int→Int,Cg (Ev A g+SmK D left fun l=>T g (unkl l)) (Ev P (T g))
theorem hm_of {w : World} {b n : Nat} {D : DU} (h : OwnMp w b n D) : ∀ es,D=.map es → ∀ p ∈ es,WideAt.IsKeyLit p.1:=fun es he p hp=>by
 obtain ⟨es',h1,_,h3⟩:=h.entries klaw
 rw [he] at h1
 injection h1 with h1
 subst h1
 exact h3 p hp
theorem Gath.start {w : World} {b n d : Nat} {D : DU} {P : Pl} {T : (List Int→Int)→List Int→Int} (h : OwnMp w b n D) (hp : PolM d D P) : Gath D P T (has D) []:=fun g=>by
 have e:=SmK_all hp.tidy (fun l hl=>by obtain ⟨e,rfl,_⟩:=hp.keys l hl;exact kl_lit e) (hm_of h) (fun l=>T g (unkl l))
 rw [e]
 simpa [Ev] using hp.sum (T g)
theorem Gath.step {d : Nat} {D : DU} {P : Pl} {T : (List Int→Int)→List Int→Int} {left : Lit→Bool} {A : Pl} (h : Gath D P T left A) (ht : Tidy D) {e : List Int} (he : K7 d e) (hd : d≤1000000) (hl : left (kl e)=true) {c : Int}
 (hat : D.atKey (kl e) (.lit (.int .i64 0))=.lit (.int .i64 c)) {A' : Pl} (hA : ∀ g,Cg (Ev A' g) (Ev A g+c * T g e)) : Gath D P T (fun z=>left z && !z.sameKey (kl e)) A':=fun g=>by
 have h0:=h g
 rw [SmK_step ht (kl_lit e) hl,hat] at h0
 simp only [coef,unkl_kl he hd] at h0
 refine ((hA g).add (Cg.refl _)).trans ?_
 rw [Int.add_assoc]
 exact h0
theorem Gath.end {D : DU} {P : Pl} {T : (List Int→Int)→List Int→Int} {left : Lit→Bool} {A : Pl} (h : Gath D P T left A) (hl : ∀ l,left l=false) : ∀ g,Cg (Ev A g) (Ev P (T g)):=fun g=>by
 have:=h g
 rw [SmK_none hl] at this
 simpa using this
def PolV (w : World) (v : Value) (d n : Nat) (P : Pl) : Prop:=∃ b D,v=.map (some b)∧OwnMp w b n D∧PolM d D P
theorem PolV.below {w w' : World} {v : Value} {d n : Nat} {P : Pl} (h : PolV w v d n P) (hb : Below w.heap.size w w') : PolV w' v d n P:=by
 obtain ⟨b,D,rfl,h1,h2⟩:=h
 have hlt:=h1.lt
 obtain ⟨es,clock,hb',F,hs,hD⟩:=h1
 exact ⟨b,D,rfl,⟨es,clock,(hb.block b hlt).trans hb',F,hs,hD⟩,h2⟩
theorem PolV.alt {w : World} {v : Value} {d n : Nat} {P Q : Pl} (h : PolV w v d n P) (hq : ∀ g,Cg (Ev P g) (Ev Q g)) : PolV w v d n Q:=by
 obtain ⟨b,D,rfl,h1,h2⟩:=h
 exact ⟨b,D,rfl,h1,h2.alt hq⟩
theorem PolV.mono {w : World} {v : Value} {d n d' n' : Nat} {P : Pl} (h : PolV w v d n P) (hd : d≤d') (hn : n≤n') : PolV w v d' n' P:=by
 obtain ⟨b,D,rfl,h1,h2⟩:=h
 exact ⟨b,D,rfl,h1.mono hn,h2.mono hd⟩
end
section
open Go.RowKit
theorem ltB_irrefl : ∀ xs,ltB xs xs=false
 | []=>rfl
 | x :: xs=>by unfold ltB;rw [if_neg (by omega),if_neg (by omega)];exact ltB_irrefl xs
theorem ltB_total : ∀ xs ys,ltB xs ys=false→ltB ys xs=false→xs=ys
 | [],[],_,_=>rfl
 | [],_ :: _,h,_=>by simp [ltB] at h
 | _ :: _,[],_,h=>by simp [ltB] at h
 | x :: xs,y :: ys,h1,h2=>by
   unfold ltB at h1 h2
   by_cases a : x < y
   ·rw [if_pos a] at h1;cases h1
   ·by_cases b : y < x
    ·rw [if_pos b] at h2;cases h2
    ·rw [if_neg a,if_neg b] at h1
     rw [if_neg b,if_neg a] at h2
     rw [ltB_total xs ys h1 h2,show x=y by omega]
theorem ltB_trans : ∀ xs ys zs,ltB xs ys=true→ltB ys zs=true→ltB xs zs=true
 | [],_,[],h1,h2=>by
   rename_i ys
   cases ys with
   | nil=>simp [ltB] at h1
   | cons y ys=>simp [ltB] at h2
 | [],_,_ :: _,_,_=>rfl
 | x :: xs,[],_,h1,_=>by simp [ltB] at h1
 | x :: xs,y :: ys,[],_,h2=>by simp [ltB] at h2
 | x :: xs,y :: ys,z :: zs,h1,h2=>by
   unfold ltB at h1 h2 ⊢
   by_cases a : x < y
   ·by_cases b : y < z
    ·rw [if_pos (by omega)]
    ·rw [if_neg b] at h2
     by_cases c : z < y
     ·rw [if_pos c] at h2;cases h2
     ·rw [if_pos (by omega)]
   ·rw [if_neg a] at h1
    by_cases a2 : y < x
    ·rw [if_pos a2] at h1;cases h1
    ·rw [if_neg a2] at h1
     by_cases b : y < z
     ·rw [if_pos (by omega)]
     ·rw [if_neg b] at h2
      by_cases c : z < y
      ·rw [if_pos c] at h2;cases h2
      ·rw [if_neg c] at h2
       rw [if_neg (by omega),if_neg (by omega)]
       exact ltB_trans xs ys zs h1 h2
theorem ltB_ntrans (xs ys zs : List Int) (h1 : ltB xs ys=false) (h2 : ltB ys zs=false) : ltB xs zs=false:=by
 cases h : ltB xs zs with
 | false=>rfl
 | true =>
   exfalso
   cases a : ltB ys xs with
   | true=>rw [ltB_trans _ _ _ a h] at h2;cases h2
   | false =>
     rw [ltB_total _ _ h1 a] at h
     rw [h] at h2;cases h2
theorem ltB_asym {xs ys : List Int} (h : ltB xs ys=true) : ltB ys xs=false:=by
 cases a : ltB ys xs with
 | false=>rfl
 | true=>have:=ltB_trans _ _ _ h a;rw [ltB_irrefl] at this;cases this
theorem cmpB_neg (xs ys : List Int) : decide (cmpB xs ys < 0)=ltB xs ys:=by
 have:=cmpB_lt xs ys
 by_cases h : 0≤cmpB xs ys
 ·rw [decide_eq_true h] at this
  rw [decide_eq_false (by omega)]
  cases hl : ltB xs ys with
  | false=>rfl
  | true=>rw [hl] at this;cases this
 ·rw [decide_eq_false h] at this
  rw [decide_eq_true (by omega)]
  cases hl : ltB xs ys with
  | false=>rw [hl] at this;cases this
  | true=>rfl
def insC (c : Cls) : List Cls→List Cls
 | []=>[c]
 | x :: l=>if ltB x.1 c.1 then x :: insC c l else c :: x :: l
def srtC (cs : List Cls) : List Cls:=cs.foldl (fun l c=>insC c l) []
theorem insC_perm (c : Cls) : ∀ l,(insC c l).Perm (c :: l)
 | []=>List.Perm.refl _
 | x :: l=>by
   rw [insC]
   split
   ·exact ((insC_perm c l).cons x).trans (List.Perm.swap c x l)
   ·exact List.Perm.refl _
theorem insC_fold_perm : ∀ (cs acc : List Cls),(cs.foldl (fun l c=>insC c l) acc).Perm (cs ++ acc)
 | [],acc=>List.Perm.refl _
 | c :: cs,acc=>by
   rw [List.foldl_cons]
   exact (insC_fold_perm cs _).trans (((insC_perm c acc).append_left cs).trans (List.perm_middle))
theorem srtC_perm (cs : List Cls) : (srtC cs).Perm cs:=by
 have:=insC_fold_perm cs []
 rw [List.append_nil] at this
 exact this
def AscC (cs : List Cls) : Prop:=cs.Pairwise fun a b=>ltB a.1 b.1=true
theorem insC_asc {c : Cls} : ∀ {l : List Cls},AscC l→(∀ x ∈ l,x.1 ≠ c.1)→AscC (insC c l)
 | [],_,_=>List.pairwise_singleton _ _
 | x :: l,h,hn=>by
   obtain ⟨h1,h2⟩:=List.pairwise_cons.1 h
   rw [insC]
   by_cases e : ltB x.1 c.1=true
   ·rw [if_pos e]
    refine List.pairwise_cons.2 ⟨fun y hy=> ?_,insC_asc h2 fun y hy=>hn y (List.mem_cons_of_mem _ hy)⟩
    rcases List.mem_cons.1 ((insC_perm c l).mem_iff.1 hy) with rfl | hy
    ·exact e
    ·exact h1 y hy
   ·rw [if_neg e]
    have e2 : ltB c.1 x.1=true:=by
     cases a : ltB c.1 x.1 with
     | true=>rfl
     | false=>exact absurd (ltB_total _ _ (by simpa using e) a) (hn x List.mem_cons_self)
    refine List.pairwise_cons.2 ⟨fun y hy=> ?_,h⟩
    rcases List.mem_cons.1 hy with rfl | hy
    ·exact e2
    ·exact ltB_trans _ _ _ e2 (h1 y hy)
theorem fold_asc : ∀ (cs acc : List Cls),AscC acc→((cs ++ acc).map (·.1)).Nodup→AscC (cs.foldl (fun l c=>insC c l) acc)
 | [],acc,h,_=>h
 | c :: cs,acc,h,hn=>by
   rw [List.foldl_cons]
   have hn':=hn
   rw [List.cons_append,List.map_cons,List.nodup_cons] at hn'
   refine fold_asc cs _ (insC_asc h fun x hx e=>hn'.1 ?_) ?_
   ·rw [← e]
    exact List.mem_map.2 ⟨x,List.mem_append_right _ hx,rfl⟩
   ·refine (List.Perm.nodup_iff ?_).2 hn
    exact (((insC_perm c acc).append_left cs).trans List.perm_middle).map _
theorem srtC_asc {cs : List Cls} (h : (cs.map (·.1)).Nodup) : AscC (srtC cs):=fold_asc cs [] List.Pairwise.nil (by rw [List.append_nil];exact h)
theorem asc_one : ∀ {a b : List Cls},AscC a→AscC b→a.Perm b→a=b
 | [],b,_,_,h=>(List.nil_perm.1 h).symm
 | x :: a,[],_,_,h=>absurd h.length_eq (by simp)
 | x :: a,y :: b,ha,hb,h=>by
   obtain ⟨a1,a2⟩:=List.pairwise_cons.1 ha
   obtain ⟨b1,b2⟩:=List.pairwise_cons.1 hb
   have hx : x ∈ y :: b:=h.mem_iff.1 List.mem_cons_self
   have hy : y ∈ x :: a:=h.mem_iff.2 List.mem_cons_self
   have e : x=y:=by
    rcases List.mem_cons.1 hx with e | hx
    ·exact e
    ·rcases List.mem_cons.1 hy with e | hy
     ·exact e.symm
     ·have c1:=b1 x hx
      have c2:=a1 y hy
      rw [ltB_asym c1] at c2;cases c2
   subst e
   rw [asc_one a2 b2 (List.Perm.cons_inv h)]
theorem srtC_eq {cs cs' : List Cls} (hn : (cs.map (·.1)).Nodup) (hp : cs'.Perm cs) (hs : cs'.Pairwise fun a b=>ltB b.1 a.1=false) : cs'=srtC cs:=by
 refine asc_one ?_ (srtC_asc hn) (hp.trans (srtC_perm cs).symm)
 have hn' : (cs'.map (·.1)).Nodup:=(List.Perm.nodup_iff (hp.map _)).2 hn
 have key : ∀ l : List Cls,(l.map (·.1)).Nodup→(l.Pairwise fun a b=>ltB b.1 a.1=false)→AscC l:=fun l=>by
  induction l with
  | nil=>exact fun _ _=>List.Pairwise.nil
  | cons x l ih =>
    intro h1 h2
    rw [List.map_cons,List.nodup_cons] at h1
    obtain ⟨p1,p2⟩:=List.pairwise_cons.1 h2
    refine List.pairwise_cons.2 ⟨fun y hy=> ?_,ih h1.2 p2⟩
    cases a : ltB x.1 y.1 with
    | true=>rfl
    | false=>exact absurd (List.mem_map.2 ⟨y,hy,ltB_total _ _ (p1 y hy) a⟩) h1.1
 exact key cs' hn' hs
def cmpK (xs ys : List Int) : Nat→Int
 | 0=>0
 | k+1=>if xs.getD k 0=ys.getD k 0 then cmpK xs ys k else ys.getD k 0 - xs.getD k 0
def cmpT (xs ys : List Int) : Int:=cmpK xs ys 7
def rvK (xs : List Int) : Nat→List Int
 | 0=>[]
 | k+1=> -(xs.getD k 0) :: rvK xs k
def rvT (xs : List Int) : List Int:=(xs.map fun x=> -x).reverse
theorem rvK_eq (xs : List Int) : ∀ k,k≤xs.length→rvK xs k=((xs.take k).map fun x=> -x).reverse
 | 0,_=>by simp [rvK]
 | k+1,h=>by
   rw [rvK,rvK_eq xs k (by omega),List.take_succ_eq_append_getElem (by omega),List.map_append,List.reverse_append,List.getD_eq_getElem?_getD,List.getElem?_eq_getElem (show k < xs.length by omega)]
   rfl
theorem rvK_all {xs : List Int} (h : xs.length=7) : rvK xs 7=rvT xs:=by
 rw [rvK_eq xs 7 (by omega),← h,List.take_length];rfl
theorem cmpK_lt (xs ys : List Int) : ∀ k,decide (cmpK xs ys k < 0)=ltB (rvK xs k) (rvK ys k)
 | 0=>rfl
 | k+1=>by
   rw [rvK,rvK,ltB,cmpK]
   by_cases e : xs.getD k 0=ys.getD k 0
   ·rw [if_pos e,if_neg (by omega),if_neg (by omega)]
    exact cmpK_lt xs ys k
   ·rw [if_neg e]
    by_cases h : -(xs.getD k 0) < -(ys.getD k 0)
    ·rw [if_pos h];exact decide_eq_true (by omega)
    ·rw [if_neg h,if_pos (by omega)];exact decide_eq_false (by omega)
def ltT (xs ys : List Int) : Bool:=ltB (rvT xs) (rvT ys)
theorem cmpT_neg {xs ys : List Int} (hx : xs.length=7) (hy : ys.length=7) : decide (cmpT xs ys < 0)=ltT xs ys:=by
 unfold cmpT ltT
 rw [cmpK_lt,rvK_all hx,rvK_all hy]
theorem rvT_inj {xs ys : List Int} (h : rvT xs=rvT ys) : xs=ys:=by
 have h1:=List.reverse_inj.1 h
 exact (List.map_inj_right fun a b e=>by omega).1 h1
theorem ltT_irrefl (xs : List Int) : ltT xs xs=false:=ltB_irrefl _
theorem ltT_total (xs ys : List Int) (h1 : ltT xs ys=false) (h2 : ltT ys xs=false) : xs=ys:=rvT_inj (ltB_total _ _ h1 h2)
theorem ltT_trans (xs ys zs : List Int) (h1 : ltT xs ys=true) (h2 : ltT ys zs=true) : ltT xs zs=true:=ltB_trans _ _ _ h1 h2
theorem ltT_ntrans (xs ys zs : List Int) (h1 : ltT xs ys=false) (h2 : ltT ys zs=false) : ltT xs zs=false:=ltB_ntrans _ _ _ h1 h2
theorem ltT_asym {xs ys : List Int} (h : ltT xs ys=true) : ltT ys xs=false:=ltB_asym h
def insT (c : Cls) : List Cls→List Cls
 | []=>[c]
 | x :: l=>if ltT x.1 c.1 then x :: insT c l else c :: x :: l
def srtT (cs : List Cls) : List Cls:=cs.foldl (fun l c=>insT c l) []
theorem insT_perm (c : Cls) : ∀ l,(insT c l).Perm (c :: l)
 | []=>List.Perm.refl _
 | x :: l=>by
   rw [insT]
   split
   ·exact ((insT_perm c l).cons x).trans (List.Perm.swap c x l)
   ·exact List.Perm.refl _
theorem insT_fold_perm : ∀ (cs acc : List Cls),(cs.foldl (fun l c=>insT c l) acc).Perm (cs ++ acc)
 | [],acc=>List.Perm.refl _
 | c :: cs,acc=>by
   rw [List.foldl_cons]
   exact (insT_fold_perm cs _).trans (((insT_perm c acc).append_left cs).trans (List.perm_middle))
theorem srtT_perm (cs : List Cls) : (srtT cs).Perm cs:=by
 have:=insT_fold_perm cs []
 rw [List.append_nil] at this
 exact this
def AscT (cs : List Cls) : Prop:=cs.Pairwise fun a b=>ltT a.1 b.1=true
theorem insT_asc {c : Cls} : ∀ {l : List Cls},AscT l→(∀ x ∈ l,x.1 ≠ c.1)→AscT (insT c l)
 | [],_,_=>List.pairwise_singleton _ _
 | x :: l,h,hn=>by
   obtain ⟨h1,h2⟩:=List.pairwise_cons.1 h
   rw [insT]
   by_cases e : ltT x.1 c.1=true
   ·rw [if_pos e]
    refine List.pairwise_cons.2 ⟨fun y hy=> ?_,insT_asc h2 fun y hy=>hn y (List.mem_cons_of_mem _ hy)⟩
    rcases List.mem_cons.1 ((insT_perm c l).mem_iff.1 hy) with rfl | hy
    ·exact e
    ·exact h1 y hy
   ·rw [if_neg e]
    have e2 : ltT c.1 x.1=true:=by
     cases a : ltT c.1 x.1 with
     | true=>rfl
     | false=>exact absurd (ltT_total _ _ (by simpa using e) a) (hn x List.mem_cons_self)
    refine List.pairwise_cons.2 ⟨fun y hy=> ?_,h⟩
    rcases List.mem_cons.1 hy with rfl | hy
    ·exact e2
    ·exact ltT_trans _ _ _ e2 (h1 y hy)
theorem foldT_asc : ∀ (cs acc : List Cls),AscT acc→((cs ++ acc).map (·.1)).Nodup→AscT (cs.foldl (fun l c=>insT c l) acc)
 | [],acc,h,_=>h
 | c :: cs,acc,h,hn=>by
   rw [List.foldl_cons]
   have hn':=hn
   rw [List.cons_append,List.map_cons,List.nodup_cons] at hn'
   refine foldT_asc cs _ (insT_asc h fun x hx e=>hn'.1 ?_) ?_
   ·rw [← e]
    exact List.mem_map.2 ⟨x,List.mem_append_right _ hx,rfl⟩
   ·refine (List.Perm.nodup_iff ?_).2 hn
    exact (((insT_perm c acc).append_left cs).trans List.perm_middle).map _
theorem srtT_asc {cs : List Cls} (h : (cs.map (·.1)).Nodup) : AscT (srtT cs):=foldT_asc cs [] List.Pairwise.nil (by rw [List.append_nil];exact h)
theorem ascT_one : ∀ {a b : List Cls},AscT a→AscT b→a.Perm b→a=b
 | [],b,_,_,h=>(List.nil_perm.1 h).symm
 | x :: a,[],_,_,h=>absurd h.length_eq (by simp)
 | x :: a,y :: b,ha,hb,h=>by
   obtain ⟨a1,a2⟩:=List.pairwise_cons.1 ha
   obtain ⟨b1,b2⟩:=List.pairwise_cons.1 hb
   have hx : x ∈ y :: b:=h.mem_iff.1 List.mem_cons_self
   have hy : y ∈ x :: a:=h.mem_iff.2 List.mem_cons_self
   have e : x=y:=by
    rcases List.mem_cons.1 hx with e | hx
    ·exact e
    ·rcases List.mem_cons.1 hy with e | hy
     ·exact e.symm
     ·have c1:=b1 x hx
      have c2:=a1 y hy
      rw [ltT_asym c1] at c2;cases c2
   subst e
   rw [ascT_one a2 b2 (List.Perm.cons_inv h)]
theorem srtT_eq {cs cs' : List Cls} (hn : (cs.map (·.1)).Nodup) (hp : cs'.Perm cs) (hs : cs'.Pairwise fun a b=>ltT b.1 a.1=false) : cs'=srtT cs:=by
 refine ascT_one ?_ (srtT_asc hn) (hp.trans (srtT_perm cs).symm)
 have hn' : (cs'.map (·.1)).Nodup:=(List.Perm.nodup_iff (hp.map _)).2 hn
 have key : ∀ l : List Cls,(l.map (·.1)).Nodup→(l.Pairwise fun a b=>ltT b.1 a.1=false)→AscT l:=fun l=>by
  induction l with
  | nil=>exact fun _ _=>List.Pairwise.nil
  | cons x l ih =>
    intro h1 h2
    rw [List.map_cons,List.nodup_cons] at h1
    obtain ⟨p1,p2⟩:=List.pairwise_cons.1 h2
    refine List.pairwise_cons.2 ⟨fun y hy=> ?_,ih h1.2 p2⟩
    cases a : ltT x.1 y.1 with
    | true=>rfl
    | false=>exact absurd (List.mem_map.2 ⟨y,hy,ltT_total _ _ (p1 y hy) a⟩) h1.1
 exact key cs' hn' hs
def restAt (x : Nat) : Nat→Nat
 | 0=>x
 | j+1=>restAt x j / (j+1)
def digits (n x : Nat) : List Nat:=(List.range n).map fun i=>restAt x (n - 1 - i) % (n - i)
def permsL (n : Nat) : List (List Int):=(List.range (fact n)).map fun x=>decL n (digits n x)
def nmOk (N : Int) (y : List Int) : Bool:=decide (1≤N) && decide (N≤5) && decide ((y.length : Int)=N) && decide (∀ x ∈ y,-9≤x∧x≤9)
def apOk (N : Int) (y : List Int) : Bool:=nmOk N y && decide (N≤4) && decide y.Nodup
def mostB (vs : List Int) : Bool:=decide (∀ x ∈ vs,-1000000000000≤x∧x≤1000000000000)
def swapL (w : List Int) (i j : Nat) : List Int:=(w.set i (w.getD j 0)).set j (w.getD i 0)
theorem swapL_length (w : List Int) (i j : Nat) : (swapL w i j).length=w.length:=by simp [swapL]
theorem swapL_getD {w : List Int} {i j t : Nat} (hi : i < w.length) (hj : j < w.length) : (swapL w i j).getD t 0=if t=j then w.getD i 0 else if t=i then w.getD j 0 else w.getD t 0:=by
 unfold swapL
 by_cases e1 : t=j
 ·subst e1
  rw [if_pos rfl,List.getD_eq_getElem?_getD,List.getElem?_set_self (by simpa using hj)]
  rfl
 ·rw [if_neg e1,List.getD_eq_getElem?_getD,List.getElem?_set_ne (fun h=>e1 h.symm)]
  by_cases e2 : t=i
  ·subst e2
   rw [if_pos rfl,List.getElem?_set_self hi]
   rfl
  ·rw [if_neg e2,List.getElem?_set_ne (fun h=>e2 h.symm),← List.getD_eq_getElem?_getD]
def cdK (xs : List Int) (i t : Nat) : Nat:=((List.range t).filter fun (s : Nat)=>decide (xs.getD (i+1+s) 0 < xs.getD i 0)).length
def cdA (xs : List Int) (i : Nat) : Nat:=cdK xs i (xs.length - (i+1))
def plA (xs : List Int) : Nat→Nat
 | 0=>0
 | i+1=>plA xs i * (xs.length - i)+cdA xs i
def plN (xs : List Int) : Nat:=plA xs xs.length
def ltL : List Int→List Int→Bool
 | [],[]=>false
 | [],_ :: _=>true
 | _ :: _,[]=>false
 | x :: xs,y :: ys=>if x < y then true else if y < x then false else ltL xs ys
structure GkN (n : Nat) : Prop where
 len : ∀ x,x < fact n→((permsL n).getD x []).length=n
 rng : ∀ x t,x < fact n→t < n → ∃ m : Nat,((permsL n).getD x []).getD t 0=(m : Int)∧m < n
 inj : ∀ x s t,x < fact n→s < t→t < n→((permsL n).getD x []).getD s 0 ≠ ((permsL n).getD x []).getD t 0
 plc : ∀ x i j,x < fact n→i < j→j < n→plN (swapL ((permsL n).getD x []) i j) < fact n∧(permsL n).getD (plN (swapL ((permsL n).getD x []) i j)) []=swapL ((permsL n).getD x []) i j
 lt : ∀ x z,x < fact n→z < fact n→ltL ((permsL n).getD x []) ((permsL n).getD z [])=decide (x < z)
def gkAt (n : Nat) (vs y : List Int) (x i j : Nat) : Prop :=
 (vs.getD x 0 - vs.getD (plN (swapL ((permsL n).getD x []) i j)) 0).tmod (y.getD (((permsL n).getD x []).getD i 0).toNat 0 - y.getD (((permsL n).getD x []).getD j 0).toNat 0)=0
def GkIs (N : Int) (vs y : List Int) (b : Bool) : Prop :=
 b=true ↔ apOk N y=true∧vs.length=fact N.toNat∧mostB vs=true ∧ ∀ x i j,x < fact N.toNat→i < j→j < N.toNat→gkAt N.toNat vs y x i j
theorem GkIs.one {N : Int} {vs y : List Int} {b b' : Bool} (h : GkIs N vs y b) (h' : GkIs N vs y b') : b=b':=by
 unfold GkIs at h h'
 have e : b=true ↔ b'=true:=h.trans h'.symm
 cases b <;> cases b' <;> simp_all
theorem toFin {n : Nat} {x : Int} (h : 0≤x∧x < (n : Int)) : ∃ a : Fin n,x=((a : Nat) : Int):=⟨⟨x.toNat,by omega⟩,by simp;omega⟩
def memB (xs : List Int) : Bool:=!permOk xs || (permsL xs.length).contains xs
theorem mem_1 : ∀ a : Fin 1,memB [((a : Nat) : Int)]=true:=by decide +kernel
theorem mem_2 : ∀ a b : Fin 2,memB [((a : Nat) : Int),((b : Nat) : Int)]=true:=by decide +kernel
theorem mem_3 : ∀ a b c : Fin 3,memB [((a : Nat) : Int),((b : Nat) : Int),((c : Nat) : Int)]=true:=by decide +kernel
theorem mem_4 : ∀ a b c d : Fin 4,memB [((a : Nat) : Int),((b : Nat) : Int),((c : Nat) : Int),((d : Nat) : Int)]=true:=by decide +kernel
theorem mem_5 : ∀ a b c d e : Fin 5,memB [((a : Nat) : Int),((b : Nat) : Int),((c : Nat) : Int),((d : Nat) : Int),((e : Nat) : Int)]=true:=by decide +kernel
theorem perm_mem {xs : List Int} (h : permOk xs=true) (h5 : xs.length≤5) : xs ∈ permsL xs.length:=by
 have key : memB xs=true:=by
  have hp:=h
  simp only [permOk,decide_eq_true_eq] at hp
  obtain ⟨h1,h7,hr,_⟩:=hp
  match xs,h1,h5,hr with
  | [a],_,_,hr =>
    obtain ⟨a,rfl⟩:=toFin (n:=1) (hr a (by simp))
    exact mem_1 a
  | [a,b],_,_,hr =>
    obtain ⟨a,rfl⟩:=toFin (n:=2) (hr a (by simp))
    obtain ⟨b,rfl⟩:=toFin (n:=2) (hr b (by simp))
    exact mem_2 a b
  | [a,b,c],_,_,hr =>
    obtain ⟨a,rfl⟩:=toFin (n:=3) (hr a (by simp))
    obtain ⟨b,rfl⟩:=toFin (n:=3) (hr b (by simp))
    obtain ⟨c,rfl⟩:=toFin (n:=3) (hr c (by simp))
    exact mem_3 a b c
  | [a,b,c,d],_,_,hr =>
    obtain ⟨a,rfl⟩:=toFin (n:=4) (hr a (by simp))
    obtain ⟨b,rfl⟩:=toFin (n:=4) (hr b (by simp))
    obtain ⟨c,rfl⟩:=toFin (n:=4) (hr c (by simp))
    obtain ⟨d,rfl⟩:=toFin (n:=4) (hr d (by simp))
    exact mem_4 a b c d
  | [a,b,c,d,e],_,_,hr =>
    obtain ⟨a,rfl⟩:=toFin (n:=5) (hr a (by simp))
    obtain ⟨b,rfl⟩:=toFin (n:=5) (hr b (by simp))
    obtain ⟨c,rfl⟩:=toFin (n:=5) (hr c (by simp))
    obtain ⟨d,rfl⟩:=toFin (n:=5) (hr d (by simp))
    obtain ⟨e,rfl⟩:=toFin (n:=5) (hr e (by simp))
    exact mem_5 a b c d e
 unfold memB at key
 rw [h] at key
 simpa using key
def all5 (B : List Int→Bool) : Bool:=(List.range 6).all fun n=>(permsL n).all fun v=> !decide (1≤n) || B v
theorem all5_at {B : List Int→Bool} (h : all5 B=true) {xs : List Int} (hp : permOk xs=true) (h5 : xs.length≤5) : B xs=true:=by
 unfold all5 at h
 rw [List.all_eq_true] at h
 have a:=h xs.length (List.mem_range.2 (by omega))
 rw [List.all_eq_true] at a
 have b:=a xs (perm_mem hp h5)
 have : 1≤xs.length:=by simp only [permOk,decide_eq_true_eq] at hp;exact hp.1
 simpa [this] using b
def sw (k : Nat) (v : List Int) : List Int:=swapL v k (k+1)
def ascB (k : Nat) (v : List Int) : Bool:=decide (v.getD k 0 < v.getD (k+1) 0)
def upN (v : List Int) : Nat:=((List.range v.length).map fun j=>((List.range j).filter fun i=>decide (v.getD i 0 < v.getD j 0)).length).sum
def ok2B (v : List Int) : Bool:=(List.range (v.length - 1)).all fun k=>permOk (sw k v) && (if ascB k v then decide (upN (sw k v)+1=upN v) && !ascB k (sw k v) else decide (upN (sw k v)=upN v+1) && ascB k (sw k v))
theorem ok2_all : all5 ok2B=true:=by decide +kernel
theorem sw_length (k : Nat) (v : List Int) : (sw k v).length=v.length:=swapL_length _ _ _
structure P5 (n : Nat) (v : List Int) : Prop where
 ok : permOk v=true
 len : v.length=n
 le : n≤5
theorem P5.sw {n : Nat} {v : List Int} (h : P5 n v) {k : Nat} (hk : k+1 < n) : P5 n (sw k v):=by
 have:=all5_at ok2_all h.ok (by have:=h.len;have:=h.le;omega)
 simp only [ok2B,Bool.and_eq_true,List.all_eq_true,List.mem_range] at this
 exact ⟨(this k (by have:=h.len;omega)).1,by rw [sw_length];exact h.len,h.le⟩
theorem P5.asc {n : Nat} {v : List Int} (h : P5 n v) {k : Nat} (hk : k+1 < n) (ha : ascB k v=true) : upN (Go.Proofs.YtincaodpjdeoeaaGreatDoor.sw k v)+1=upN v∧ascB k (Go.Proofs.YtincaodpjdeoeaaGreatDoor.sw k v)=false:=by
 have:=all5_at ok2_all h.ok (by have:=h.len;have:=h.le;omega)
 simp only [ok2B,Bool.and_eq_true,List.all_eq_true,List.mem_range] at this
 have:=(this k (by have:=h.len;omega)).2
 rw [ha] at this
 simpa using this
theorem P5.desc {n : Nat} {v : List Int} (h : P5 n v) {k : Nat} (hk : k+1 < n) (ha : ascB k v=false) : upN (Go.Proofs.YtincaodpjdeoeaaGreatDoor.sw k v)=upN v+1∧ascB k (Go.Proofs.YtincaodpjdeoeaaGreatDoor.sw k v)=true:=by
 have:=all5_at ok2_all h.ok (by have:=h.len;have:=h.le;omega)
 simp only [ok2B,Bool.and_eq_true,List.all_eq_true,List.mem_range] at this
 have:=(this k (by have:=h.len;omega)).2
 rw [ha] at this
 simpa using this
theorem OwnI.setG {T : TypeId} {w : World} {lo hi g n cap t : Nat} {D : List Int} (h : OwnI T w lo hi (.slice (some ⟨g,0,none⟩) n cap) D) (ht : t < D.length) (x : Int) : OwnI T (w.setCell ⟨g,t,none⟩ (.int .i64 x)) lo hi (.slice (some ⟨g,0,none⟩) n cap) (D.set t x):=by
 refine OwnF.ints ?_
 rw [List.length_set]
 refine (h.fn.set t _).congr fun j hj=> ?_
 unfold iv
 by_cases e : j=t
 ·subst e;simp [List.getD_eq_getElem?_getD,ht]
 ·simp [e,List.getD_eq_getElem?_getD,List.getElem?_set_ne (fun h=>e h.symm)]
theorem l1Swap_any (v : Value) (xs : List Int) (i j : Nat) (w : World) (h : Ints w v xs) (hi : i < xs.length) (hj : j < xs.length) (hl : xs.length≤1000) :
 Calls Tryz.prog 51 #[v,.int .i64 (i : Int),.int .i64 (j : Int)] w (RetI w (swapL xs i j)):=by
 have Hh:=Lib.hid h
 obtain ⟨p,cap,rfl,⟨hx1,hx⟩,hxc⟩:=h
 unfold maxLen at hx
 obtain ⟨b,off,rfl,hc⟩:=hxc (by omega)
 have Hc:=Lib.hid hc
 clear hc hxc
 go_enter Tryz.func51,Tryz.ntmps51
 go_wp2_with fail
 refine (l1Ints_any _ xs _ Hh.out (by omega)).mono ?_
 rintro e w1 ⟨u,rfl,ho,hb⟩
 have hofn:=ho.fn
 obtain ⟨pu,ku,rfl,hku,hku2⟩:=ho.shape
 unfold maxLen at hku2
 obtain ⟨g,rfl,hg1,hg2,hg3⟩:=hofn.at_ (by omega)
 obtain ⟨x,hx'⟩ : ∃ x,x=xs.getD i 0:=⟨_,rfl⟩
 obtain ⟨y,hy'⟩ : ∃ y,y=xs.getD j 0:=⟨_,rfl⟩
 have c1 : w1.cell? ⟨b,off+i,none⟩=some (.int .i64 x):=by rw [hx'];exact cell_below hb (Hc.out i hi)
 have c2 : w1.cell? ⟨b,off+j,none⟩=some (.int .i64 y):=by rw [hy'];exact cell_below hb (Hc.out j hj)
 have f1:=hofn.frozen i
 have f2:=hofn.frozen j
 have d1:=hofn.cell hi
 have d2:=hofn.cell hj
 obtain ⟨z,d3⟩ : ∃ z,(w1.setCell ⟨g,i,none⟩ (.int .i64 y)).cell? ⟨g,j,none⟩=some z:=⟨_,(hofn.set i (.int .i64 y)).cell hj⟩
 have hgb : g ≠ b:=fun e=>by
  have:=World.block_lt_of_cell? _ _ (Hc.out i hi)
  have : b < w.heap.size:=this
  omega
 have hbg : b ≠ g:=fun e=>hgb e.symm
 obtain ⟨n,hn⟩ : ∃ n,n=xs.length:=⟨_,rfl⟩
 have Hn:=Lib.hid hn
 have Ho:=Lib.hid ho
 have Hb:=Lib.hid hb
 have Hx:=Lib.hid hx'
 have Hy:=Lib.hid hy'
 have hi2 : (i : Int) < (n : Int):=by omega
 have hj2 : (j : Int) < (n : Int):=by omega
 rw [← hn] at hx1 hku hi hj ⊢
 clear hofn ho hb hn hx' hy' hgb
 go_wp2_with fail
 go_ret
 refine ⟨_,rfl,?_,((Hb.out.setCell (p:=⟨g,i,none⟩) hg1 _).setCell (p:=⟨g,j,none⟩) hg1 _)⟩
 unfold swapL
 rw [← Hx.out,← Hy.out]
 have o1:=(Ho.out.setG (by rw [← Hn.out];exact hi) y).setG (t:=j) (by rw [List.length_set,← Hn.out];exact hj) x
 rw [← Hn.out] at o1
 have:=o1.mono (Nat.le_refl _) (show w1.heap.size≤((w1.setCell ⟨g,i,none⟩ (.int .i64 y)).setCell ⟨g,j,none⟩ (.int .i64 x)).heap.size by simp)
 exact this
theorem cdK_yes {xs : List Int} {i t : Nat} (h : xs.getD (i+1+t) 0 < xs.getD i 0) : cdK xs i (t+1)=cdK xs i t+1:=by
 unfold cdK
 rw [List.range_succ,List.filter_append]
 simp only [List.filter_cons,List.filter_nil,h,decide_true,if_true,List.length_append,List.length_singleton]
theorem cdK_no {xs : List Int} {i t : Nat} (h : ¬ xs.getD (i+1+t) 0 < xs.getD i 0) : cdK xs i (t+1)=cdK xs i t:=by
 unfold cdK
 rw [List.range_succ,List.filter_append]
 have e : List.filter (fun (s : Nat)=>decide (xs.getD (i+1+s) 0 < xs.getD i 0)) [t]=[]:=by
  rw [List.filter_cons,decide_eq_false h];rfl
 rw [e,List.append_nil]
theorem cdK_le (xs : List Int) (i t : Nat) : cdK xs i t≤t:=by
 unfold cdK
 exact Nat.le_trans (List.length_filter_le _ _) (by simp)
def cdF (xs : List Int) (i t j : Nat) : Nat:=if j < i then cdA xs j else if j=i then cdK xs i t else 0
def cdL (xs : List Int) : List Int:=(List.range xs.length).map fun i=>(cdA xs i : Int)
theorem cdL_length (xs : List Int) : (cdL xs).length=xs.length:=by simp [cdL]
theorem cdL_getD {xs : List Int} {i : Nat} (h : i < xs.length) : (cdL xs).getD i 0=(cdA xs i : Int):=by simp [cdL,List.getD_eq_getElem?_getD,h]
theorem l1Code_any (v : Value) (xs : List Int) (w : World) (h : Ints w v xs) (hl : xs.length≤10) :
 Calls Tryz.prog 86 #[v] w (RetI w (cdL xs)):=by
 obtain ⟨p,cap,rfl,⟨hx1,hx⟩,hxc⟩:=h
 unfold maxLen at hx
 obtain ⟨n,hn⟩ : ∃ n,n=xs.length:=⟨_,rfl⟩
 have hmk:=run_make_row' (P:=Tryz.prog) 24 3 (.int .i64 0) 8 Tryz.underlying24 info_int rfl .i64 .i64 n (by omega) (by omega)
 have Hn:=Lib.hid hn
 rw [← hn] at hx1 hxc hl ⊢
 have Hxc:=Lib.hid hxc
 clear hn hxc
 go_enter Tryz.func86,Tryz.ntmps86
 go_wp2_with fail
 go_loopg [4,5] n (fun g s4 s5 wr=> ∃ i : Nat,i≤n∧g=n - i∧s4=.int .i64 i∧Hid (Below w.heap.size w wr)∧Hid (wr.rowIs w.heap.size 3 n (fun j=>.int .i64 (cdF xs i 0 j : Nat))))
 case atStart =>
  refine ⟨0,Nat.zero_le _,rfl,rfl,Lib.hid (below_alloc _ _),Lib.hid ?_⟩
  exact (World.rowIs_made w (.int .i64 0) n 3).congr fun j _=>by
   unfold cdF cdK
   by_cases e : j=0 <;> simp [e]
 case round =>
  obtain ⟨i,hi,rfl,rfl,hb,hrow⟩:=hrel
  by_cases hlt : i < n
  ·have hlti : (i : Int) < (n : Int):=by omega
   obtain ⟨b,off,rfl,hc⟩:=Hxc.out (by omega)
   have Hc:=Lib.hid hc
   obtain ⟨wo,rfl⟩ : ∃ x : World,x=wr:=⟨_,rfl⟩
   have Hb:=Lib.hid hb.out
   have Hrow:=Lib.hid hrow.out
   clear hc hb hrow
   go_wp2_with fail
   go_loopg [5] (n - (i+1)) (fun g s5 wr=> ∃ t : Nat,i+1+t≤n∧g=n - (i+1) - t∧s5=.int .i64 ((i : Int)+1+(t : Int))∧Hid (Below w.heap.size w wr)∧Hid (wr.rowIs w.heap.size 3 n (fun j=>.int .i64 (cdF xs i t j : Nat))))
   case atStart=>exact ⟨0,by omega,rfl,by go_num,Hb,Hrow⟩
   case round =>
    obtain ⟨t,ht,rfl,rfl,hb,hrow⟩:=hrel
    by_cases htl : i+1+t < n
    ·have hti : (i : Int)+1+(t : Int) < (n : Int):=by omega
     obtain ⟨x,hx'⟩ : ∃ x,x=xs.getD (i+1+t) 0:=⟨_,rfl⟩
     obtain ⟨y,hy'⟩ : ∃ y,y=xs.getD i 0:=⟨_,rfl⟩
     have c1 : wr.cell? ⟨b,off+(i+1+t),none⟩=some (.int .i64 x):=by rw [hx'];exact cell_below hb.out (Hc.out (i+1+t) htl)
     have c2 : wr.cell? ⟨b,off+i,none⟩=some (.int .i64 y):=by rw [hy'];exact cell_below hb.out (Hc.out i hlt)
     have hnat : ((i : Int)+1+(t : Int)).toNat=i+1+t:=by omega
     have h0 : (0 : Int)≤(i : Int)+1+(t : Int):=by omega
     have d1:=hrow.out.cell hlt
     have d2:=hrow.out.frozen i
     obtain ⟨z,hz⟩ : ∃ z,z=cdF xs i t i:=⟨_,rfl⟩
     rw [← hz] at d1
     have hz2 : z=cdK xs i t:=by rw [hz];unfold cdF;rw [if_neg (Nat.lt_irrefl _),if_pos rfl]
     have hz3 : z≤10:=by rw [hz2];have:=cdK_le xs i t;omega
     have Hx:=Lib.hid hx'
     have Hy:=Lib.hid hy'
     have Hz:=Lib.hid hz2
     have Hb1:=Lib.hid hb.out
     have Hrow1:=Lib.hid hrow.out
     clear hx' hy' hz hz2 hb hrow
     go_wp2_with fail
     go_quiet (fail)
     have Hb2:=Lib.hid (Below.drewN Hb1.out nq)
     have Hrow2:=Lib.hid (show (wr.drewN nq).rowIs w.heap.size 3 n (fun j=>.int .i64 (cdF xs i t j : Nat)) from Hrow1.out.of_block rfl)
     have d1' : (wr.drewN nq).cell? ⟨w.heap.size,i,none⟩=some (.int .i64 (z : Int)):=d1
     have d2' : (wr.drewN nq).frozen? ⟨w.heap.size,i,none⟩=false:=d2
     generalize wr.drewN nq=wd at *
     by_cases hxy : x < y
     ·have Hk:=Lib.hid (show cdK xs i (t+1)=z+1 by rw [cdK_yes (by rw [← Hx.out,← Hy.out];exact hxy),Hz.out])
      go_wp2_with fail
      go_roundg (n - (i+1) - (t+1))
      case measure=>omega
      case rel =>
       refine ⟨t+1,by omega,rfl,by go_num,Lib.hid (Hb2.out.setCell (Nat.le_refl _) _),Lib.hid ((Hrow2.out.set i _).congr fun j _=> ?_)⟩
       by_cases e : j=i
       ·subst e
        rw [if_pos rfl]
        unfold cdF
        rw [if_neg (Nat.lt_irrefl _),if_pos rfl,Hk.out]
        go_num
       ·rw [if_neg e]
        unfold cdF
        rw [if_neg e,if_neg e]
     ·have Hk:=Lib.hid (show cdK xs i (t+1)=cdK xs i t by rw [cdK_no (by rw [← Hx.out,← Hy.out];exact hxy)])
      go_wp2_with fail
      go_roundg (n - (i+1) - (t+1))
      case measure=>omega
      case rel =>
       refine ⟨t+1,by omega,rfl,by go_num,Hb2,Lib.hid (Hrow2.out.congr fun j _=> ?_)⟩
       unfold cdF
       rw [Hk.out]
    ·have hti : ¬ (i : Int)+1+(t : Int) < (n : Int):=by omega
     have htn : t=n - (i+1):=by omega
     have Hb1:=Lib.hid hb.out
     have Hrow1:=Lib.hid hrow.out
     have Htn:=Lib.hid htn
     clear hb hrow htn
     go_wp2_with fail
     go_roundg (n - (i+1))
     case measure=>omega
     case rel =>
      refine ⟨i+1,by omega,rfl,by go_num,Hb1,Lib.hid (Hrow1.out.congr fun j _=> ?_)⟩
      unfold cdF
      by_cases e1 : j < i
      ·rw [if_pos e1,if_pos (show j < i+1 by omega)]
      ·by_cases e2 : j=i
       ·subst e2
        rw [if_neg e1,if_pos rfl,if_pos (Nat.lt_succ_self j)]
        unfold cdA
        rw [← Hn.out,Htn.out]
       ·rw [if_neg e1,if_neg e2,if_neg (show ¬ j < i+1 by omega)]
        by_cases e3 : j=i+1
        ·rw [if_pos e3];rfl
        ·rw [if_neg e3]
  ·obtain rfl : n=i:=by omega
   have hlti : ¬ (n : Int) < (n : Int):=by omega
   have hr0 : wr.rowIs w.heap.size 3 n (iv (cdL xs)):=hrow.out.congr fun j hj=>by
    rw [iv,cdL_getD (by rw [← Hn.out];exact hj)]
    unfold cdF
    rw [if_pos hj]
   have ho:=rowIs_ints (xs:=cdL xs) (by rw [cdL_length,← Hn.out];exact hr0) (by rw [cdL_length,← Hn.out];unfold maxLen;omega)
   rw [cdL_length,← Hn.out] at ho
   have Ho:=Lib.hid ho
   clear ho hrow
   go_wp2_with fail
   go_ret
   exact ⟨_,rfl,Ho.out,hb.out⟩
def invK (xs : List Int) : Nat→Nat→Int
 | 0,_=>0
 | k+1,j=>if (j : Int)=xs.getD k 0 then k else invK xs k j
def invL (xs : List Int) : List Int:=(List.range xs.length).map (invK xs xs.length)
theorem invL_length (xs : List Int) : (invL xs).length=xs.length:=by simp [invL]
def lnK (xs : List Int) : Nat→Nat
 | 0=>0
 | k+1=>lnK xs k+cdA xs k
def lnN (xs : List Int) : Nat:=lnK xs xs.length
theorem lnK_le (xs : List Int) (h : xs.length≤10) : ∀ k,k≤xs.length→lnK xs k≤k * 10
 | 0,_=>Nat.le_refl _
 | k+1,hk=>by
   have a:=lnK_le xs h k (by omega)
   have b:=cdK_le xs k (xs.length - (k+1))
   rw [lnK]
   unfold cdA
   omega
def fdN (b : List Int) : Nat:=((List.range (b.length - 1)).find? fun k=> !ascB k b).getD 0
def frN (w : List Int) : Nat:=fdN (invL w)
def frV (w : List Int) (k : Nat) : List Int:=(w.set ((invL w).getD k 0).toNat ((k+1 : Nat) : Int)).set ((invL w).getD (k+1) 0).toNat (k : Int)
def frS (w : List Int) : List Int:=frV w (frN w)
def firL : Nat→List Int→List Nat
 | 0,_=>[]
 | f+1,w=>frN w :: firL f (frS w)
def fstL (w : List Int) : List Nat:=firL (lnN w) w
def play (r : List Nat) (u : List Int) : List Int:=r.foldl (fun u k=>sw k u) u
def firB (w : List Int) : Bool:=decide (lnN w=0) || (decide (frN w+1 < w.length) && !ascB (frN w) (invL w) && (List.range (frN w)).all (fun j=>ascB j (invL w)) && permOk (frS w) && decide (lnN (frS w)+1=lnN w) && (invL w).all (fun x=>decide (0≤x∧x < (w.length : Int))))
def wrdB (w : List Int) : Bool:=decide (play (fstL w) (idL w.length)=w) && (fstL w).all (fun k=>decide (k+1 < w.length)) && decide ((fstL w).length≤10) && decide (lnN w+upN w=w.length * (w.length - 1) / 2)
theorem fir_all : all5 firB=true:=by decide +kernel
theorem wrd_all : all5 wrdB=true:=by decide +kernel
structure FirAt (w : List Int) : Prop where
 lt : frN w+1 < w.length
 down : ascB (frN w) (invL w)=false
 up : ∀ j,j < frN w→ascB j (invL w)=true
 ok : permOk (frS w)=true
 less : lnN (frS w)+1=lnN w
 rng : ∀ j,j < w.length → ∃ m : Nat,(invL w).getD j 0=(m : Int)∧m < w.length
theorem fir_at {n : Nat} {w : List Int} (h : P5 n w) (h0 : lnN w ≠ 0) : FirAt w:=by
 have:=all5_at fir_all h.ok (by have:=h.len;have:=h.le;omega)
 unfold firB at this
 rw [decide_eq_false h0,Bool.false_or] at this
 simp only [Bool.and_eq_true,decide_eq_true_eq,List.all_eq_true,List.mem_range] at this
 obtain ⟨⟨⟨⟨⟨h1,h2⟩,h3⟩,h4⟩,h5⟩,h6⟩:=this
 refine ⟨h1,by simpa using h2,h3,h4,h5,fun j hj=> ?_⟩
 have:=h6 _ (getD_mem (show j < (invL w).length by rw [invL_length];exact hj))
 exact ⟨((invL w).getD j 0).toNat,by omega,by omega⟩
theorem wrd_at {n : Nat} {w : List Int} (h : P5 n w) : play (fstL w) (idL n)=w∧(∀ k ∈ fstL w,k+1 < n)∧(fstL w).length≤10∧lnN w+upN w=n * (n - 1) / 2:=by
 have:=all5_at wrd_all h.ok (by have:=h.len;have:=h.le;omega)
 unfold wrdB at this
 rw [h.len] at this
 simp only [Bool.and_eq_true,decide_eq_true_eq,List.all_eq_true] at this
 exact ⟨this.1.1.1,this.1.1.2,this.1.2,this.2⟩
theorem P5.mk' {w : List Int} (h : permOk w=true) (h5 : w.length≤5) : P5 w.length w:=⟨h,rfl,h5⟩
theorem P5.rng {n : Nat} {w : List Int} (h : P5 n w) {j : Nat} (hj : j < n) : ∃ m : Nat,w.getD j 0=(m : Int)∧m < n:=by
 have hp:=h.ok
 simp only [permOk,decide_eq_true_eq] at hp
 have:=hp.2.2.1 _ (getD_mem (show j < w.length by rw [h.len];exact hj))
 rw [h.len] at this
 exact ⟨(w.getD j 0).toNat,by omega,by omega⟩
theorem P5.id {n : Nat} (h1 : 1≤n) (h5 : n≤5) : P5 n (idL n):=⟨idL_ok h1 (by omega),idL_length n,h5⟩
end
section
open Go.RowKit Go.Sort
variable {α : Type} [Inhabited α]
def swR (a b : Nat) : Nat→Array α→Array α
 | 0,d=>d
 | k+1,d=>swp (swR a b k d) (a+k) (b+k)
def rotA (m : Nat) : Nat→Nat→Nat→Array α→Array α
 | 0,_,_,d=>d
 | f+1,i,j,d=>if i=j then swR (m - i) m i d else if j < i then rotA m f (i - j) j (swR (m - i) m j d) else rotA m f i (j - i) (swR (m - i) (m+j - i) i d)
def bsA (p : Nat→Bool) : Nat→Nat→Nat→Nat
 | 0,i,_=>i
 | f+1,i,j=>if i < j then (if p ((i+j) / 2) then bsA p f ((i+j) / 2+1) j else bsA p f i ((i+j) / 2)) else i
def shUA (a : Nat) : Nat→Array α→Array α
 | 0,d=>d
 | k+1,d=>swp (shUA a k d) (a+k) (a+k+1)
def shDA (m : Nat) : Nat→Array α→Array α
 | 0,d=>d
 | k+1,d=>swp (shDA m k d) (m - k) (m - k - 1)
section
variable (lt : α→α→Bool)
def sp1 (d : Array α) (a h : Nat) : Bool:=lt d[h]! d[a]!
def sp2 (d : Array α) (m h : Nat) : Bool:=!lt d[m]! d[h]!
def sp3 (d : Array α) (p c : Nat) : Bool:=!lt d[p - c]! d[c]!
def smLo (a m b : Nat) : Nat:=if (a+b) / 2 < m then (a+b) / 2+m - b else a
def smHi (a m b : Nat) : Nat:=if (a+b) / 2 < m then (a+b) / 2 else m
def smAt (d : Array α) (a m b : Nat) : Nat:=bsA (sp3 lt d ((a+b) / 2+m - 1)) (smHi a m b - smLo a m b) (smLo a m b) (smHi a m b)
def symA : Nat→Nat→Nat→Nat→Array α→Array α
 | 0,_,_,_,d=>d
 | f+1,a,m,b,d =>
   if m - a=1 then shUA a (bsA (sp1 lt d a) (b - m) m b - 1 - a) d
   else if b - m=1 then shDA m (m - bsA (sp2 lt d m) (m - a) a m) d
   else
    let mid:=(a+b) / 2
    let st:=smAt lt d a m b
    let en:=mid+m - st
    let d1:=if st < m∧m < en then rotA m (en - st) (m - st) (en - m) d else d
    let d2:=if a < st∧st < mid then symA f a st mid d1 else d1
    if mid < en∧en < b then symA f mid en b d2 else d2
def insS (a b : Nat) : Nat→Nat→Array α→Array α
 | 0,_,d=>d
 | f+1,i,d=>if i < b then insS a b f (i+1) (insInner lt a i d) else d
end
def stbS (lt : α→α→Bool) (d : Array α) : Array α :=
 if d.size < 20 then insS lt 0 d.size d.size 1 d else symA lt d.size 0 20 d.size (insS lt 20 d.size d.size 21 (insS lt 0 20 20 1 d))
end
section
open Go.RowKit Go.Shelf Go.Sort Go.Lib
def atd (w : World) (n : Nat) : World:={ w with drawn:=n }
theorem wp_region_quiet_z {P : Program} {id : Nat} {Q : Exit→Act→World→Prop} {a : Act} {w : World} {l : List Oper} (hm : P.follows .mixedOrders=true) (hB : Region.lexB .any l.toArray=true)
 (h : wpQuiet P l.toArray (fun w'=> ∃ p : GrownBy,w'=grow (atd w p.n) p.os) (fun a'=> ∀ w',(∃ p : GrownBy,w'=grow (atd w p.n) p.os)→Q .normal a' w') l a) : (Code.region id l.toArray true).wp P Q a w :=
 wp_region_quiet (C:=fun w'=> ∃ p : GrownBy,w'=grow (atd w p.n) p.os) hm hB ⟨⟨w.drawn+1,#[]⟩,by rw [grow_empty];rfl⟩ (by simpa using h)
theorem grow_atd (w : World) (n q : Nat) (os os' : Array Obj) : grow (atd (grow (atd w n) os) q) os'=grow (atd w q) (os ++ os'):=by
 show grow (grow (atd w q) os) os'=_
 rw [grow_grow]
theorem grown_z {P : Program} {f : FuncId} {args : Array Value} {w : World} {n : Nat} {os : Array Obj} {v : Value}
 (h : Calls P f args (grow (atd w n) os) fun e w'=>e=.returned v ∧ ∃ q os',w'=grow (atd (grow (atd w n) os) q) os') : Calls P f args (grow (atd w n) os) fun e w''=>e=.returned v ∧ ∃ p : GrownBy,w''=grow (atd w p.n) p.os :=
 h.mono fun _ _ ⟨he,q,os',hq⟩=>⟨he,⟨q,os ++ os'⟩,by rw [hq,grow_atd]⟩
theorem below_grow {W w' : World} (h : Below W.heap.size W w') : ∃ q os',w'=grow (atd W q) os':=by
 refine ⟨w'.drawn,w'.heap.extract W.heap.size w'.heap.size,?_⟩
 have hh : w'.heap=W.heap ++ w'.heap.extract W.heap.size w'.heap.size:=by
  apply Array.ext_getElem?
  intro i
  by_cases hi : i < W.heap.size
  ·rw [Array.getElem?_append_left hi];exact h.block i hi
  ·rw [Array.getElem?_append_right (by omega),Array.getElem?_extract]
   by_cases h2 : i < w'.heap.size
   ·rw [if_pos (by omega)];congr 1;omega
   ·rw [if_neg (by omega),Array.getElem?_eq_none (by omega)]
 have h1:=h.os
 have h2:=h.tape
 have h3:=h.output
 obtain ⟨a1,a2,a3,a4,a5⟩:=w'
 obtain ⟨b1,b2,b3,b4,b5⟩:=W
 dsimp only at h1 h2 h3 hh ⊢
 unfold grow atd
 dsimp only
 rw [← hh,h1,h2,h3]
variable {P : Program} {α : Type} [Inhabited α] {enc : α→Value} {w0 W : World} {blk off : Nat} {dk d0 : Array α}
def SZ (enc : α→Value) (w0 : World) (blk off : Nat) (dk : Array α) (W : World) : Prop:=∃ n,SW enc w0 blk off dk (atd W n)
theorem SZ.start (h : Holds enc w0 blk off dk) : SZ enc w0 blk off dk w0:=⟨w0.drawn,SW.start h⟩
theorem SZ.c1 (h : SZ enc w0 blk off dk W) (R : Row1 enc w0 blk off d0) (hs : dk.size=d0.size) (i : Nat) (hi : i < dk.size) : W.cell? ⟨blk,off+i,none⟩=some (enc dk[i]!):=by
 obtain ⟨n,h⟩:=h
 exact h.c1 R hs i hi
theorem SZ.grown (h : SZ enc w0 blk off dk W) (n : Nat) (os : Array Obj) : SZ enc w0 blk off dk (grow (atd W n) os):=by
 obtain ⟨m,h⟩:=h
 exact ⟨m,h.grown 0 os⟩
theorem SZ.cl (h : SZ enc w0 blk off dk W) (R : Row1 enc w0 blk off d0) (hs : dk.size=d0.size) (i : Nat) (hi : i < dk.size) (n : Nat) (os : Array Obj) : (grow (atd W n) os).cell? ⟨blk,off+i,none⟩=some (enc dk[i]!):=(h.grown n os).c1 R hs i hi
theorem SZ.drew (h : SZ enc w0 blk off dk W) : SZ enc w0 blk off dk W.drew:=by
 obtain ⟨m,h⟩:=h
 exact ⟨m,h⟩
theorem SZ.c2 (h : SZ enc w0 blk off dk W) (R : Row1 enc w0 blk off d0) (hs : dk.size=d0.size) (i j : Nat) (hi : i < dk.size) (hj : j < dk.size) (v : Value) :
 ∃ u,(W.setCell ⟨blk,off+i,none⟩ v).cell? ⟨blk,off+j,none⟩=some u:=by
 obtain ⟨m,h⟩:=h
 exact h.c2 R hs i j hi hj v
def CmpZ (P : Program) (g : Nat) (cb : Array Value) (enc : α→Value) (cf : α→α→Int) (blk off size : Nat) (w0 : World) : Prop :=
 ∀ (W : World) (dk : Array α),SZ enc w0 blk off dk W→dk.size=size → ∀ x y : α,
   Calls P g (#[enc x,enc y] ++ cb) W fun e w'=>e=.returned (.int .i64 (cf x y))∧Below W.heap.size W w'
theorem SZ.cmp {g : Nat} {cb : Array Value} {cf : α→α→Int} {size : Nat} (h : SZ enc w0 blk off dk W) (hC : CmpZ P g cb enc cf blk off size w0) (hs : dk.size=size) (x y : α) (n : Nat) (os : Array Obj) :
 Calls P g (#[enc x,enc y] ++ cb) (grow (atd W n) os) fun e w'=>e=.returned (.int .i64 (cf x y)) ∧ ∃ q os',w'=grow (atd (grow (atd W n) os) q) os' :=
 (hC _ dk (h.grown n os) hs x y).mono fun _ _ ⟨he,hb⟩=>⟨he,below_grow hb⟩
end
section
open Go.RowKit Go.Sort Go.Shelf
variable {α : Type} [Inhabited α]
theorem swd_at (enc : α→Value) {w : World} {blk : Nat} {c : Array Value} {T : TypeId} (h : w.heap[blk]?=some (.cells c T (0,0))) (m : Nat) (d : Array α) (os : Array Obj) :
 (sortWorld enc w blk 0 m d os).heap[blk]?=some (.cells (putCells enc 0 d c) T (0,0)):=by
 have hlt : blk < w.heap.size:=blk_lt h
 unfold sortWorld
 rw [heap_grow_old _ _ (by rw [size_putRow];exact hlt)]
 unfold putRow mapBlock
 simp only [Array.getElem?_modify]
 have : (Sort.ahead w m).heap=w.heap:=rfl
 rw [this,h]
 simp [onCells]
theorem swd_other (enc : α→Value) {w : World} {blk k : Nat} (hk : k < w.heap.size) (hne : k ≠ blk) (m : Nat) (d : Array α) (os : Array Obj) :
 (sortWorld enc w blk 0 m d os).heap[k]?=w.heap[k]?:=by
 unfold sortWorld
 rw [heap_grow_old _ _ (by rw [size_putRow];exact hk)]
 unfold putRow mapBlock
 simp only [Array.getElem?_modify]
 have : (Sort.ahead w m).heap=w.heap:=rfl
 rw [this,if_neg (fun e=>hne e.symm)]
theorem swd_size (enc : α→Value) (w : World) (blk m : Nat) (d : Array α) (os : Array Obj) :
 w.heap.size≤(sortWorld enc w blk 0 m d os).heap.size:=by
 unfold sortWorld
 rw [size_grow,size_putRow]
 exact Nat.le_add_right _ _
theorem SZ.heap {enc : α→Value} {w W : World} {blk : Nat} {d : Array α} (h : SZ enc w blk 0 d W) : ∃ q os,W.os=w.os∧W.tape=w.tape∧W.output=w.output∧W.heap=(sortWorld enc w blk 0 q d os).heap:=by
 obtain ⟨n,q,os,h⟩:=h
 refine ⟨q,os,?_,?_,?_,?_⟩
 ·have:=congrArg World.os h;exact this
 ·have:=congrArg World.tape h;exact this
 ·have:=congrArg World.output h;exact this
 ·have:=congrArg World.heap h;exact this
theorem SZ.frm {enc : α→Value} {w W : World} {blk lo hi : Nat} {d : Array α} (h : SZ enc w blk 0 d W) (h1 : lo≤blk) (h2 : blk < hi) : Frm lo hi w W:=by
 obtain ⟨q,os,e1,e2,e3,e4⟩:=h.heap
 exact ⟨e1,e2,e3,by rw [e4];exact swd_size _ _ _ _ _ _,fun k hk ho=>by rw [e4];exact swd_other enc hk (by omega) q d os⟩
theorem SZ.at_ {enc : α→Value} {w W : World} {blk : Nat} {d : Array α} (h : SZ enc w blk 0 d W) {c : Array Value} {T : TypeId} (hc : w.heap[blk]?=some (.cells c T (0,0))) : W.heap[blk]?=some (.cells (putCells enc 0 d c) T (0,0)):=by
 obtain ⟨q,os,e1,e2,e3,e4⟩:=h.heap
 rw [e4]
 exact swd_at enc hc q d os
end
end Go.Proofs.YtincaodpjdeoeaaGreatDoor
