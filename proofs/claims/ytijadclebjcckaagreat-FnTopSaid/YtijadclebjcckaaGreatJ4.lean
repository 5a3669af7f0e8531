/-
  A part of the proof of FnTop (texts of one proof, joined).
-/
import Derived.Test.YtijadclebjcckaaGreatJ3
namespace Go.Proofs.YtijadclebjcckaaGreat
set_option linter.all false
set_option maxRecDepth 100000
set_option maxHeartbeats 16000000
section
open Go.RowKit Go.Maps Go.WideMaps
abbrev Pl:=List (List Int × Int)
def Ev (P : Pl) (g : List Int→Int) : Int:=match P with
 | []=>0
 | p :: l=>p.2 * g p.1+Ev l g
theorem Ev_append (P Q : Pl) (g : List Int→Int) : Ev (P ++ Q) g=Ev P g+Ev Q g:=by
 induction P with
 | nil=>simp [Ev]
 | cons p l ih=>simp only [List.cons_append,Ev,ih];omega
def M64 : Int:=18446744073709551616
def Cg (a b : Int) : Prop:=∃ m,a=b+M64 * m
theorem Cg.refl (a : Int) : Cg a a:=⟨0,by simp⟩
theorem Cg.of (a b : Int) (h : a=b) : Cg a b:=h ▸ Cg.refl a
theorem Cg.symm {a b : Int} (h : Cg a b) : Cg b a:=by
 obtain ⟨m,rfl⟩:=h
 exact ⟨-m,by rw [Int.mul_neg];omega⟩
theorem Cg.trans {a b c : Int} (h : Cg a b) (h' : Cg b c) : Cg a c:=by
 obtain ⟨m,rfl⟩:=h
 obtain ⟨m',rfl⟩:=h'
 exact ⟨m'+m,by rw [Int.mul_add];omega⟩
theorem Cg.add {a b c e : Int} (h : Cg a b) (h' : Cg c e) : Cg (a+c) (b+e):=by
 obtain ⟨m,rfl⟩:=h
 obtain ⟨m',rfl⟩:=h'
 exact ⟨m+m',by rw [Int.mul_add];omega⟩
theorem Cg.mul {a b c e : Int} (h : Cg a b) (h' : Cg c e) : Cg (a * c) (b * e):=by
 obtain ⟨m,rfl⟩:=h
 obtain ⟨m',rfl⟩:=h'
 refine ⟨m * e+b * m'+M64 * m * m',?_⟩
 simp only [Int.add_mul,Int.mul_add,Int.mul_assoc,Int.mul_left_comm,Int.mul_comm]
 omega
theorem Cg.neg {a b : Int} (h : Cg a b) : Cg (-a) (-b):=by
 obtain ⟨m,rfl⟩:=h
 exact ⟨-m,by rw [Int.mul_neg];omega⟩
open Classical in
noncomputable def unkl (l : Lit) : List Int:=if h : ∃ e,l=kl e∧K7 1000000 e then h.choose else []
theorem K7.mono {d d' : Nat} {e : List Int} (h : K7 d e) (hd : d≤d') : K7 d' e:=⟨h.1,fun x hx=>by have:=h.2 x hx;omega⟩
theorem unkl_kl {e : List Int} {d : Nat} (h : K7 d e) (hd : d≤1000000) : unkl (kl e)=e:=by
 have hx : ∃ e',kl e=kl e'∧K7 1000000 e':=⟨e,rfl,h.mono hd⟩
 unfold unkl
 rw [dif_pos hx]
 exact (kl_inj (h.mono hd) (Nat.le_refl _) hx.choose_spec.2 (Nat.le_refl _) hx.choose_spec.1).symm
structure PolM (d : Nat) (D : DU) (P : Pl) : Prop where
 tidy : Tidy D
 keys : ∀ l,has D l=true → ∃ e,l=kl e∧K7 d e
 sum : ∀ g : List Int→Int,Cg (SmD D fun l=>g (unkl l)) (Ev P g)
 nz : ∀ l,has D l=true → ∀ z,D.atKey l z ≠ .lit (.int .i64 0)
theorem PolM.empty (d : Nat) : PolM d (.map []) []:=⟨tidy_empty,fun l h=>by simp [has] at h,fun g=>Cg.refl _,fun l h=>by simp [has] at h⟩
theorem PolM.mono {d d' : Nat} {D : DU} {P : Pl} (h : PolM d D P) (hd : d≤d') : PolM d' D P :=
 ⟨h.tidy,fun l hl=>by obtain ⟨e,h1,h2⟩:=h.keys l hl;exact ⟨e,h1,h2.mono hd⟩,h.sum,h.nz⟩
theorem kl_lit (e : List Int) : WideAt.IsKeyLit (kl e):=trivial
def addD (D : DU) (k : Lit) (s : Int) : DU:=if s=0 then (D.put k (.lit (.int .i64 s))).del k else D.put k (.lit (.int .i64 s))
theorem PolM.add {d : Nat} {D : DU} {P : Pl} (h : PolM d D P) (hd : d≤1000000) {e : List Int} (he : K7 d e) {c0 c s : Int}
 (hat : D.atKey (kl e) (.lit (.int .i64 0))=.lit (.int .i64 c0)) (hs : Cg s (c0+c)) : PolM d (addD D (kl e) s) (P ++ [(e,c)]):=by
 have ht:=h.tidy.put (kl_lit e) (.lit (.int .i64 s))
 have hput : ∀ l,has (D.put (kl e) (.lit (.int .i64 s))) l=true → ∃ e',l=kl e'∧K7 d e':=fun l hl=>by
  by_cases hk : l=kl e
  ·exact ⟨e,hk,he⟩
  ·rw [has_put_other hk] at hl
   exact h.keys l hl
 have hsum : ∀ g : List Int→Int,Cg (SmD (addD D (kl e) s) fun l=>g (unkl l)) (Ev (P ++ [(e,c)]) g):=fun g=>by
  have a:=SmD_del h.tidy (kl_lit e) (fun l=>g (unkl l))
  have b:=SmD_put h.tidy (k:=kl e) (fun l=>g (unkl l)) (.lit (.int .i64 s))
  have b2:=del_put h.tidy (kl_lit e) (fun l=>g (unkl l)) (.lit (.int .i64 s))
  have e1 : (SmD (addD D (kl e) s) fun l=>g (unkl l))=(SmD (D.del (kl e)) fun l=>g (unkl l))+s * g e:=by
   unfold addD
   split
   ·rename_i h0
    rw [b2,h0];simp
   ·rw [b];simp only [coef,unkl_kl he hd]
  rw [e1,Ev_append]
  rw [hat] at a
  simp only [coef,unkl_kl he hd] at a
  have hsm:=h.sum g
  rw [a] at hsm
  have h1 : Cg (s * g e) (c0 * g e+c * g e):=by rw [← Int.add_mul];exact hs.mul (Cg.refl _)
  have h2:=(Cg.refl (SmD (D.del (kl e)) fun l=>g (unkl l))).add h1
  have h3:=hsm.add (Cg.refl (c * g e))
  refine h2.trans ?_
  rw [← Int.add_assoc]
  simpa [Ev] using h3
 unfold addD at hsum ⊢
 split at hsum
 ·rename_i h0
  rw [if_pos h0]
  refine ⟨ht.del _,fun l hl=> ?_,hsum,fun l hl z=> ?_⟩
  ·by_cases hk : l=kl e
   ·exact ⟨e,hk,he⟩
   ·rw [has_del_other hk] at hl
    exact hput l hl
  ·by_cases hk : l=kl e
   ·rw [hk,has_del_same] at hl;cases hl
   ·rw [has_del_other hk,has_put_other hk] at hl
    rw [atKey_del_other hk,atKey_put_other hk]
    exact h.nz l hl z
 ·rename_i h0
  rw [if_neg h0]
  refine ⟨ht,hput,hsum,fun l hl z=> ?_⟩
  by_cases hk : l=kl e
  ·rw [hk,atKey_put_same h.tidy.isMap (kl_lit e)]
   intro e2
   injection e2 with e2
   injection e2 with _ e2
   exact h0 e2
  ·rw [has_put_other hk] at hl
   rw [atKey_put_other hk]
   exact h.nz l hl z
end
section
open Go.RowKit Go.Maps Go.WideMaps Go.WideElems Go.MapKept Go.ChangeMaps Go.ChangeShapes
section
variable {H : Type} {P : Program} {w : World} {t k e : TypeId} {R : Value→Option (DataW H × List MemPlace)} {b : Nat} {es : Array MapEntry} {clock : Nat}
theorem entry_es (K : KeyLaw P k) (ht : P.underlying t=some (.map k e)) {z : Value} (hz : ∀ u : World,(zeroValue e).run P u=.ok z u) (hb : w.heap[b]?=some (.map es clock)) (F : Fit P k R es clock)
 {key : Value} {kl : Lit} (hkey : keyOf P k key=some kl) {v0 : Value} {st : Nat} {es1 : Array MapEntry} {clock1 : Nat}
 (hrun : (Instr.mapEntry t (.map (some b)) key).run P w=.ok (.tuple #[v0,goInt st]) (setBlock w b (.map es1 clock1))) :
 (es1=es ∧ ∃ e0 ∈ es.toList,e0.key=key∧v0=e0.val) ∨ (es1=es.push ⟨key,z,clock⟩∧v0=z ∧ ∀ x ∈ es.toList,x.key ≠ key):=by
 have hs : ∀ {es' : Array MapEntry} {c' : Nat},setBlock w b (.map es1 clock1)=setBlock w b (.map es' c')→es1=es':=fun h=>by
  have h1:=heap_setBlock_same hb (.map es1 clock1)
  rw [h,heap_setBlock_same hb] at h1
  injection h1 with h1
  injection h1 with h1 _
  exact h1.symm
 rcases K.find w hkey es.toList F.keys with ⟨h1,h2⟩ | ⟨j,e0,h1,h2,h3⟩
 ·have e1 : (Instr.mapEntry t (.map (some b)) key).run P w=.ok (.tuple #[z,goInt clock]) (setBlock w b (.map (es.push ⟨key,z,clock⟩) (clock+1))):=by
   simp [Instr.mapEntry,run_underlying ht,MapKept.run_getObj_map hb,K.check w false hkey,h1,hz,MapKept.run_setObj_map _ hb,Result.andThen,setBlock]
  rw [e1] at hrun
  injection hrun with hv hw
  injection hv with hv
  have : z=v0:=by
   have:=congrArg (fun a=>a[0]?) hv
   simpa using this
  exact .inr ⟨hs hw.symm,this.symm,h2⟩
 ·have hj : es[j]?=some e0:=by simpa using h2
  have e1 : (Instr.mapEntry t (.map (some b)) key).run P w=.ok (.tuple #[e0.val,goInt e0.born]) (setBlock w b (.map (es.modify j fun e=> { e with key:=key }) clock)):=by
   simp [Instr.mapEntry,run_underlying ht,MapKept.run_getObj_map hb,K.check w false hkey,h1,hj,h3,K.stays w hkey,MapKept.run_setObj_map _ hb,Result.andThen,setBlock]
  have hsame : es.modify j (fun e=> { e with key:=key })=es:=by
   apply Array.ext'
   rw [Array.toList_modify,modify_eq_set _ _ _ _ h2]
   have : ({ e0 with key:=key } : MapEntry)=e0:=by rw [← h3]
   rw [this]
   exact set_self _ _ _ h2
  rw [e1,hsame] at hrun
  injection hrun with hv hw
  injection hv with hv
  have : e0.val=v0:=by
   have:=congrArg (fun a=>a[0]?) hv
   simpa using this
  exact .inl ⟨hs hw.symm,e0,List.mem_of_getElem? h2,h3,this.symm⟩
theorem look_at (K : KeyLaw P k) (ht : P.underlying t=some (.map k e)) {u : World} (hb : u.heap[b]?=some (.map es clock)) (hks : ∀ x ∈ es.toList,∃ l,keyOf P k x.key=some l)
 {key : Value} {kl : Lit} (hkey : keyOf P k key=some kl) {v0 : Value} (hv : ∀ x ∈ es.toList,x.key=key→x.val=v0) (hex : ∃ x ∈ es.toList,x.key=key) :
 (Instr.lookup t (.map (some b)) key false).run P u=.ok v0 u:=by
 rcases K.find u hkey es.toList hks with ⟨h1,h2⟩ | ⟨j,e0,h1,h2,h3⟩
 ·obtain ⟨x,hx,hxk⟩:=hex
  exact absurd hxk (h2 x hx)
 ·have e1:=hv e0 (List.mem_of_getElem? h2) h3
  simp [Instr.lookup,run_underlying ht,MapKept.run_getObj_map hb,K.check u _ hkey,h1,e1,Result.andThen]
theorem entry_look (K : KeyLaw P k) (ht : P.underlying t=some (.map k e)) {z : Value} (hz : ∀ u : World,(zeroValue e).run P u=.ok z u) (hb : w.heap[b]?=some (.map es clock)) (F : Fit P k R es clock)
 {key : Value} {kl : Lit} (hkey : keyOf P k key=some kl) {v0 : Value} {st : Nat} {es1 : Array MapEntry} {clock1 : Nat}
 (hrun : (Instr.mapEntry t (.map (some b)) key).run P w=.ok (.tuple #[v0,goInt st]) (setBlock w b (.map es1 clock1))) :
 (Instr.lookup t (.map (some b)) key false).run P (setBlock w b (.map es1 clock1))=.ok v0 (setBlock w b (.map es1 clock1))∧(Instr.lookup t (.map (some b)) key false).run P w=.ok v0 w:=by
 have hne : es.toList.Pairwise (fun x y=>x.key ≠ y.key):=((stamped_iff es clock).1 F.stamped).2.2
 rcases entry_es K ht hz hb F hkey hrun with ⟨rfl,e0,he,hk,rfl⟩ | ⟨rfl,rfl,h2⟩
 ·have hall : ∀ x ∈ es1.toList,x.key=key→x.val=e0.val:=fun x hx hxk=>by rw [entry_eq_of_key hne hx he (hxk.trans hk.symm)]
  exact ⟨look_at K ht (heap_setBlock_same hb _) F.keys hkey hall ⟨e0,he,hk⟩,look_at K ht hb F.keys hkey hall ⟨e0,he,hk⟩⟩
 ·refine ⟨look_at K ht (heap_setBlock_same hb _) (fun x hx=> ?_) hkey (fun x hx hxk=> ?_) ⟨⟨key,v0,clock⟩,by simp,rfl⟩,?_⟩
  ·simp only [Array.toList_push,List.mem_append,List.mem_singleton] at hx
   rcases hx with hx | rfl
   ·exact F.keys x hx
   ·exact ⟨kl,hkey⟩
  ·simp only [Array.toList_push,List.mem_append,List.mem_singleton] at hx
   rcases hx with hx | rfl
   ·exact absurd hxk (h2 x hx)
   ·rfl
  ·rcases K.find w hkey es.toList F.keys with ⟨h1,_⟩ | ⟨j,e0,_,h3,h4⟩
   ·simp [Instr.lookup,run_underlying ht,MapKept.run_getObj_map hb,K.check w _ hkey,h1,hz,Result.andThen]
   ·exact absurd h4 (h2 e0 (List.mem_of_getElem? h3))
end
abbrev OwnMp (w : World) (b n : Nat) (D : DU) : Prop:=w.ownsMap Tryz.prog 107 (plainElem (H:=Unit) Tryz.prog 3) b n D
theorem blk7 {w : World} {b : Nat} {x0 x1 x2 x3 x4 x5 x6 : Value} {T : TypeId} (h : w.heap[b]?=some (.cells #[x0,x1,x2,x3,x4,x5,x6] T (0,0))) :
 w.cell? ⟨b,0,none⟩=some x0∧w.cell? ⟨b,1,none⟩=some x1∧w.cell? ⟨b,2,none⟩=some x2∧w.cell? ⟨b,3,none⟩=some x3∧w.cell? ⟨b,4,none⟩=some x4∧w.cell? ⟨b,5,none⟩=some x5∧w.cell? ⟨b,6,none⟩=some x6∧(∀ j,w.frozen? ⟨b,j,none⟩=false)∧b < w.heap.size :=
 ⟨cell_of_blk h rfl,cell_of_blk h rfl,cell_of_blk h rfl,cell_of_blk h rfl,cell_of_blk h rfl,cell_of_blk h rfl,cell_of_blk h rfl,free_of_blk h,(Array.getElem?_eq_some_iff.1 h).1⟩
theorem add_facts {u : World} {b n : Nat} {D : DU} {key : Value} {k0 : Lit} (hown : OwnMp u b n D) (hn : n < 1000000000000000) (hkey : keyOf Tryz.prog 107 key=some k0) :
 ∃ (c0 : Int) (st : Nat) (W1 : World),(Instr.lookup 102 (.map (some b)) key false).run Tryz.prog u=.ok (.int .i64 c0) u ∧
   D.atKey k0 (.lit (.int .i64 0))=.lit (.int .i64 c0) ∧
   (Instr.mapEntry 102 (.map (some b)) key).run Tryz.prog u=.ok (.tuple #[.int .i64 c0,.int .i64 (st : Int)]) W1 ∧
   (Instr.lookup 102 (.map (some b)) key false).run Tryz.prog W1=.ok (.int .i64 c0) W1 ∧
   u.grownBy W1 (some b)∧W1.heap.size=u.heap.size ∧
   ∀ s : Int,(Lit.int .i64 s).wf=true → ∃ W2,(Instr.entryStore 102 (.map (some b)) (.int .i64 (st : Int)) (.int .i64 s)).run Tryz.prog W1=.ok () W2 ∧
     OwnMp W2 b (n+1) (D.put k0 (.lit (.int .i64 s)))∧u.grownBy W2 (some b)∧W2.heap.size=u.heap.size:=by
 have hown':=hown
 obtain ⟨c0,hl0,hat,hw0⟩:=hown.lookup_int klaw und41 undI (zeroI _) hkey
 obtain ⟨es,clock,hb,F,hs,hD⟩:=hown
 obtain ⟨v0,st,es1,clock1,h1,_,h3⟩:=entry_then_store arr7.law und41 zeroI hb F hkey
 have hlk:=entry_look arr7.law und41 zeroI hb F hkey h1
 have hv : v0=.int .i64 c0:=by
  have:=hlk.2
  rw [hl0] at this
  injection this with this
  exact this.symm
 subst hv
 have hsz : ∀ o,(setBlock u b o).heap.size=u.heap.size:=fun o=>by simp [setBlock]
 have hgr : ∀ o,u.grownBy (setBlock u b o) (some b):=fun o=>⟨rfl,rfl,rfl,by rw [hsz];exact Nat.le_refl _,fun i _ hi=>heap_setBlock_other hb _ (fun e=>hi (by rw [e]))⟩
 refine ⟨c0,st,_,hl0,hat,h1,hlk.1,hgr _,hsz _,fun s hs=> ?_⟩
 obtain ⟨es',clock',hst,hup⟩:=h3 _ (.int .i64 s) (heap_setBlock_same hb _)
 obtain ⟨w',hrun,ho',hg'⟩:=hown'.update klaw und41 (by unfold maxLen;omega) hkey (plainElem_int undI hs)
 rw [hup] at hrun
 injection hrun with _ hrun
 have hh : setBlock (setBlock u b (.map es1 clock1)) b (.map es' clock')=setBlock u b (.map es' clock'):=by
  simp [setBlock,Array.setIfInBounds_setIfInBounds]
 rw [hh] at hst
 exact ⟨_,hst,by rw [hrun];exact ho',hgr _,hsz _⟩
theorem gb_undrew {u W : World} {r : Option Nat} (h : u.drew.grownBy W r) : u.grownBy W r:=⟨h.os,h.tape,h.output,h.size,h.block⟩
theorem cg_wrap (x : Int) : Cg (wrap64 x) x:=⟨-((x+9223372036854775808) / 18446744073709551616),by unfold wrap64 M64;omega⟩
theorem add_any (b n d : Nat) (D : DU) (P : Pl) (e : List Int) (c : Int) (w : World) (hown : OwnMp w b n D) (hp : PolM d D P) (he : K7 d e) (hd : d≤1000000) (hn : n < 1000000000000000) :
 Calls Tryz.prog 101 #[.map (some b),kv e,.int .i64 c] w fun e' w'=>e'=.returned (.tuple #[]) ∧ ∃ D',OwnMp w' b (n+1) D'∧PolM d D' (P ++ [(e,c)])∧w.grownBy w' (some b):=by
 have hkey:=keyOf_kv he hd
 obtain ⟨k0,hk0⟩ : ∃ k,k=kl e:=⟨_,rfl⟩
 have hadd:=fun c0 s=>PolM.add hp hd he (c0:=c0) (c:=c) (s:=s)
 rw [← hk0] at hkey hadd
 have Hadd:=Lib.hid hadd
 clear hadd hk0
 obtain ⟨hl,hr⟩:=he
 match e,hl with
 | [a0,a1,a2,a3,a4,a5,a6],_ =>
 clear hr
 have hown1 : OwnMp (w.alloc (.cells #[.int .i64 a0,.int .i64 a1,.int .i64 a2,.int .i64 a3,.int .i64 a4,.int .i64 a5,.int .i64 a6] 107)).drew b n D:=hown.alloc _
 have Hg0:=Lib.hid (World.grownBy_alloc w (.cells #[.int .i64 a0,.int .i64 a1,.int .i64 a2,.int .i64 a3,.int .i64 a4,.int .i64 a5,.int .i64 a6] 107) none)
 have hbw:=hown.lt
 have hq:=heap_alloc_top w (.cells #[.int .i64 a0,.int .i64 a1,.int .i64 a2,.int .i64 a3,.int .i64 a4,.int .i64 a5,.int .i64 a6] 107)
 obtain ⟨u,hu⟩ : ∃ u,u=w.alloc (.cells #[.int .i64 a0,.int .i64 a1,.int .i64 a2,.int .i64 a3,.int .i64 a4,.int .i64 a5,.int .i64 a6] 107):=⟨_,rfl⟩
 obtain ⟨B,hB⟩ : ∃ B,B=w.heap.size:=⟨_,rfl⟩
 rw [← hu] at hown1 Hg0 hq
 have hkey' : keyOf Tryz.prog 107 (.agg #[.int .i64 a0,.int .i64 a1,.int .i64 a2,.int .i64 a3,.int .i64 a4,.int .i64 a5,.int .i64 a6])=some k0:=hkey
 obtain ⟨c0,st,W1,hl0,hat,hent,hl1,hg1,hsz1,hst⟩:=add_facts hown1 hn hkey'
 obtain ⟨s,hs⟩ : ∃ s,s=wrap64 (c0+c):=⟨_,rfl⟩
 show Calls Tryz.prog 101 #[.map (some b),.agg #[.int .i64 a0,.int .i64 a1,.int .i64 a2,.int .i64 a3,.int .i64 a4,.int .i64 a5,.int .i64 a6],.int .i64 c] w _
 go_enter Tryz.func101,Tryz.ntmps101
 go_wp2_with fail
 rw [← hu,← hB]
 rw [← hB] at hq hbw
 obtain ⟨f0,f1,f2,f3,f4,f5,f6,_,_⟩:=blk7 (w:=u.drew) hq
 have hq1 : W1.heap[B]?=some (.cells #[.int .i64 a0,.int .i64 a1,.int .i64 a2,.int .i64 a3,.int .i64 a4,.int .i64 a5,.int .i64 a6] 107 (0,0)):=(hg1.block B (Array.getElem?_eq_some_iff.1 hq).1 (by intro h;injection h with h;omega)).trans hq
 obtain ⟨g0,g1,g2,g3,g4,g5,g6,_,_⟩:=blk7 hq1
 obtain ⟨W2,hst2,ho2,hg2,hsz2⟩:=hst s (by rw [hs];exact wrap64_wf _)
 have hq2 : W2.heap[B]?=some (.cells #[.int .i64 a0,.int .i64 a1,.int .i64 a2,.int .i64 a3,.int .i64 a4,.int .i64 a5,.int .i64 a6] 107 (0,0)):=(hg2.block B (Array.getElem?_eq_some_iff.1 hq).1 (by intro h;injection h with h;omega)).trans hq
 obtain ⟨h0,h1,h2,h3,h4,h5,h6,_,_⟩:=blk7 hq2
 rw [hs] at hst2
 have Hown1:=Lib.hid hown1
 have Hst:=Lib.hid hst
 have Hat:=Lib.hid hat
 have Ho2:=Lib.hid ho2
 have Hg2:=Lib.hid hg2
 have Hs:=Lib.hid hs
 have Hhu:=Lib.hid hu
 have Hq2:=Lib.hid hq2
 have Htd:=Lib.hid hp.tidy
 clear hown hown1 hst hat hg1 hu hq hq1 hq2 hg2 ho2 hs hp hbw hkey hB
 go_region
 have hown2:=Ho2.out
 obtain ⟨c1,hl2,hat2,_⟩:=hown2.lookup_int klaw und41 undI (zeroI _) hkey'
 have hc1 : c1=s:=by
  have hk : WideAt.IsKeyLit k0:=klaw.key hkey'
  rw [atKey_put_same Htd.out.isMap hk] at hat2
  injection hat2 with hat2
  injection hat2 with _ hat2
  exact hat2.symm
 subst hc1
 have hws : Cg c1 (c0+c):=by rw [Hs.out];exact cg_wrap _
 have hfin : ∀ (W : World),OwnMp W b (n+1) (addD D k0 c1)→W2.grownBy W (some b) → ∃ D',OwnMp W b (n+1) D'∧PolM d D' (P ++ [([a0,a1,a2,a3,a4,a5,a6],c)])∧w.grownBy W (some b):=fun W h1 h2 =>
  ⟨_,h1,Hadd.out c0 c1 Hat.out hws,((Hg0.out.but (some b)).trans (gb_undrew Hg2.out)).trans h2⟩
 have Hfin:=Lib.hid hfin
 clear hfin hws hat2 hown2
 by_cases hz : c1=0
 ·have hz' : (c1 == 0)=true:=by simp [hz]
  have Hz:=Lib.hid hz
  clear hz
  go_wp2_with (first | (at_delete;refine wpList_delete_own _ rfl _ _ 102 107 rfl 3 klaw und41 _ b (n+1) _ rfl Ho2.out _ _ rfl hkey' ?_;intro w3 hown3 hturn3) | fail)
  go_end0
  exact ⟨rfl,Hfin.out _ (by unfold addD;rw [if_pos Hz.out];exact hown3) hturn3.grown⟩
 ·have hz' : (c1 == 0)=false:=by simp [hz]
  go_wp2_with fail
  go_end0
  exact ⟨rfl,Hfin.out _ (by unfold addD;rw [if_neg hz];exact Ho2.out) (World.grownBy.refl _ _)⟩
theorem PolM.alt {d : Nat} {D : DU} {P Q : Pl} (h : PolM d D P) (hq : ∀ g,Cg (Ev P g) (Ev Q g)) : PolM d D Q:=⟨h.tidy,h.keys,fun g=>(h.sum g).trans (hq g),h.nz⟩
abbrev RanP (w : World) (b r n : Nat) (D : DU) (left : Lit→Bool) (cnt : Nat) : Prop:=w.ranges Tryz.prog 107 (plainElem (H:=Unit) Tryz.prog 3) b r n D left cnt
section
variable {P0 : Program} (w : World) {ops : Array Oper} {rest : List Oper} {o : Oper} {a : Act} {Q : Exit→Act→World→Prop}
theorem wpList_next_poly (hg : o.guard=none) (it : Operand) (hop : o.op=Op.next it false) (b r n d : Nat) (D : DU) (P : Pl) (left : Lit→Bool) (cnt : Nat)
 (hit : a.eval it=.pointer (some ⟨r,0,none⟩)) (h : RanP w b r n D left cnt) (hp : PolM d D P) (hd : d≤1000000) (hleft : ∀ l,left l=true→has D l=true)
 (hDone : cnt=0→(∀ kl,left kl=false)→wpList Tryz.prog ops Q rest (a.put o.dst (.tuple #[.bool false])) w)
 (hMore : ∀ (a0 a1 a2 a3 a4 a5 a6 c : Int) (w' : World) (cnt' : Nat),K7 d [a0,a1,a2,a3,a4,a5,a6]→left (kl [a0,a1,a2,a3,a4,a5,a6])=true→(Lit.int .i64 c).wf=true →
   D.atKey (kl [a0,a1,a2,a3,a4,a5,a6]) (.lit (.int .i64 0))=.lit (.int .i64 c)→RanP w' b r n D (fun z=>left z && !z.sameKey (kl [a0,a1,a2,a3,a4,a5,a6])) cnt'→cnt' < cnt →
   w.grownBy w' (some r)→w'.heap.size=w.heap.size →
   (Instr.entry (.pointer (some ⟨r,0,none⟩))).run Tryz.prog w'=.ok (.tuple #[.agg #[.int .i64 a0,.int .i64 a1,.int .i64 a2,.int .i64 a3,.int .i64 a4,.int .i64 a5,.int .i64 a6],.int .i64 c]) w' →
   wpList Tryz.prog ops Q rest (a.put o.dst (.tuple #[.bool true,.agg #[.int .i64 a0,.int .i64 a1,.int .i64 a2,.int .i64 a3,.int .i64 a4,.int .i64 a5,.int .i64 a6],.int .i64 c])) w') :
 wpList Tryz.prog ops Q (o :: rest) a w :=
 wpList_next_ranges w hg it hop 107 klaw (plainElem Tryz.prog 3) (fun x : Value=>x) (Value.int .i64) (fun key _ _=>⟨key,rfl⟩) (fun v y hv=>by obtain ⟨c,rfl,_⟩:=plainElem_int_inv undI hv;exact ⟨c,rfl⟩)
  b r n D left cnt hit h hDone (fun x c l y w' cnt' hkey hlk hv hat hrg hlt hgr hsz hen=>by
    obtain ⟨e,rfl,he⟩:=hp.keys l (hleft l hlk)
    obtain rfl:=klaw.inj hkey (keyOf_kv he hd)
    obtain ⟨c',ec,rfl,hwc⟩:=plainElem_int_inv undI hv
    cases ec
    obtain ⟨hl,hr⟩:=he
    match e,hl with
    | [a0,a1,a2,a3,a4,a5,a6],hl=>exact hMore a0 a1 a2 a3 a4 a5 a6 c w' cnt' ⟨hl,hr⟩ hlk hwc (hat _) hrg hlt hgr hsz hen)
end
def Gath (D : DU) (P : Pl) (T : (List Int→Int)→List Int→Int) (left : Lit→Bool) (A : Pl) : Prop :=
 ∀ g : List Int→Int,Cg (Ev A g+SmK D left fun l=>T g (unkl l)) (Ev P (T g))
theorem hm_of {w : World} {b n : Nat} {D : DU} (h : OwnMp w b n D) : ∀ es,D=.map es → ∀ p ∈ es,WideAt.IsKeyLit p.1:=fun es he p hp=>by
 obtain ⟨es',h1,_,h3⟩:=h.entries klaw
 rw [he] at h1
 injection h1 with h1
 subst h1
 exact h3 p hp
theorem Gath.start {w : World} {b n d : Nat} {D : DU} {P : Pl} {T : (List Int→Int)→List Int→Int} (h : OwnMp w b n D) (hp : PolM d D P) : Gath D P T (has D) []:=fun g=>by
 have e:=SmK_all hp.tidy (fun l hl=>by obtain ⟨e,rfl,_⟩:=hp.keys l hl;exact kl_lit e) (hm_of h) (fun l=>T g (unkl l))
 rw [e]
 simpa [Ev] using hp.sum (T g)
theorem Gath.step {d : Nat} {D : DU} {P : Pl} {T : (List Int→Int)→List Int→Int} {left : Lit→Bool} {A : Pl} (h : Gath D P T left A) (ht : Tidy D) {e : List Int} (he : K7 d e) (hd : d≤1000000) (hl : left (kl e)=true) {c : Int}
 (hat : D.atKey (kl e) (.lit (.int .i64 0))=.lit (.int .i64 c)) {A' : Pl} (hA : ∀ g,Cg (Ev A' g) (Ev A g+c * T g e)) : Gath D P T (fun z=>left z && !z.sameKey (kl e)) A':=fun g=>by
 have h0:=h g
 rw [SmK_step ht (kl_lit e) hl,hat] at h0
 simp only [coef,unkl_kl he hd] at h0
 refine ((hA g).add (Cg.refl _)).trans ?_
 rw [Int.add_assoc]
 exact h0
theorem Gath.end {D : DU} {P : Pl} {T : (List Int→Int)→List Int→Int} {left : Lit→Bool} {A : Pl} (h : Gath D P T left A) (hl : ∀ l,left l=false) : ∀ g,Cg (Ev A g) (Ev P (T g)):=fun g=>by
 have:=h g
 rw [SmK_none hl] at this
 simpa using this
def PolV (w : World) (v : Value) (d n : Nat) (P : Pl) : Prop:=∃ b D,v=.map (some b)∧OwnMp w b n D∧PolM d D P
theorem PolV.below {w w' : World} {v : Value} {d n : Nat} {P : Pl} (h : PolV w v d n P) (hb : Below w.heap.size w w') : PolV w' v d n P:=by
 obtain ⟨b,D,rfl,h1,h2⟩:=h
 have hlt:=h1.lt
 obtain ⟨es,clock,hb',F,hs,hD⟩:=h1
 exact ⟨b,D,rfl,⟨es,clock,(hb.block b hlt).trans hb',F,hs,hD⟩,h2⟩
theorem PolV.alt {w : World} {v : Value} {d n : Nat} {P Q : Pl} (h : PolV w v d n P) (hq : ∀ g,Cg (Ev P g) (Ev Q g)) : PolV w v d n Q:=by
 obtain ⟨b,D,rfl,h1,h2⟩:=h
 exact ⟨b,D,rfl,h1,h2.alt hq⟩
theorem PolV.mono {w : World} {v : Value} {d n d' n' : Nat} {P : Pl} (h : PolV w v d n P) (hd : d≤d') (hn : n≤n') : PolV w v d' n' P:=by
 obtain ⟨b,D,rfl,h1,h2⟩:=h
 exact ⟨b,D,rfl,h1.mono hn,h2.mono hd⟩
def sclP (k : Int) (P : Pl) : Pl:=P.map fun p=>(p.1,k * p.2)
theorem Ev_scl (k : Int) (P : Pl) (g : List Int→Int) : Ev (sclP k P) g=Ev P fun e=>k * g e:=by
 induction P with
 | nil=>rfl
 | cons p l ih =>
   show k * p.2 * g p.1+Ev (sclP k l) g=p.2 * (k * g p.1)+Ev l _
   rw [ih,Int.mul_comm k p.2,Int.mul_assoc]
theorem Ev_mul (k : Int) (P : Pl) (g : List Int→Int) : (Ev P fun e=>k * g e)=k * Ev P g:=by
 induction P with
 | nil=>simp [Ev]
 | cons p l ih =>
   show p.2 * (k * g p.1)+Ev l _=k * (p.2 * g p.1+Ev l g)
   rw [ih,Int.mul_add,Int.mul_left_comm]
theorem has_sub {left : Lit→Bool} {D : DU} {k : Lit} (h : ∀ l,left l=true→has D l=true) : ∀ l,(left l && !l.sameKey k)=true→has D l=true:=fun l hl=>h l (by simp at hl;exact hl.1)
theorem plus_any (u v : Value) (k : Int) (d nf ng : Nat) (P Q : Pl) (w : World) (hf : PolV w u d nf P) (hg : PolV w v d ng Q) (hd : d≤1000000) (hn : nf+ng < 1000000000000000) :
 Calls Tryz.prog 73 #[u,.int .i64 k,v] w fun e w'=> ∃ u',e=.returned u'∧PolV w' u' d (nf+ng) (P ++ sclP k Q)∧Below w.heap.size w w':=by
 obtain ⟨bf,Df,rfl,hf1,hf2⟩:=hf
 obtain ⟨bg,Dg,rfl,hg1,hg2⟩:=hg
 have hmm:=@run_makeMap Tryz.prog
 have hblf:=hf1.lt
 have hblg:=hg1.lt
 have hszf:=hf1.size_le
 have hszg:=hg1.size_le
 have e1 : (w.alloc (.map #[] 0)).heap.size=w.heap.size+1:=by simp
 have HF2:=Lib.hid hf2
 have HG2:=Lib.hid hg2
 obtain ⟨B,hB⟩ : ∃ B,B=w.heap.size:=⟨_,rfl⟩
 have HB:=Lib.hid hB
 have hG0:=Lib.hid (Gath.start (T:=fun g=>g) hf1 hf2)
 clear hf2 hg2
 go_enter Tryz.func73,Tryz.ntmps73
 go_wp2_with (first
  | (at_range;refine wpList_range_own _ rfl _ 102 rfl 107 3 klaw und41 _ bf nf _ rfl (hf1.alloc _) ?_;intro w0 hrg0 hg0 hs0)
  | fail)
 go_frame
 rw [e1] at hrg0 hs0 ⊢
 have hown0 : OwnMp w0 w.heap.size 0 (.map []):=(World.ownsMap_made _ _ _ _).kept hg0 (by simp)
 have hbel0 : Below w.heap.size w w0:=((Below.refl _ _).alloc (Nat.le_refl _) _).grown hg0 (by simp) (fun j hj=>by cases hj)
 rw [← hB] at hrg0 hs0 hown0 hbel0 hblf hblg ⊢
 have Hbel0:=Lib.hid hbel0
 clear hbel0 hg0 e1 hB
 go_loopg [8,9] (Maps.size Df) (fun g s8 s9 wr=> ∃ (left : Lit→Bool) (Dout : DU) (A : Pl),RanP wr bf (B+1) nf Df left g∧g≤Maps.size Df∧(∀ l,left l=true→has Df l=true) ∧
  OwnMp wr B (Maps.size Df - g) Dout∧Hid (PolM d Dout A)∧Hid (Gath Df P (fun g=>g) left A)∧Hid (Below B w wr))
 case atStart=>exact ⟨_,.map [],[],hrg0,Nat.le_refl _,fun _ h=>h,hown0.mono (Nat.zero_le _),Lib.hid (PolM.empty _),hG0,Hbel0⟩
 case round =>
  obtain ⟨left,Dout,A,hrg,hgs,hleft,hout,hpm,hga,hbel⟩:=hrel
  obtain ⟨wx,rfl⟩ : ∃ x : World,x=wr:=⟨_,rfl⟩
  have hpm0:=hpm.out
  go_wp2_with (first
   | (at_next;refine wpList_next_poly _ rfl _ rfl bf (B+1) nf d Df P left gk rfl hrg HF2.out hd hleft ?_ ?_)
   | fail)
  ·intro hc0 hl0
   have hend:=(hga.out.end hl0)
   have Hpm:=Lib.hid (hpm.out.alt (Q:=P) hend)
   have hg1x : OwnMp wx bg ng Dg:=by
    obtain ⟨es,clock,hb',F,hs,hD⟩:=hg1
    exact ⟨es,clock,(hbel.out.block bg hblg).trans hb',F,hs,hD⟩
   have hG1:=Lib.hid (Gath.start (T:=fun g e=>k * g e) hg1x HG2.out)
   have Hbel:=Lib.hid hbel.out
   have hout1 : OwnMp wx B nf Dout:=hout.mono (by omega)
   have hBx:=hout.lt
   clear hrg hleft hout hpm hga hbel hend hG0 hgs hc0 hl0 hf1 hg1 hszf hrg0 hown0 hs0
   go_wp2_with (first
    | (at_range;refine wpList_range_own _ rfl _ 102 rfl 107 3 klaw und41 _ bg ng _ rfl hg1x ?_;intro w0' hrg0 hg0 hs0)
    | fail)
   go_frame
   obtain ⟨r,hr⟩ : ∃ r,r=wx.heap.size:=⟨_,rfl⟩
   have hown0:=hout1.kept hg0 (by simp)
   have Hbel0:=Lib.hid (Hbel.out.grown hg0 (by omega) (fun j hj=>by cases hj))
   rw [← hr] at hrg0 hs0 hBx ⊢
   clear hg0 hr hout1 hg1x Hbel
   go_loopg [10,11] (Maps.size Dg) (fun g s10 s11 wr=> ∃ (left : Lit→Bool) (Dout : DU) (A : Pl),RanP wr bg r ng Dg left g∧g≤Maps.size Dg∧(∀ l,left l=true→has Dg l=true) ∧
    OwnMp wr B (nf+(Maps.size Dg - g)) Dout∧Hid (PolM d Dout (P ++ A))∧Hid (Gath Dg Q (fun g e=>k * g e) left A)∧Hid (Below B w wr))
   case atStart=>exact ⟨_,_,[],hrg0,Nat.le_refl _,fun _ h=>h,hown0.mono (by omega),by rw [List.append_nil];exact Hpm,hG1,Hbel0⟩
   case round =>
    obtain ⟨left,Dout,A,hrg,hgs,hleft,hout,hpm,hga,hbel⟩:=hrel
    obtain ⟨wy,rfl⟩ : ∃ x : World,x=wr:=⟨_,rfl⟩
    go_wp2_with (first
     | (at_next;refine wpList_next_poly _ rfl _ rfl bg r ng d Dg Q left gk rfl hrg HG2.out hd hleft ?_ ?_)
     | fail)
    ·intro hc0 hl0
     have hend:=(hga.out.end hl0)
     go_wp2_with fail
     go_ret
     refine ⟨_,rfl,⟨B,Dout,rfl,hout.mono (by omega),hpm.out.alt fun g=> ?_⟩,HB.out ▸ hbel.out⟩
     rw [Ev_append,Ev_append,Ev_scl]
     exact (Cg.refl _).add (hend g)
    ·intro a0 a1 a2 a3 a4 a5 a6 c w1 cnt1 hK hlx hwf hat hrg1 hlt hgr1 hs1 hen
     have Hat:=Lib.hid hat
     have Hgr1:=Lib.hid hgr1
     have hout1:=hout.kept hgr1 (by intro h;injection h with h;omega)
     have hBy:=hout.lt
     clear hat hgr1
     go_wp2_with fail
     refine (add_any B (nf+(Maps.size Dg - gk)) d Dout (P ++ A) [a0,a1,a2,a3,a4,a5,a6] (wrap64 (k * c)) _ (hout1.alloc _) hpm.out hK hd (by omega)).mono ?_
     rintro e w2 ⟨rfl,D2,ho2,hp2,hg2⟩
     have hrg2:=(hrg1.alloc _).kept hg2 (by intro h;injection h with h;omega) (by intro h;injection h with h;omega)
     have Hp2:=Lib.hid hp2
     have Hb2:=Lib.hid (((hbel.out.grown Hgr1.out (by omega) (fun j hj=>by cases hj;omega)).alloc (by omega) _).grown hg2 (by simp;omega) (fun j hj=>by cases hj;omega))
     clear hp2 hg2
     go_wp2_with fail
     go_roundg cnt1
     case measure=>exact hlt
     case rel =>
      refine ⟨_,D2,A ++ [([a0,a1,a2,a3,a4,a5,a6],wrap64 (k * c))],hrg2,by omega,has_sub hleft,ho2.mono (by omega),by rw [← List.append_assoc];exact Hp2,Lib.hid (hga.out.step HG2.out.tidy hK hd hlx Hat.out fun g=> ?_),Hb2⟩
      rw [Ev_append]
      refine (Cg.refl _).add ?_
      simp only [Ev,Int.add_zero]
      rw [Int.mul_left_comm,← Int.mul_assoc]
      exact (cg_wrap _).mul (Cg.refl _)
  ·intro a0 a1 a2 a3 a4 a5 a6 c w1 cnt1 hK hlx hwf hat hrg1 hlt hgr1 hs1 hen
   have Hat:=Lib.hid hat
   have Hgr1:=Lib.hid hgr1
   have hout1:=hout.kept hgr1 (by intro h;injection h with h;omega)
   have hBx:=hout.lt
   clear hat hgr1 hpm0
   go_wp2_with fail
   refine (add_any B (Maps.size Df - gk) d Dout A [a0,a1,a2,a3,a4,a5,a6] c _ (hout1.alloc _) hpm.out hK hd (by omega)).mono ?_
   rintro e w2 ⟨rfl,D2,ho2,hp2,hg2⟩
   have hrg2:=(hrg1.alloc _).kept hg2 (by intro h;injection h with h;omega) (by intro h;injection h with h;omega)
   have Hp2:=Lib.hid hp2
   have Hb2:=Lib.hid (((hbel.out.grown Hgr1.out (by omega) (fun j hj=>by cases hj;omega)).alloc (by omega) _).grown hg2 (by simp;omega) (fun j hj=>by cases hj;omega))
   clear hp2 hg2
   go_wp2_with fail
   go_roundg cnt1
   case measure=>exact hlt
   case rel =>
    refine ⟨_,D2,A ++ [([a0,a1,a2,a3,a4,a5,a6],c)],hrg2,by omega,has_sub hleft,ho2.mono (by omega),Hp2,Lib.hid (hga.out.step HF2.out.tidy hK hd hlx Hat.out fun g=> ?_),Hb2⟩
    rw [Ev_append]
    exact (Cg.refl _).add (Cg.of _ _ (by simp [Ev]))
def rsE (i : Nat) (e : List Int) : List Int:=e.set i (e.getD i 0+1)
def rsP (i : Nat) (P : Pl) : Pl:=P.map fun p=>(rsE i p.1,p.2)
theorem Ev_rs (i : Nat) (P : Pl) (g : List Int→Int) : Ev (rsP i P) g=Ev P fun e=>g (rsE i e):=by
 induction P with
 | nil=>rfl
 | cons p l ih =>
   show p.2 * g (rsE i p.1)+Ev (rsP i l) g=p.2 * g (rsE i p.1)+Ev l _
   rw [ih]
theorem rsE_inj {i : Nat} {e e' : List Int} (hi : i < 7) (h1 : e.length=7) (h2 : e'.length=7) (h : rsE i e=rsE i e') : e=e':=by
 refine List.ext_getElem (by omega) fun j hj hj'=> ?_
 have:=congrArg (fun l=>l.getD j 0) h
 unfold rsE at this
 simp only [List.getD_eq_getElem?_getD,List.getElem?_set] at this
 by_cases e1 : i=j
 ·subst e1
  simp [h1,h2,hi,hj,hj'] at this
  omega
 ·simpa [e1,hj,hj'] using this
theorem K7.rs {d i : Nat} {e : List Int} (h : K7 d e) (hi : i < 7) : K7 (d+1) (rsE i e):=by
 refine ⟨by unfold rsE;simpa using h.1,fun x hx=> ?_⟩
 rcases List.mem_or_eq_of_mem_set hx with hx | rfl
 ·have:=h.2 x hx;omega
 ·have:=h.2 (e.getD i 0) (by rw [List.getD_eq_getElem?_getD,List.getElem?_eq_getElem (by rw [h.1];exact hi)];exact List.getElem_mem _)
  omega
theorem PolM.putNew {d : Nat} {D : DU} {P : Pl} (h : PolM d D P) (hd : d≤1000000) {e : List Int} (he : K7 d e) {c : Int} (hn : has D (kl e)=false) (hc : c ≠ 0) : PolM d (D.put (kl e) (.lit (.int .i64 c))) (P ++ [(e,c)]):=by
 refine ⟨h.tidy.put (kl_lit e) _,fun l hl=> ?_,fun g=> ?_,fun l hl z=> ?_⟩
 ·by_cases hk : l=kl e
  ·exact ⟨e,hk,he⟩
  ·rw [has_put_other hk] at hl
   exact h.keys l hl
 ·rw [SmD_put h.tidy (k:=kl e) (fun l=>g (unkl l)) (.lit (.int .i64 c)),del_of_not_has hn,Ev_append]
  simp only [coef,unkl_kl he hd]
  exact (h.sum g).add (Cg.of _ _ (by simp [Ev]))
 ·by_cases hk : l=kl e
  ·rw [hk,atKey_put_same h.tidy.isMap (kl_lit e)]
   intro e2
   injection e2 with e2
   injection e2 with _ e2
   exact hc e2
  ·rw [has_put_other hk] at hl
   rw [atKey_put_other hk]
   exact h.nz l hl z
def RsK (i d : Nat) (left : Lit→Bool) (Dout : DU) : Prop:=∀ l,has Dout l=true → ∃ e,K7 d e∧l=kl (rsE i e)∧left (kl e)=false
theorem RsK.step {i d : Nat} {left : Lit→Bool} {Dout : DU} (h : RsK i d left Dout) (hi : i < 7) (hd : d+1≤1000000) {e : List Int} (he : K7 d e) (hl : left (kl e)=true) (c : Int) :
 has Dout (kl (rsE i e))=false∧RsK i d (fun z=>left z && !z.sameKey (kl e)) (Dout.put (kl (rsE i e)) (.lit (.int .i64 c))):=by
 refine ⟨?_,fun l hl'=> ?_⟩
 ·cases hh : has Dout (kl (rsE i e)) with
  | false=>rfl
  | true =>
    obtain ⟨e',h1,h2,h3⟩:=h _ hh
    have:=rsE_inj hi he.1 h1.1 (kl_inj (he.rs hi) hd (h1.rs hi) hd h2)
    subst this
    rw [hl] at h3;cases h3
 ·by_cases hk : l=kl (rsE i e)
  ·exact ⟨e,he,hk,by simp [WideAt.sameKey_self (kl_lit e)]⟩
  ·rw [has_put_other hk] at hl'
   obtain ⟨e',h1,h2,h3⟩:=h _ hl'
   exact ⟨e',h1,h2,by simp [h3]⟩
theorem raised_any (u : Value) (i d nf : Nat) (P : Pl) (w : World) (hf : PolV w u d nf P) (hi : i < 7) (hd : d < 1000000) (hn : nf < 1000000000000000) :
 Calls Tryz.prog 127 #[u,.int .i64 (i : Int)] w fun e w'=> ∃ u',e=.returned u'∧PolV w' u' (d+1) nf (rsP i P)∧Below w.heap.size w w':=by
 obtain ⟨bf,Df,rfl,hf1,hf2⟩:=hf
 have hmm:=@run_makeMap Tryz.prog
 have hblf:=hf1.lt
 have hszf:=hf1.size_le
 have e1 : (w.alloc (.map #[] 0)).heap.size=w.heap.size+1:=by simp
 have HF2:=Lib.hid hf2
 obtain ⟨B,hB⟩ : ∃ B,B=w.heap.size:=⟨_,rfl⟩
 have HB:=Lib.hid hB
 have hG0:=Lib.hid (Gath.start (T:=fun g e=>g (rsE i e)) hf1 hf2)
 have hi' : i=0 ∨ i=1 ∨ i=2 ∨ i=3 ∨ i=4 ∨ i=5 ∨ i=6:=by omega
 obtain ⟨ii,hii⟩ : ∃ ii : Nat,ii=i:=⟨_,rfl⟩
 have Hii:=Lib.hid hii
 rw [← hii] at hG0
 have hi0 : ii < 7:=by omega
 show Calls Tryz.prog 127 #[.map (some bf),.int .i64 (i : Int)] w fun e w'=> ∃ u',e=.returned u'∧PolV w' u' (d+1) nf (rsP i P)∧Below w.heap.size w w'
 conv in rsP i P=>rw [← hii]
 clear hf2 hii
 go_enter Tryz.func127,Tryz.ntmps127
 go_wp2_with (first
  | (at_range;refine wpList_range_own _ rfl _ 102 rfl 107 3 klaw und41 _ bf nf _ rfl (hf1.alloc _) ?_;intro w0 hrg0 hg0 hs0)
  | fail)
 go_frame
 rw [e1] at hrg0 hs0 ⊢
 have hown0 : OwnMp w0 w.heap.size 0 (.map []):=(World.ownsMap_made _ _ _ _).kept hg0 (by simp)
 have hbel0 : Below w.heap.size w w0:=((Below.refl _ _).alloc (Nat.le_refl _) _).grown hg0 (by simp) (fun j hj=>by cases hj)
 rw [← hB] at hrg0 hs0 hown0 hbel0 hblf ⊢
 have Hbel0:=Lib.hid hbel0
 clear hbel0 hg0 e1 hB
 go_loopg [6,7] (Maps.size Df) (fun g s6 s7 wr=> ∃ (left : Lit→Bool) (Dout : DU) (A : Pl),RanP wr bf (B+1) nf Df left g∧g≤Maps.size Df∧(∀ l,left l=true→has Df l=true) ∧
  OwnMp wr B (Maps.size Df - g) Dout∧Hid (PolM (d+1) Dout A)∧Hid (Gath Df P (fun g e=>g (rsE ii e)) left A)∧Hid (RsK ii d left Dout)∧Hid (Below B w wr))
 case atStart=>exact ⟨_,.map [],[],hrg0,Nat.le_refl _,fun _ h=>h,hown0.mono (Nat.zero_le _),Lib.hid (PolM.empty _),hG0,Lib.hid (fun l h=>by simp [has] at h),Hbel0⟩
 case round =>
  obtain ⟨left,Dout,A,hrg,hgs,hleft,hout,hpm,hga,hrs,hbel⟩:=hrel
  obtain ⟨wx,rfl⟩ : ∃ x : World,x=wr:=⟨_,rfl⟩
  go_wp2_with (first
   | (at_next;refine wpList_next_poly _ rfl _ rfl bf (B+1) nf d Df P left gk rfl hrg HF2.out (by omega) hleft ?_ ?_)
   | fail)
  ·intro hc0 hl0
   have hend:=(hga.out.end hl0)
   go_wp2_with fail
   go_ret
   refine ⟨_,rfl,⟨B,Dout,rfl,hout.mono (by omega),hpm.out.alt fun g=> ?_⟩,HB.out ▸ hbel.out⟩
   rw [Ev_rs]
   exact hend g
  ·intro a0 a1 a2 a3 a4 a5 a6 c w1 cnt1 hK hlx hwf hat hrg1 hlt hgr1 hs1 hen
   have Hat:=Lib.hid hat
   have Hgr1:=Lib.hid hgr1
   have hout1:=hout.kept hgr1 (by intro h;injection h with h;omega)
   have hBx:=hout.lt
   have hKr:=hK.rs hi0
   obtain ⟨hnew,hrs2⟩:=hrs.out.step hi0 (by omega) hK hlx c
   have hcn : c ≠ 0:=fun e=>HF2.out.nz _ (hleft _ hlx) (.lit (.int .i64 0)) (by rw [hat,e])
   have hpm2:=Lib.hid (hpm.out.putNew (by omega) hKr (c:=c) hnew hcn)
   clear hcn
   have hkey:=keyOf_kv hKr (by omega)
   have Hrs2:=Lib.hid hrs2
   have b0:=hK.2 a0 (by simp)
   have b1:=hK.2 a1 (by simp)
   have b2:=hK.2 a2 (by simp)
   have b3:=hK.2 a3 (by simp)
   have b4:=hK.2 a4 (by simp)
   have b5:=hK.2 a5 (by simp)
   have b6:=hK.2 a6 (by simp)
   obtain ⟨K,hKK⟩ : ∃ K,K=kl (rsE ii [a0,a1,a2,a3,a4,a5,a6]):=⟨_,rfl⟩
   rw [← hKK] at hkey hpm2 Hrs2
   clear hat hgr1 hnew hrs2 hKK
   have hiii:=Hii.out
   rcases hi' with h0 | h0 | h0 | h0 | h0 | h0 | h0
   all_goals
    subst h0
    rw [hiii] at hkey
    simp only [rsE,kv,List.getD_cons_zero,List.getD_cons_succ,List.set_cons_zero,List.set_cons_succ,List.map_cons,List.map_nil] at hkey
    go_wp2_with (first
     | (at_mapUpdate;refine wpList_mapUpdate_own _ rfl _ _ _ 102 rfl 107 3 klaw und41 _ B _ _ rfl (hout1.alloc _) (by unfold maxLen;omega) _ _ K rfl rfl hkey _ [] (plainElem_int undI hwf) ?_;intro w2 hout2 hg2;go_frame)
     | fail)
    have hrg2:=(hrg1.alloc _).kept hg2 (by intro h;injection h with h;omega) (by intro h;injection h with h;omega)
    have Hb2:=Lib.hid (((hbel.out.grown Hgr1.out (by omega) (fun j hj=>by cases hj;omega)).alloc (by omega) _).grown hg2 (by simp;omega) (fun j hj=>by cases hj;omega))
    go_roundg cnt1
    case measure=>exact hlt
    case rel =>
     refine ⟨_,_,A ++ [(rsE ii [a0,a1,a2,a3,a4,a5,a6],c)],hrg2,by omega,has_sub hleft,hout2.mono (by omega),hpm2,Lib.hid (hga.out.step HF2.out.tidy hK (by omega) hlx Hat.out fun g=> ?_),Hrs2,Hb2⟩
     rw [Ev_append]
     exact (Cg.refl _).add (Cg.of _ _ (by simp [Ev]))
def dvS (i : Nat) (e : List Int) (s t : Int) : List Int:=(e.set (i+1) t).set i (s - 1 - t)
def dvK (i : Nat) (e : List Int) (lo hi : Int) (c : Int) (n : Nat) : Pl:=(List.range n).map fun (j : Nat)=>(dvS i e (lo+hi) (lo+(j : Int)),c)
def dvE (i : Nat) (e : List Int) : Pl :=
 if e.getD i 0 < e.getD (i+1) 0 then dvK i e (e.getD i 0) (e.getD (i+1) 0) (-1) (e.getD (i+1) 0 - e.getD i 0).toNat
 else dvK i e (e.getD (i+1) 0) (e.getD i 0) 1 (e.getD i 0 - e.getD (i+1) 0).toNat
def dvP (i : Nat) (P : Pl) : Pl:=P.flatMap fun p=>sclP p.2 (dvE i p.1)
theorem Ev_dv (i : Nat) (P : Pl) (g : List Int→Int) : Ev (dvP i P) g=Ev P fun e=>Ev (dvE i e) g:=by
 induction P with
 | nil=>rfl
 | cons p l ih =>
   show Ev (sclP p.2 (dvE i p.1) ++ dvP i l) g=p.2 * Ev (dvE i p.1) g+Ev l _
   rw [Ev_append,ih,Ev_scl,Ev_mul]
theorem dvK_succ (i : Nat) (e : List Int) (lo hi c : Int) (n : Nat) : dvK i e lo hi c (n+1)=dvK i e lo hi c n ++ [(dvS i e (lo+hi) (lo+(n : Int)),c)]:=by
 unfold dvK
 rw [List.range_succ,List.map_append]
 rfl
theorem Ev_dvK (i : Nat) (e : List Int) (lo hi c c' sg : Int) (h : Cg c' (c * sg)) (g : List Int→Int) : ∀ n,Cg (Ev (dvK i e lo hi c' n) g) (c * Ev (dvK i e lo hi sg n) g)
 | 0=>Cg.of _ _ (by simp [dvK,Ev])
 | n+1=>by
   rw [dvK_succ,dvK_succ,Ev_append,Ev_append,Int.mul_add]
   refine (Ev_dvK i e lo hi c c' sg h g n).add ?_
   simp only [Ev,Int.add_zero]
   rw [← Int.mul_assoc]
   exact h.mul (Cg.refl _)
theorem cnt_room {N g c d T : Nat} (h : N+g * d≤T) (hc : c < g) : N+d+c * d≤T:=by
 have:=Nat.mul_le_mul_right d hc
 have e : (c+1) * d=c * d+d:=by rw [Nat.add_mul,Nat.one_mul]
 rw [Nat.succ_eq_add_one,e] at this
 omega
theorem dvE_le {i : Nat} {e : List Int} (h : e.getD i 0 < e.getD (i+1) 0) : dvE i e=dvK i e (e.getD i 0) (e.getD (i+1) 0) (-1) (e.getD (i+1) 0 - e.getD i 0).toNat:=if_pos h
theorem dvE_ge {i : Nat} {e : List Int} (h : ¬ e.getD i 0 < e.getD (i+1) 0) : dvE i e=dvK i e (e.getD (i+1) 0) (e.getD i 0) 1 (e.getD i 0 - e.getD (i+1) 0).toNat:=if_neg h
theorem gb_setCell (w : World) (b j : Nat) (u : Value) : w.grownBy (w.setCell ⟨b,j,none⟩ u) (some b) :=
 ⟨rfl,rfl,rfl,by rw [size_setCell];exact Nat.le_refl _,fun k _ hk=>Below.heap_setCell _ _ _ _ (fun e=>hk (by rw [e]))⟩
theorem K7.dv {d i : Nat} {e : List Int} (h : K7 d e) {t s : Int} (h1 : 0≤t∧t≤(d : Int)) (h2 : 0≤s - 1 - t∧s - 1 - t≤(d : Int)) : K7 d (dvS i e s t):=by
 refine ⟨by unfold dvS;simpa using h.1,fun x hx=> ?_⟩
 rcases List.mem_or_eq_of_mem_set hx with hx | rfl
 ·rcases List.mem_or_eq_of_mem_set hx with hx | rfl
  ·exact h.2 x hx
  ·exact h1
 ·exact h2
theorem divided7_any (u : Value) (i d nf : Nat) (P : Pl) (w : World) (hf : PolV w u d nf P) (hi : i < 6) (hd : d < 1000000) (hn : nf * d < 1000000000000000) :
 Calls Tryz.prog 100 #[u,.int .i64 (i : Int)] w fun e w'=> ∃ u',e=.returned u'∧PolV w' u' d (nf * d) (dvP i P)∧Below w.heap.size w w':=by
 obtain ⟨bf,Df,rfl,hf1,hf2⟩:=hf
 have hmm:=@run_makeMap Tryz.prog
 have hblf:=hf1.lt
 have hszf:=hf1.size_le
 have e1 : (w.alloc (.map #[] 0)).heap.size=w.heap.size+1:=by simp
 have HF2:=Lib.hid hf2
 obtain ⟨B,hB⟩ : ∃ B,B=w.heap.size:=⟨_,rfl⟩
 have HB:=Lib.hid hB
 have hG0:=Lib.hid (Gath.start (T:=fun g e=>Ev (dvE i e) g) hf1 hf2)
 have hi' : i=0 ∨ i=1 ∨ i=2 ∨ i=3 ∨ i=4 ∨ i=5:=by omega
 obtain ⟨ii,hii⟩ : ∃ ii : Nat,ii=i:=⟨_,rfl⟩
 have Hii:=Lib.hid hii
 rw [← hii] at hG0
 obtain ⟨T,hT⟩ : ∃ T,T=nf * d:=⟨_,rfl⟩
 have hT0 : Maps.size Df * d≤T:=by rw [hT];exact Nat.mul_le_mul_right _ hszf
 show Calls Tryz.prog 100 #[.map (some bf),.int .i64 (i : Int)] w fun e w'=> ∃ u',e=.returned u'∧PolV w' u' d (nf * d) (dvP i P)∧Below w.heap.size w w'
 rw [← hT] at hn ⊢
 conv in dvP i P=>rw [← hii]
 clear hf2 hii hT
 go_enter Tryz.func100,Tryz.ntmps100
 go_wp2_with (first
  | (at_range;refine wpList_range_own _ rfl _ 102 rfl 107 3 klaw und41 _ bf nf _ rfl (hf1.alloc _) ?_;intro w0 hrg0 hg0 hs0)
  | fail)
 go_frame
 rw [e1] at hrg0 hs0 ⊢
 have hown0 : OwnMp w0 w.heap.size 0 (.map []):=(World.ownsMap_made _ _ _ _).kept hg0 (by simp)
 have hbel0 : Below w.heap.size w w0:=((Below.refl _ _).alloc (Nat.le_refl _) _).grown hg0 (by simp) (fun j hj=>by cases hj)
 rw [← hB] at hrg0 hs0 hown0 hbel0 hblf ⊢
 have Hbel0:=Lib.hid hbel0
 clear hbel0 hg0 e1 hB
 go_loopg [6,7,8,9,10] (Maps.size Df) (fun g s6 s7 s8 s9 s10 wr=> ∃ (left : Lit→Bool) (Dout : DU) (A : Pl) (N : Nat),RanP wr bf (B+1) nf Df left g∧N+g * d≤T∧(∀ l,left l=true→has Df l=true) ∧
  OwnMp wr B N Dout∧Hid (PolM d Dout A)∧Hid (Gath Df P (fun g e=>Ev (dvE ii e) g) left A)∧Hid (Below B w wr))
 case atStart=>exact ⟨_,.map [],[],0,hrg0,by omega,fun _ h=>h,hown0,Lib.hid (PolM.empty _),hG0,Hbel0⟩
 case round =>
  obtain ⟨left,Dout,A,N,hrg,hgs,hleft,hout,hpm,hga,hbel⟩:=hrel
  obtain ⟨wx,rfl⟩ : ∃ x : World,x=wr:=⟨_,rfl⟩
  go_wp2_with (first
   | (at_next;refine wpList_next_poly _ rfl _ rfl bf (B+1) nf d Df P left gk rfl hrg HF2.out (by omega) hleft ?_ ?_)
   | fail)
  ·intro hc0 hl0
   have hend:=(hga.out.end hl0)
   go_wp2_with fail
   go_ret
   refine ⟨_,rfl,⟨B,Dout,rfl,hout.mono (by omega),hpm.out.alt fun g=> ?_⟩,HB.out ▸ hbel.out⟩
   rw [Ev_dv]
   exact hend g
  ·intro a0 a1 a2 a3 a4 a5 a6 c w1 cnt1 hK hlx hwf hat hrg1 hlt hgr1 hs1 hen
   have Hat:=Lib.hid hat
   have Hgr1:=Lib.hid hgr1
   have HK:=Lib.hid hK
   have HK':=Lib.hid hK
   have hroom:=cnt_room hgs hlt
   have hout1:=hout.kept hgr1 (by intro h;injection h with h;omega)
   have hBx:=hout.lt
   have hBr:=hrg.lt
   have b0:=hK.2 a0 (by simp)
   have b1:=hK.2 a1 (by simp)
   have b2:=hK.2 a2 (by simp)
   have b3:=hK.2 a3 (by simp)
   have b4:=hK.2 a4 (by simp)
   have b5:=hK.2 a5 (by simp)
   have b6:=hK.2 a6 (by simp)
   have Hbel1:=Lib.hid (hbel.out.grown Hgr1.out (by omega) (fun j hj=>by cases hj;omega))
   have hiii:=Hii.out
   obtain ⟨E,hE⟩ : ∃ E,E=wx.heap.size:=⟨_,rfl⟩
   have hE1 : w1.heap.size=E:=by rw [hs1,hE]
   have hEB : B+1 < E:=by rw [hE];exact hBr
   have hq0:=heap_alloc_top w1 (.cells #[.int .i64 a0,.int .i64 a1,.int .i64 a2,.int .i64 a3,.int .i64 a4,.int .i64 a5,.int .i64 a6] 107)
   rw [hE1] at hq0
   have hrgU:=hrg1.alloc (.cells #[.int .i64 a0,.int .i64 a1,.int .i64 a2,.int .i64 a3,.int .i64 a4,.int .i64 a5,.int .i64 a6] 107)
   have houtU:=hout1.alloc (.cells #[.int .i64 a0,.int .i64 a1,.int .i64 a2,.int .i64 a3,.int .i64 a4,.int .i64 a5,.int .i64 a6] 107)
   have hqU : (w1.alloc (.cells #[.int .i64 a0,.int .i64 a1,.int .i64 a2,.int .i64 a3,.int .i64 a4,.int .i64 a5,.int .i64 a6] 107)).drew.heap[E]?=some (.cells #[.int .i64 a0,.int .i64 a1,.int .i64 a2,.int .i64 a3,.int .i64 a4,.int .i64 a5,.int .i64 a6] 107 (0,0)):=hq0
   have HbelU:=Lib.hid (Below.drewN (Hbel1.out.alloc (by omega) (.cells #[.int .i64 a0,.int .i64 a1,.int .i64 a2,.int .i64 a3,.int .i64 a4,.int .i64 a5,.int .i64 a6] 107)) 1)
   obtain ⟨f0,f1,f2,f3,f4,f5,f6,ff,_⟩:=blk7 hqU
   obtain ⟨U,hU⟩ : ∃ U,U=w1.alloc (.cells #[.int .i64 a0,.int .i64 a1,.int .i64 a2,.int .i64 a3,.int .i64 a4,.int .i64 a5,.int .i64 a6] 107):=⟨_,rfl⟩
   obtain ⟨LF,hLF⟩ : ∃ LF : Lit→Bool,LF=fun z=>left z && !z.sameKey (kl [a0,a1,a2,a3,a4,a5,a6]):=⟨_,rfl⟩
   obtain ⟨L,hL⟩ : ∃ L,L=[a0,a1,a2,a3,a4,a5,a6]:=⟨_,rfl⟩
   rw [← hU] at hrgU houtU hqU HbelU f0 f1 f2 f3 f4 f5 f6 ff
   rw [← hLF] at hrgU
   rw [← hL] at HK
   have HU:=Lib.hid hU
   have HE:=Lib.hid hE
   have HL:=Lib.hid hL
   have HLF:=Lib.hid hLF
   have hrgU : RanP U.drew bf (B+1) nf Df LF cnt1:=hrgU
   have houtU : OwnMp U.drew B N Dout:=houtU
   clear hat hgr1 hK hrg hbel hout hU hLF hL hrg1 hout1 hq0 Hbel1 hE hE1
   rcases hi' with h0 | h0 | h0 | h0 | h0 | h0 <;> subst h0
   obtain ⟨X,hX⟩ : ∃ X,X=a0:=⟨_,rfl⟩;obtain ⟨Y,hY⟩ : ∃ Y,Y=a1:=⟨_,rfl⟩;subst hX hY;rotate_left
   obtain ⟨X,hX⟩ : ∃ X,X=a1:=⟨_,rfl⟩;obtain ⟨Y,hY⟩ : ∃ Y,Y=a2:=⟨_,rfl⟩;subst hX hY;rotate_left
   obtain ⟨X,hX⟩ : ∃ X,X=a2:=⟨_,rfl⟩;obtain ⟨Y,hY⟩ : ∃ Y,Y=a3:=⟨_,rfl⟩;subst hX hY;rotate_left
   obtain ⟨X,hX⟩ : ∃ X,X=a3:=⟨_,rfl⟩;obtain ⟨Y,hY⟩ : ∃ Y,Y=a4:=⟨_,rfl⟩;subst hX hY;rotate_left
   obtain ⟨X,hX⟩ : ∃ X,X=a4:=⟨_,rfl⟩;obtain ⟨Y,hY⟩ : ∃ Y,Y=a5:=⟨_,rfl⟩;subst hX hY;rotate_left
   obtain ⟨X,hX⟩ : ∃ X,X=a5:=⟨_,rfl⟩;obtain ⟨Y,hY⟩ : ∃ Y,Y=a6:=⟨_,rfl⟩;subst hX hY;rotate_left
   all_goals
    go_wp2_with fail
    rw [← HE.out,← HU.out]
    go_region
    by_cases hxy : X < Y
    ·go_wp2_with fail
     obtain ⟨len,hlen⟩ : ∃ len : Nat,len=(Y - X).toNat:=⟨_,rfl⟩
     have hlen1 : len≤d:=by omega
     have hlen2 : X+(len : Int)=Y:=by omega
     clear hlen
     go_loopg [10] len (fun g s10 wr=> ∃ (s : Nat) (p q : Int) (D2 : DU),s≤len∧g=len - s∧s10=.int .i64 (X+(s : Int))∧RanP wr bf (B+1) nf Df LF cnt1 ∧
      OwnMp wr B (N+s) D2∧Hid (PolM d D2 (A ++ dvK ii L X Y (wrap64 (-c)) s))∧wr.heap[E]?=some (.cells (((L.set ii p).set (ii+1) q).map (Value.int .i64)).toArray 107 (0,0))∧Hid (Below B w wr))
     case atStart=>exact ⟨0,X,Y,Dout,Nat.zero_le _,by omega,by simp,hrgU,houtU,by simpa [dvK] using hpm,by rw [HL.out,Hii.out];exact hqU,HbelU⟩
     case round =>
      obtain ⟨s,p,q,D2,hs,rfl,rfl,hrg,hout,hpm2,hq,hbel⟩:=hrel
      obtain ⟨wy,rfl⟩ : ∃ x : World,x=wr:=⟨_,rfl⟩
      have hEy:=(Array.getElem?_eq_some_iff.1 hq).1
      rw [HL.out,Hii.out] at hq
      by_cases hst : s < len
      ·have hst2 : X+(s : Int) < Y:=by omega
       obtain ⟨f0,f1,f2,f3,f4,f5,f6,ff,_⟩:=blk7 hq
       have fr:=fun j (_ : j < 7)=>ff j
       have fr0:=ff 0
       have fr1:=ff 1
       have fr2:=ff 2
       have fr3:=ff 3
       have fr4:=ff 4
       have fr5:=ff 5
       have fr6:=ff 6
       have Hadd:=Lib.hid (HK.out.dv (i:=ii) (t:=X+(s : Int)) (s:=X+Y) (by omega) (by omega))
       rw [HL.out,Hii.out] at Hadd
       have Ho1:=Lib.hid (fun (j j' : Nat) (v v' : Value)=>(hout.kept (gb_setCell wy E j v) (by intro h;injection h with h;omega)).kept (gb_setCell _ E j' v') (by intro h;injection h with h;omega))
       have Hr1:=Lib.hid (fun (j j' : Nat) (v v' : Value)=>(hrg.kept (gb_setCell wy E j v) (by intro h;injection h with h;omega) (by intro h;injection h with h;omega)).kept (gb_setCell _ E j' v') (by intro h;injection h with h;omega) (by intro h;injection h with h;omega))
       have Hq1:=Lib.hid (fun (j j' : Nat) (v v' : Value)=>heap_setCell_at (heap_setCell_at hq j v) j' v')
       have Hb1:=Lib.hid (fun (j j' : Nat) (v v' : Value)=>(hbel.out.setCell (p:=⟨E,j,none⟩) (by show B≤E;omega) v).setCell (p:=⟨E,j',none⟩) (by show B≤E;omega) v')
       have hByl:=hout.lt
       clear fr
       go_wp2_with fail
       refine (add_any B (N+s) d D2 (A ++ dvK ii L X Y (wrap64 (-c)) s) _ (wrap64 (-c)) _ (Ho1.out _ _ _ _) hpm2.out Hadd.out (by omega) (by omega)).mono ?_
       rintro e w2 ⟨rfl,D3,ho3,hp3,hg3⟩
       have hrg3:=(Hr1.out _ _ _ _).kept hg3 (by intro h;injection h with h;omega) (by intro h;injection h with h;omega)
       have hq3:=(hg3.block E (by rw [size_setCell,size_setCell];exact hEy) (by intro h;injection h with h;omega)).trans (Hq1.out _ _ _ _)
       have Hp3:=Lib.hid hp3
       have Hb3:=Lib.hid ((Hb1.out _ _ _ _).grown hg3 (by rw [size_setCell,size_setCell];omega) (fun j hj=>by cases hj;exact Nat.le_refl _))
       have Hq3:=Lib.hid hq3
       clear hp3 hg3 hq3 Ho1 Hr1 Hq1 Hb1 Hadd
       go_wp2_with fail
       go_roundg (len - (s+1))
       case measure=>omega
       case rel =>
        refine ⟨s+1,_,_,D3,by omega,rfl,by go_num,hrg3,ho3,?_,by rw [HL.out,Hii.out];exact Hq3.out,Hb3⟩
        rw [dvK_succ,← List.append_assoc]
        rw [HL.out,Hii.out] at Hp3 ⊢
        exact Hp3
      ·have hst2 : ¬ X+(s : Int) < Y:=by omega
       obtain rfl : s=len:=by omega
       go_wp2_with fail
       go_roundg cnt1
       case measure=>exact hlt
       case rel =>
        rw [HLF.out] at hrg
        refine ⟨_,D2,_,N+s,hrg,by omega,has_sub hleft,hout,hpm2,Lib.hid (hga.out.step HF2.out.tidy HK'.out (by omega) hlx Hat.out fun g=> ?_),hbel⟩
        rw [Ev_append]
        refine (Cg.refl _).add ?_
        have hE' : dvE ii L=dvK ii L X Y (-1) s:=by
         rw [show s=(Y - X).toNat by omega,Hii.out,HL.out]
         exact dvE_le (by show X < Y;omega)
        rw [← HL.out,hE']
        exact Ev_dvK _ _ _ _ _ _ _ ((cg_wrap _).trans (Cg.of _ _ (by omega))) g s
    ·go_wp2_with fail
     obtain ⟨len,hlen⟩ : ∃ len : Nat,len=(X - Y).toNat:=⟨_,rfl⟩
     have hlen1 : len≤d:=by omega
     have hlen2 : Y+(len : Int)=X:=by omega
     clear hlen
     go_loopg [10] len (fun g s10 wr=> ∃ (s : Nat) (p q : Int) (D2 : DU),s≤len∧g=len - s∧s10=.int .i64 (Y+(s : Int))∧RanP wr bf (B+1) nf Df LF cnt1 ∧
      OwnMp wr B (N+s) D2∧Hid (PolM d D2 (A ++ dvK ii L Y X c s))∧wr.heap[E]?=some (.cells (((L.set ii p).set (ii+1) q).map (Value.int .i64)).toArray 107 (0,0))∧Hid (Below B w wr))
     case atStart=>exact ⟨0,X,Y,Dout,Nat.zero_le _,by omega,by simp,hrgU,houtU,by simpa [dvK] using hpm,by rw [HL.out,Hii.out];exact hqU,HbelU⟩
     case round =>
      obtain ⟨s,p,q,D2,hs,rfl,rfl,hrg,hout,hpm2,hq,hbel⟩:=hrel
      obtain ⟨wy,rfl⟩ : ∃ x : World,x=wr:=⟨_,rfl⟩
      have hEy:=(Array.getElem?_eq_some_iff.1 hq).1
      rw [HL.out,Hii.out] at hq
      by_cases hst : s < len
      ·have hst2 : Y+(s : Int) < X:=by omega
       obtain ⟨f0,f1,f2,f3,f4,f5,f6,ff,_⟩:=blk7 hq
       have fr:=fun j (_ : j < 7)=>ff j
       have fr0:=ff 0
       have fr1:=ff 1
       have fr2:=ff 2
       have fr3:=ff 3
       have fr4:=ff 4
       have fr5:=ff 5
       have fr6:=ff 6
       have Hadd:=Lib.hid (HK.out.dv (i:=ii) (t:=Y+(s : Int)) (s:=Y+X) (by omega) (by omega))
       rw [HL.out,Hii.out] at Hadd
       have Ho1:=Lib.hid (fun (j j' : Nat) (v v' : Value)=>(hout.kept (gb_setCell wy E j v) (by intro h;injection h with h;omega)).kept (gb_setCell _ E j' v') (by intro h;injection h with h;omega))
       have Hr1:=Lib.hid (fun (j j' : Nat) (v v' : Value)=>(hrg.kept (gb_setCell wy E j v) (by intro h;injection h with h;omega) (by intro h;injection h with h;omega)).kept (gb_setCell _ E j' v') (by intro h;injection h with h;omega) (by intro h;injection h with h;omega))
       have Hq1:=Lib.hid (fun (j j' : Nat) (v v' : Value)=>heap_setCell_at (heap_setCell_at hq j v) j' v')
       have Hb1:=Lib.hid (fun (j j' : Nat) (v v' : Value)=>(hbel.out.setCell (p:=⟨E,j,none⟩) (by show B≤E;omega) v).setCell (p:=⟨E,j',none⟩) (by show B≤E;omega) v')
       have hByl:=hout.lt
       clear fr
       go_wp2_with fail
       refine (add_any B (N+s) d D2 (A ++ dvK ii L Y X c s) _ c _ (Ho1.out _ _ _ _) hpm2.out Hadd.out (by omega) (by omega)).mono ?_
       rintro e w2 ⟨rfl,D3,ho3,hp3,hg3⟩
       have hrg3:=(Hr1.out _ _ _ _).kept hg3 (by intro h;injection h with h;omega) (by intro h;injection h with h;omega)
       have hq3:=(hg3.block E (by rw [size_setCell,size_setCell];exact hEy) (by intro h;injection h with h;omega)).trans (Hq1.out _ _ _ _)
       have Hp3:=Lib.hid hp3
       have Hb3:=Lib.hid ((Hb1.out _ _ _ _).grown hg3 (by rw [size_setCell,size_setCell];omega) (fun j hj=>by cases hj;exact Nat.le_refl _))
       have Hq3:=Lib.hid hq3
       clear hp3 hg3 hq3 Ho1 Hr1 Hq1 Hb1 Hadd
       go_wp2_with fail
       go_roundg (len - (s+1))
       case measure=>omega
       case rel =>
        refine ⟨s+1,_,_,D3,by omega,rfl,by go_num,hrg3,ho3,?_,by rw [HL.out,Hii.out];exact Hq3.out,Hb3⟩
        rw [dvK_succ,← List.append_assoc]
        rw [HL.out,Hii.out] at Hp3 ⊢
        exact Hp3
      ·have hst2 : ¬ Y+(s : Int) < X:=by omega
       obtain rfl : s=len:=by omega
       go_wp2_with fail
       go_roundg cnt1
       case measure=>exact hlt
       case rel =>
        rw [HLF.out] at hrg
        refine ⟨_,D2,_,N+s,hrg,by omega,has_sub hleft,hout,hpm2,Lib.hid (hga.out.step HF2.out.tidy HK'.out (by omega) hlx Hat.out fun g=> ?_),hbel⟩
        rw [Ev_append]
        refine (Cg.refl _).add ?_
        have hE' : dvE ii L=dvK ii L Y X (1) s:=by
         rw [show s=(X - Y).toNat by omega,Hii.out,HL.out]
         exact dvE_ge (by show ¬ X < Y;omega)
        rw [← HL.out,hE']
        exact Ev_dvK _ _ _ _ _ _ _ (Cg.of _ _ (by omega)) g s
theorem divided_any (u : Value) (i d nf : Nat) (P : Pl) (w : World) (hf : PolV w u d nf P) (hi : i < 4) (hd : d < 1000000) (hn : nf * d < 1000000000000000) :
 Calls Tryz.prog 100 #[u,.int .i64 (i : Int)] w fun e w'=> ∃ u',e=.returned u'∧PolV w' u' d (nf * d) (dvP i P)∧Below w.heap.size w w' :=
 divided7_any u i d nf P w hf (by omega) hd hn
end
end Go.Proofs.YtijadclebjcckaaGreat
