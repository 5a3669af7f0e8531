/-
  A part of the proof of FnTop (texts of one proof, joined).
-/
import Derived.Lib.Overlaps
import Derived.Lib.AppendZerosOnto
import Derived.Test.YtijadclebjcckaaGreatJ12
import Derived.Lib.BufferOwn
namespace Go.Proofs.YtijadclebjcckaaGreat
set_option linter.all false
set_option maxRecDepth 100000
set_option maxHeartbeats 16000000
section
open Go.RowKit
section
variable {P : Program}
theorem run_copy_z (w : World) (dT sT ty elem : TypeId) (g o dLen dCap : Nat) (a : Addr) (sLen sCap z k : Nat) (cur : Array Value) (t : TypeId) (cs : List Value)
 (hu : P.underlying dT=some (.slice elem)) (hs : (P.info? elem).map (·.size)=some z)
 (hg : w.heap[g]?=some (.cells cur t (0,0))) (hk : k=Nat.min sLen dLen) (hn : cs.length=k * z)
 (hsrc : ∀ j v,cs[j]?=some v→w.cell? (a.add j)=some v) (hfit : o+cs.length≤cur.size) (h1 : ∀ v ∈ cs,v.oneCell'=true) :
 (Builtin.copy_ #[dT,sT] ty #[.slice (some ⟨g,o,none⟩) dLen dCap,.slice (some a) sLen sCap]).run P w =
   .ok (goInt k) (w.setRow g (cur.toList.take o ++ cs ++ cur.toList.drop (o+cs.length)).toArray):=by
 have hl:=run_loadCells_list (P:=P) w a cs hsrc
 have hst:=run_storeCells_at P g o t cs 0 cur w hg (by simpa using hfit) h1
 cases hq : P.info? elem with
 | none=>simp [hq] at hs
 | some i =>
   have hi : i.size=z:=by simpa [hq] using hs
   rw [hn] at hl
   simp [Builtin.copy_,run_underlying hu,Builtin.lenOf,Builtin.firstCells,sizeOf,typeInfo,hq,hi,← hk,hl,hst]
theorem step_copy_z {w : World} {ops : Array Oper} {o : Oper} {a : Act} {K : Act→World→Prop} {Q : Exit→Act→World→Prop} {E : Prop} (hgd : o.guard=none) (d s : Operand) (t t' : TypeId)
 (ho : o.op=.call { callee:=.builtin .copy,args:=#[d,s],argTypes:=#[t,t'] }) (v u : Value) (hd : a.eval d=v) (hs : a.eval s=u) {v' : Value} {w' : World}
 (hr : (Builtin.copy_ #[t,t'] o.type #[v,u]).run P w=.ok v' w') (h : K (a.put o.dst v') w') : if Region.wanted o (yielded ops a.tmps)=true then Oper.wp P o a w K Q else E:=by
 have hw : Region.wanted o (yielded ops a.tmps)=true:=by simp [Region.wanted,hgd]
 rw [if_pos hw]
 unfold Oper.wp
 simp [execOp,ho,resolve,invoke,builtin,hd,hs,hr,Result.andThen]
 exact h
end
def insV (xs : List Value) (i : Nat) (a b : Value) : List Value:=xs.take (i * 2) ++ [a,b] ++ xs.drop (i * 2)
theorem info_prtI : (Tryz.prog.info? 39).map (fun i=>(i.zero,i.size,i.bytes))=some (some (.agg #[.slice none 0 0,.int .i64 0]),2,32):=by kernel_rfl
theorem insert_end (v : Value) (n lo hi vb vc : Nat) (xs : List Value) (a b : Value) (w : World) (ho : Own w lo hi 39 2 v n xs) (hlo : lo≤w.heap.size) (hn : n≤1000000)
 (h0 : w.cell? ⟨vb,0,none⟩=some a) (h1 : w.cell? ⟨vb,1,none⟩=some b) (o0 : a.oneCell'=true) (o1 : b.oneCell'=true) :
 Calls Tryz.prog 57 #[v,.int .i64 (n : Int),.slice (some ⟨vb,0,none⟩) 1 vc] w fun e w' =>
  ∃ u,e=.returned u∧Own w' lo w'.heap.size 39 2 u (n+1) (insV xs n a b)∧w.grownBy w' v.ownBlock∧(u.ownBlock=v.ownBlock ∨ u.ownBlock=some w.heap.size):=by
 obtain ⟨i,hi',hz,hsz,hby⟩:=info_partsS info_prtI
 have Hi:=Lib.hid hi'
 have Hz:=Lib.hid hz
 have Hsz:=Lib.hid hsz
 have Hby:=Lib.hid hby
 have Ho:=Lib.hid ho
 have hxl:=ho.len
 have Hxl:=Lib.hid hxl
 obtain ⟨p,cap,rfl,hnc,hcm⟩ : ∃ p cap,v=.slice p n cap∧n≤cap∧cap≤maxLen:=by
  rcases ho.1.2 with ⟨rfl,rfl⟩ | ⟨g,cap,cur,rfl,_,_,h1,h2,_⟩
  ·exact ⟨none,0,rfl,Nat.le_refl _,Nat.zero_le _⟩
  ·exact ⟨_,cap,rfl,h1,h2⟩
 have hpn : p=none→n=0∧cap=0:=fun e=>by
  subst e
  rcases ho.1.2 with ⟨e,rfl⟩ | ⟨g,cap',cur,e,_⟩
  ·injection e with _ _ e;exact ⟨rfl,e⟩
  ·injection e with e;cases e
 have hnn : ((n : Int) == (n : Int))=true:=by simp
 have hn0 : (n : Int)≤(n : Int):=Int.le_refl _
 have Hnews:=Lib.hid (show ∀ (j : Nat) (u : Value),[a,b][j]?=some u→w.cell? ((⟨vb,0,none⟩ : Addr).add j)=some u from fun j u hj=>by
  have hadd : (⟨vb,0,none⟩ : Addr).add j=⟨vb,0+j,none⟩:=by unfold Addr.add;split <;> simp_all
  rw [hadd,Nat.zero_add]
  match j,hj with
  | 0,hj=>simp at hj;subst hj;exact h0
  | 1,hj=>simp at hj;subst hj;exact h1
  | j+2,hj=>simp at hj)
 have Hone:=Lib.hid (show ∀ u ∈ [a,b],u.oneCell'=true from fun u hu=>by
  simp only [List.mem_cons,List.not_mem_nil,or_false] at hu
  rcases hu with rfl | rfl
  ·exact o0
  ·exact o1)
 have Hb1:=Lib.hid (show n+1≤maxLen by unfold maxLen;omega)
 have Hb2:=Lib.hid (show (n+1) * 32≤140737488355328 by omega)
 have Hins:=Lib.hid (show xs ++ [a,b]=insV xs n a b by
  unfold insV
  rw [List.take_of_length_le (by omega),List.drop_eq_nil_of_le (by omega),List.append_nil])
 have Hx:=Lib.hid (show ∀ v' w',w'.ownsRow lo 39 2 v' (n+1) (xs ++ [a,b])→Own w' lo w'.heap.size 39 2 v' (n+1) (insV xs n a b) from fun v' w' h=>by rw [← Hins.out];exact Own.of_row h)
 unfold maxLen at hcm
 clear hi' hz hsz hby ho h0 h1 o0 o1 hxl
 cases p with
 | none =>
   obtain ⟨rfl,rfl⟩:=hpn rfl
   go_enter Tryz.func57,Tryz.ntmps57
   go_wp2_with (at_builtin;go_must (refine wpList_append_own_at _ rfl (.tmp 23) (.tmp 24) 27 rfl lo 39 i _ 2 32 Tryz.underlying27 Hi.out Hz.out Hsz.out Hby.out rfl (by omega) _ 0 xs rfl Ho.out.1 ⟨vb,0,none⟩ 1 vc [a,b] rfl rfl Hnews.out Hone.out Hb1.out Hb2.out hlo ?_;intro v' w' h2 h3 _ h4))
   go_ret
   exact ⟨_,rfl,Hx.out _ _ h2,h3,h4⟩
 | some g =>
   clear hpn
   go_enter Tryz.func57,Tryz.ntmps57
   go_wp2_with (at_builtin;go_must (refine wpList_append_own_at _ rfl (.tmp 23) (.tmp 24) 27 rfl lo 39 i _ 2 32 Tryz.underlying27 Hi.out Hz.out Hsz.out Hby.out rfl (by omega) _ n xs rfl Ho.out.1 ⟨vb,0,none⟩ 1 vc [a,b] rfl rfl Hnews.out Hone.out Hb1.out Hb2.out hlo ?_;intro v' w' h2 h3 _ h4))
   all_goals
    go_ret
    exact ⟨_,rfl,Hx.out _ _ h2,h3,h4⟩
theorem shape_of {w : World} {g : Nat} {cur : Array Value} {t : TypeId} {fr : Nat × Nat} (h : w.heap[g]?=some (.cells cur t fr)) : w.shape? g=some (t,cur.size):=by
 simp [World.shape?,h]
theorem frz_of {w : World} {g : Nat} {cur : Array Value} {t : TypeId} (h : w.heap[g]?=some (.cells cur t (0,0))) (j : Nat) : w.frozen? ⟨g,j,none⟩=false:=free_of_blk h j
theorem addr_add (g o j : Nat) : (⟨g,o,none⟩ : Addr).add j=⟨g,o+j,none⟩:=by unfold Addr.add;split <;> simp_all
theorem insert_room (n lo hi g cap i vb vc : Nat) (xs : List Value) (a b : Value) (w : World) (ho : Own w lo hi 39 2 (.slice (some ⟨g,0,none⟩) n cap) n xs) (hi' : i < n) (hroom : n+1≤cap) (hn : n≤1000000)
 (hvb : w.heap[vb]?=some (.cells #[a,b] 39 (0,0))) (hne : vb ≠ g) (ox : ∀ u ∈ xs,u.oneCell'=true) (o0 : a.oneCell'=true) (o1 : b.oneCell'=true) :
 Calls Tryz.prog 57 #[.slice (some ⟨g,0,none⟩) n cap,.int .i64 (i : Int),.slice (some ⟨vb,0,none⟩) 1 vc] w fun e w' =>
  ∃ u,e=.returned u∧Own w' lo w'.heap.size 39 2 u (n+1) (insV xs i a b)∧w.grownBy w' (some g)∧(u.ownBlock=some g ∨ u.ownBlock=some w.heap.size):=by
 obtain ⟨iM,hiM,hz,hsz,hby⟩:=info_partsS info_prtI
 have hs2 : (Tryz.prog.info? 39).map (·.size)=some 2:=by rw [hiM];simp [hsz]
 have hxl:=ho.len
 obtain ⟨cur,hlg,hg,hcm,hcs,htake⟩ : ∃ cur,lo≤g∧w.heap[g]?=some (.cells cur 39 (0,0))∧cap≤maxLen∧cur.size=cap * 2∧cur.toList.take (n * 2)=xs:=by
  rcases ho.1.2 with ⟨e,_⟩ | ⟨g',cap',cur,e,q1,q2,_,q4,q5,q6⟩
  ·injection e with e;cases e
  ·injection e with e1 _ e3
   injection e1 with e1
   injection e1 with e1
   subst e1 e3
   exact ⟨cur,q1,q2,q4,q5,q6⟩
 have hgw : g < w.heap.size:=(ho.1.lt g rfl).2
 unfold maxLen at hcm
 have hcl : cur.toList.length=cap * 2:=by simpa using hcs
 obtain ⟨c1,hc1⟩ : ∃ c1 : List Value,c1=cur.toList.take ((i+1) * 2) ++ xs.drop (i * 2) ++ cur.toList.drop ((i+1) * 2+(n - i) * 2):=⟨_,rfl⟩
 have hdl : (xs.drop (i * 2)).length=(n - i) * 2:=by rw [List.length_drop,hxl];omega
 have hcp1 : ∀ ty dc sc,(Builtin.copy_ #[27,27] ty #[.slice (some ⟨g,(i+1) * 2,none⟩) (n+1 - (i+1)) dc,.slice (some ⟨g,i * 2,none⟩) (n+1 - i) sc]).run Tryz.prog w.drew=.ok (goInt ((n - i : Nat) : Int)) (w.drew.setRow g c1.toArray):=fun ty dc sc=>by
  have h:=run_copy_z (P:=Tryz.prog) w.drew 27 27 ty 39 g ((i+1) * 2) (n+1 - (i+1)) dc ⟨g,i * 2,none⟩ (n+1 - i) sc 2 (n - i) cur 39 (xs.drop (i * 2)) Tryz.underlying27 hs2 hg
   (by simp only [Nat.min_def];split <;> omega) hdl (fun j u hj=>by
     rw [addr_add]
     rw [List.getElem?_drop,← htake,List.getElem?_take] at hj
     split at hj
     ·refine cell_of_blk (w:=w.drew) hg ?_
      rw [← hj];simp
     ·cases hj) (by rw [hdl,hcs];omega) (fun u hu=>ox u (List.mem_of_mem_drop hu))
  rw [hdl,← hc1] at h
  exact h
 have hc1l : c1.length=cap * 2:=by
  rw [hc1]
  simp only [List.length_append,List.length_take,List.length_drop,hcl,hxl]
  omega
 have hg1 : (w.drew.setRow g c1.toArray).heap[g]?=some (.cells c1.toArray 39 (0,0)):=setRow_heap w.drew g cur _ _ _ hg
 obtain ⟨c2,hc2⟩ : ∃ c2 : List Value,c2=c1.take (i * 2) ++ [a,b] ++ c1.drop (i * 2+2):=⟨_,rfl⟩
 have hcp2 : ∀ (W : World),W.heap=(w.drew.setRow g c1.toArray).heap → ∀ ty dc,(Builtin.copy_ #[27,27] ty #[.slice (some ⟨g,i * 2,none⟩) (n+1 - i) dc,.slice (some ⟨vb,0,none⟩) 1 vc]).run Tryz.prog W=.ok (goInt 1) (W.setRow g c2.toArray):=fun W hW ty dc=>by
  have hvb1 : W.heap[vb]?=some (.cells #[a,b] 39 (0,0)):=by rw [hW,setRow_other _ _ _ _ hne];exact hvb
  have h:=run_copy_z (P:=Tryz.prog) W 27 27 ty 39 g (i * 2) (n+1 - i) dc ⟨vb,0,none⟩ 1 vc 2 1 c1.toArray 39 [a,b] Tryz.underlying27 hs2 (by rw [hW];exact hg1)
   (by simp only [Nat.min_def];split <;> omega) rfl (fun j u hj=>by
     rw [addr_add,Nat.zero_add]
     refine cell_of_blk hvb1 ?_
     rw [← hj];simp) (by rw [List.size_toArray,hc1l];simp;omega) (fun u hu=>by
     simp only [List.mem_cons,List.not_mem_nil,or_false] at hu
     rcases hu with rfl | rfl
     ·exact o0
     ·exact o1)
  change _=Result.ok (goInt 1) (W.setRow g (List.take (i * 2) c1 ++ [a,b] ++ List.drop (i * 2+2) c1).toArray) at h
  rw [← hc2] at h
  exact h
 have hres : ∀ (W : World),W.heap=(w.drew.setRow g c1.toArray).heap→(W.setRow g c2.toArray).heap[g]?=some (.cells c2.toArray 39 (0,0)):=fun W hW=>setRow_heap W g c1.toArray _ _ _ (by rw [hW];exact hg1)
 have hc2l : c2.length=cap * 2:=by
  rw [hc2]
  simp only [List.length_append,List.length_take,List.length_drop,hc1l,List.length_cons,List.length_nil]
  omega
 have htk : c2.take ((n+1) * 2)=insV xs i a b:=by
  have e1 : c1.take (i * 2)=xs.take (i * 2):=by
   rw [hc1,List.append_assoc,List.take_append_of_le_length (by rw [List.length_take,hcl];omega),List.take_take,← htake,List.take_take]
   congr 1
   omega
  have e2 : c1.drop (i * 2+2)=xs.drop (i * 2) ++ cur.toList.drop ((i+1) * 2+(n - i) * 2):=by
   rw [hc1,List.append_assoc]
   exact List.drop_left' (by rw [List.length_take,hcl];omega)
  rw [hc2,e1,e2]
  unfold insV
  rw [← List.append_assoc]
  exact List.take_left' (by simp only [List.length_append,List.length_take,List.length_cons,List.length_nil,hdl,hxl];omega)
 have hov : ∀ lb cb,(callFunc 91 #[.slice (some ⟨vb,0,none⟩) 1 vc,.slice (some ⟨g,(i+1) * 2,none⟩) lb cb]).run Tryz.prog w=.ok (.value (.bool false)) w:=fun lb cb=>by
  rw [run_callFunc_extern Tryz.func91 (by kernel_rfl) (by kernel_rfl) (by kernel_rfl) (e:=Extern.SlicesOverlaps.overlaps #[27,27] #[4]) (by kernel_rfl),
   Lib.run_overlaps_apart w 27 4 39 Tryz.underlying27 2 (fun w=>by kernel_rfl) ⟨vb,0,none⟩ ⟨g,(i+1) * 2,none⟩ 1 vc lb cb hne _ _ _ _ (shape_of hvb) (shape_of hg) (by omega) (frz_of hvb 0) (frz_of hvb _)]
  rfl
 have HC1:=Lib.hid hcp1
 have HC2:=Lib.hid hcp2
 have HR:=Lib.hid hres
 have HT:=Lib.hid htk
 have Hc2l:=Lib.hid hc2l
 have Hhg:=Lib.hid hg
 have hz2 : ¬ ((i : Int)=(n : Int)):=by omega
 have hz3 : ((i : Int) == (n : Int))=false:=by simp;omega
 have hcr : ¬ ((cap : Int) < (n : Int)+1):=by omega
 have hw1 : IntKind.i64.wrap ((i : Int)+1)=(i : Int)+1:=k64 (by omega) (by omega)
 have htn : ((i : Int)+1).toNat=i+1:=by omega
 have hb1 : (0 : Int)≤(i : Int)+1:=by omega
 have hb2 : ¬ (cap=i+1):=by omega
 have hb4 : ¬ (cap=i):=by omega
 have hin : (i : Int)≤(n : Int):=by omega
 have hin2 : (i : Int)≤(n : Int)+1:=by omega
 have hnt : ((n : Int)+1).toNat=n+1:=by omega
 have hnc : (n : Int)+1≤(cap : Int):=by omega
 clear ho hiM hz hsz hby hs2 hxl hg htake hcl hc1 hdl hcp1 hc1l hg1 hc2 hcp2 hres hc2l htk ox o0 o1 hvb hcs
 go_enter Tryz.func57,Tryz.ntmps57
 go_wp2_with (simp only [hov])
 go_region_law (refine step_copy_z rfl (.tmp 73) (.tmp 76) 27 27 rfl (.slice (some ⟨g,(i+1) * 2,none⟩) (n+1 - (i+1)) (cap - (i+1))) (.slice (some ⟨g,i * 2,none⟩) (n+1 - i) (cap - i)) (by simp [Act.eval,Act.put]) (by simp [Act.eval,Act.put]) (HC1.out _ _ _) ?_)
 go_wp2_with fail
 rw [HC2.out _ rfl]
 go_wp2_with fail
 go_ret
 have h1:=HR.out (w.drew.setRow g c1.toArray) rfl
 have hsz : ((w.drew.setRow g c1.toArray).setRow g c2.toArray).heap.size=w.heap.size:=by simp [World.setRow]
 have ho2 : Own ((w.drew.setRow g c1.toArray).setRow g c2.toArray) lo ((w.drew.setRow g c1.toArray).setRow g c2.toArray).heap.size 39 2 (.slice (some ⟨g,0,none⟩) (n+1) cap) (n+1) (insV xs i a b):=by
  refine Own.of_row ⟨?_,.inr ⟨g,cap,c2.toArray,rfl,hlg,h1,hroom,by unfold maxLen;omega,?_,?_⟩⟩
  ·rw [← HT.out,List.length_take,Hc2l.out];omega
  ·simpa using Hc2l.out
  ·exact HT.out
 refine ⟨_,rfl,ho2,?_,.inl rfl⟩
 refine ⟨rfl,rfl,rfl,by rw [hsz];exact Nat.le_refl _,fun k hk hne=> ?_⟩
 have hkg : k ≠ g:=fun e=>hne (by rw [e])
 rw [setRow_other _ _ _ _ hkg,setRow_other _ _ _ _ hkg]
 rfl
theorem insert_grow (n lo hi g cap i vb vc : Nat) (xs : List Value) (a b : Value) (w : World) (ho : Own w lo hi 39 2 (.slice (some ⟨g,0,none⟩) n cap) n xs) (hi' : i < n) (hroom : cap < n+1) (hn : n≤1000000) (hlo : lo≤w.heap.size)
 (hvb : w.heap[vb]?=some (.cells #[a,b] 39 (0,0))) (ox : ∀ u ∈ xs,u.oneCell'=true) (o0 : a.oneCell'=true) (o1 : b.oneCell'=true) :
 Calls Tryz.prog 57 #[.slice (some ⟨g,0,none⟩) n cap,.int .i64 (i : Int),.slice (some ⟨vb,0,none⟩) 1 vc] w fun e w' =>
  ∃ u,e=.returned u∧Own w' lo w'.heap.size 39 2 u (n+1) (insV xs i a b)∧w.grownBy w' (some g)∧(u.ownBlock=some g ∨ u.ownBlock=some w.heap.size):=by
 obtain ⟨iM,hiM,hz,hsz,hby⟩:=info_partsS info_prtI
 have hs2 : (Tryz.prog.info? 39).map (·.size)=some 2:=by rw [hiM];simp [hsz]
 have hxl:=ho.len
 obtain ⟨cur,hg,hnc,hcs,htake⟩ : ∃ cur,w.heap[g]?=some (.cells cur 39 (0,0))∧n≤cap∧cur.size=cap * 2∧cur.toList.take (n * 2)=xs:=by
  rcases ho.1.2 with ⟨e,_⟩ | ⟨g',cap',cur,e,q1,q2,q3,q4,q5,q6⟩
  ·injection e with e;cases e
  ·injection e with e1 _ e3
   injection e1 with e1
   injection e1 with e1
   subst e1 e3
   exact ⟨cur,q2,q3,q5,q6⟩
 have hgw : g < w.heap.size:=(ho.1.lt g rfl).2
 have hvw : vb < w.heap.size:=by
  rcases Nat.lt_or_ge vb w.heap.size with h | h
  ·exact h
  ·rw [Array.getElem?_eq_none h] at hvb;cases hvb
 obtain rfl : cap=n:=by omega
 have hsrc : ∀ j u,xs[j]?=some u→w.cell? ⟨g,j,none⟩=some u:=fun j u hj=>by
  rw [← htake,List.getElem?_take] at hj
  split at hj
  ·refine cell_of_blk hg ?_
   rw [← hj];simp
  ·cases hj
 obtain ⟨z,hzd⟩ : ∃ z : Value,z=.agg #[.slice none 0 0,.int .i64 0]:=⟨_,rfl⟩
 have hzs : z.cells.size=2:=by rw [hzd];rfl
 rw [← hzd] at hz
 have hold : (Builtin.firstCells iM.size i (.slice (some ⟨g,0,none⟩) i cap)).run Tryz.prog w.drew=.ok (xs.take (i * 2)).toArray w.drew:=by
  rw [hsz]
  exact run_firstCells_some w.drew 2 i ⟨g,0,none⟩ i cap (xs.take (i * 2)) (by rw [List.length_take,hxl];omega) (fun j u hj=>by
   rw [addr_add,Nat.zero_add]
   rw [List.getElem?_take] at hj
   split at hj
   ·exact hsrc j u hj
   ·cases hj)
 have hik : i+(cap+1 - i)=cap+1:=by omega
 have hkk : (cap : Int)+1 - (i : Int)=((cap+1 - i : Nat) : Int):=by omega
 obtain ⟨G,hG⟩ : ∃ G,G=grownCap w (cap+1) cap 39:=⟨_,rfl⟩
 obtain ⟨ROW,hROW⟩ : ∃ ROW : Array Value,ROW=(xs.take (i * 2)).toArray ++ Builtin.zeroCells z.cells (cap+1 - i) ++ Builtin.zeroCells z.cells (G - (cap+1)):=⟨_,rfl⟩
 have hrz : ∀ ty,(Builtin.append_ #[27,3] ty #[.slice (some ⟨g,0,none⟩) i cap,.int .i64 ((cap : Int)+1 - (i : Int))]).run Tryz.prog w =
  .ok (.slice (some ⟨w.heap.size,0,none⟩) (cap+1) G) (w.drew.alloc (.cells ROW 39)):=fun ty=>by
  have h:=Lib.run_append_grow_zeros (P:=Tryz.prog) w 27 3 ty 39 iM z .i64 .i64 Tryz.underlying27 Tryz.underlying3 hiM hz (some ⟨g,0,none⟩) i cap (xs.take (i * 2)) hold (cap+1 - i) (by omega) (by omega) (by omega) (by omega) (by rw [hby];omega) (by rw [hby,hik];exact growslice_fits (by omega) (by omega))
  rw [hik,← hG,← hROW] at h
  rw [hkk]
  exact h
 have hGn : cap+1≤G:=by rw [hG];exact grownCap_ge w _ _ _
 have hGm : G≤9223372036854775807:=by
  have:=grownCap_le_maxLen w (cap+1) cap 39 (by unfold maxLen;omega)
  rw [← hG] at this
  unfold maxLen at this
  omega
 have hRs : ROW.size=G * 2:=by
  rw [hROW]
  simp only [Array.size_append,List.size_toArray,List.length_take,hxl,size_zeroCells,hzs]
  omega
 have hRt : ROW.toList.take (i * 2)=xs.take (i * 2):=by
  rw [hROW]
  simp only [Array.toList_append,List.append_assoc]
  exact List.take_left' (by simp only [List.length_take,hxl];omega)
 have hdl : (xs.drop (i * 2)).length=(cap - i) * 2:=by rw [List.length_drop,hxl];omega
 obtain ⟨W1,hW1⟩ : ∃ W1,W1=w.drew.alloc (.cells ROW 39):=⟨_,rfl⟩
 have hg1 : W1.heap[w.heap.size]?=some (.cells ROW 39 (0,0)):=by rw [hW1];exact heap_alloc_top w.drew _
 have hold1 : ∀ k,k < w.heap.size→W1.heap[k]?=w.heap[k]?:=fun k hk=>by rw [hW1];exact heap_alloc_low w.drew _ hk
 obtain ⟨c1,hc1⟩ : ∃ c1 : List Value,c1=ROW.toList.take (i * 2) ++ [a,b] ++ ROW.toList.drop (i * 2+2):=⟨_,rfl⟩
 have hRl : ROW.toList.length=G * 2:=by simpa using hRs
 have hc1l : c1.length=G * 2:=by
  rw [hc1]
  simp only [List.length_append,List.length_take,List.length_drop,hRl,List.length_cons,List.length_nil]
  omega
 have hcpA : ∀ (W : World),W.heap=W1.heap → ∀ ty dc,(Builtin.copy_ #[27,27] ty #[.slice (some ⟨w.heap.size,i * 2,none⟩) (cap+1 - i) dc,.slice (some ⟨vb,0,none⟩) 1 vc]).run Tryz.prog W=.ok (goInt 1) (W.setRow w.heap.size c1.toArray):=fun W hW ty dc=>by
  have hvb1 : W.heap[vb]?=some (.cells #[a,b] 39 (0,0)):=by rw [hW,hold1 vb hvw];exact hvb
  have h:=run_copy_z (P:=Tryz.prog) W 27 27 ty 39 w.heap.size (i * 2) (cap+1 - i) dc ⟨vb,0,none⟩ 1 vc 2 1 ROW 39 [a,b] Tryz.underlying27 hs2 (by rw [hW];exact hg1)
   (by simp only [Nat.min_def];split <;> omega) rfl (fun j u hj=>by
     rw [addr_add,Nat.zero_add]
     refine cell_of_blk hvb1 ?_
     rw [← hj];simp) (by rw [hRs];simp;omega) (fun u hu=>by
     simp only [List.mem_cons,List.not_mem_nil,or_false] at hu
     rcases hu with rfl | rfl
     ·exact o0
     ·exact o1)
  change _=Result.ok (goInt 1) (W.setRow w.heap.size (List.take (i * 2) ROW.toList ++ [a,b] ++ List.drop (i * 2+2) ROW.toList).toArray) at h
  rw [← hc1] at h
  exact h
 have hg2 : (W1.setRow w.heap.size c1.toArray).heap[w.heap.size]?=some (.cells c1.toArray 39 (0,0)):=setRow_heap W1 _ ROW _ _ _ hg1
 obtain ⟨c2,hc2⟩ : ∃ c2 : List Value,c2=c1.take ((i+1) * 2) ++ xs.drop (i * 2) ++ c1.drop ((i+1) * 2+(cap - i) * 2):=⟨_,rfl⟩
 have hcpB : ∀ (W : World),W.heap=(W1.setRow w.heap.size c1.toArray).heap → ∀ ty dc sc,(Builtin.copy_ #[27,27] ty #[.slice (some ⟨w.heap.size,(i+1) * 2,none⟩) (cap+1 - (i+1)) dc,.slice (some ⟨g,i * 2,none⟩) (cap - i) sc]).run Tryz.prog W=.ok (goInt ((cap - i : Nat) : Int)) (W.setRow w.heap.size c2.toArray):=fun W hW ty dc sc=>by
  have hgW : W.heap[g]?=some (.cells cur 39 (0,0)):=by rw [hW,setRow_other _ _ _ _ (by omega),hold1 g hgw];exact hg
  have h:=run_copy_z (P:=Tryz.prog) W 27 27 ty 39 w.heap.size ((i+1) * 2) (cap+1 - (i+1)) dc ⟨g,i * 2,none⟩ (cap - i) sc 2 (cap - i) c1.toArray 39 (xs.drop (i * 2)) Tryz.underlying27 hs2 (by rw [hW];exact hg2)
   (by simp only [Nat.min_def];split <;> omega) hdl (fun j u hj=>by
     rw [addr_add]
     rw [List.getElem?_drop,← htake,List.getElem?_take] at hj
     split at hj
     ·refine cell_of_blk hgW ?_
      rw [← hj];simp
     ·cases hj) (by rw [List.size_toArray,hc1l,hdl];omega) (fun u hu=>ox u (List.mem_of_mem_drop hu))
  rw [hdl] at h
  change _=Result.ok (goInt ((cap - i : Nat) : Int)) (W.setRow w.heap.size (List.take ((i+1) * 2) c1 ++ List.drop (i * 2) xs ++ List.drop ((i+1) * 2+(cap - i) * 2) c1).toArray) at h
  rw [← hc2] at h
  exact h
 have hc2l : c2.length=G * 2:=by
  rw [hc2]
  simp only [List.length_append,List.length_take,List.length_drop,hc1l,hxl]
  omega
 have htk : c2.take ((cap+1) * 2)=insV xs i a b:=by
  have e1 : c1.take ((i+1) * 2)=xs.take (i * 2) ++ [a,b]:=by
   rw [hc1,hRt]
   exact List.take_left' (by simp only [List.length_append,List.length_take,List.length_cons,List.length_nil,hxl];omega)
  rw [hc2,e1]
  unfold insV
  exact List.take_left' (by simp only [List.length_append,List.length_take,List.length_cons,List.length_nil,hdl,hxl];omega)
 have HZ:=Lib.hid hrz
 have HA:=Lib.hid hcpA
 have HB:=Lib.hid hcpB
 have HW1:=Lib.hid hW1
 have HT:=Lib.hid htk
 have Hc2l:=Lib.hid hc2l
 have Hg2:=Lib.hid hg2
 have Hold:=Lib.hid hold1
 have hz2 : ¬ ((i : Int)=(cap : Int)):=by omega
 have hz3 : ((i : Int) == (cap : Int))=false:=by simp;omega
 have hcr : (cap : Int) < (cap : Int)+1:=by omega
 have hw1 : IntKind.i64.wrap ((i : Int)+1)=(i : Int)+1:=k64 (by omega) (by omega)
 have htn : ((i : Int)+1).toNat=i+1:=by omega
 have hb1 : (0 : Int)≤(i : Int)+1:=by omega
 have hb2 : ¬ (G=i+1):=by omega
 have hb3 : ¬ (G=i):=by omega
 have hb4 : ¬ (cap=i):=by omega
 have hin : (i : Int)≤(cap : Int):=by omega
 have hin2 : (i : Int)+1≤(cap : Int)+1:=by omega
 clear ho hiM hz hsz hby hs2 hxl hg htake hc1 hdl hrz hcpA hcpB hc1l hg1 hg2 hc2 hc2l htk ox o0 o1 hvb hcs hsrc hzs hold hRs hRt hRl hik hkk hold1 hG hROW hzd hW1
 go_enter Tryz.func57,Tryz.ntmps57
 go_wp2_with (at_builtin;go_must (refine Lib.wpList_append_run _ rfl (.tmp 34) (.tmp 39) 27 3 rfl _ _ rfl rfl _ _ (HZ.out _) ?_))
 rw [HA.out _ (by rw [HW1.out];rfl)]
 go_wp2_with fail
 go_region_law (refine step_copy_z rfl (.tmp 50) (.tmp 53) 27 27 rfl (.slice (some ⟨w.heap.size,(i+1) * 2,none⟩) (cap+1 - (i+1)) (G - (i+1))) (.slice (some ⟨g,i * 2,none⟩) (cap - i) (cap - i)) (by simp [Act.eval,Act.put]) (by simp [Act.eval,Act.put]) (HB.out _ (by rw [HW1.out];rfl) _ _ _) ?_)
 go_wp2_with fail
 go_ret
 obtain ⟨W2,hW2⟩ : ∃ W2,W2=((w.alloc (.cells ROW 39)).drew.setRow w.heap.size c1.toArray).drew:=⟨_,rfl⟩
 rw [← hW2]
 have hW2h : W2.heap=(W1.setRow w.heap.size c1.toArray).heap:=by rw [hW2,HW1.out];rfl
 have h1 : (W2.setRow w.heap.size c2.toArray).heap[w.heap.size]?=some (.cells c2.toArray 39 (0,0)):=setRow_heap W2 _ c1.toArray _ _ _ (by rw [hW2h];exact Hg2.out)
 have hsz : (W2.setRow w.heap.size c2.toArray).heap.size=w.heap.size+1:=by
  have e : (W2.setRow w.heap.size c2.toArray).heap.size=W2.heap.size:=by simp [World.setRow]
  rw [e,hW2h,HW1.out]
  simp [World.setRow]
 have ho2 : Own (W2.setRow w.heap.size c2.toArray) lo (W2.setRow w.heap.size c2.toArray).heap.size 39 2 (.slice (some ⟨w.heap.size,0,none⟩) (cap+1) G) (cap+1) (insV xs i a b):=by
  refine Own.of_row ⟨?_,.inr ⟨w.heap.size,G,c2.toArray,rfl,hlo,h1,hGn,by unfold maxLen;omega,?_,?_⟩⟩
  ·rw [← HT.out,List.length_take,Hc2l.out];omega
  ·simpa using Hc2l.out
  ·exact HT.out
 refine ⟨_,rfl,ho2,?_,.inr rfl⟩
 refine ⟨by rw [hW2];rfl,by rw [hW2];rfl,by rw [hW2];rfl,by rw [hsz];omega,fun k hk _=> ?_⟩
 rw [setRow_other _ _ _ _ (by omega),hW2h,setRow_other _ _ _ _ (by omega)]
 exact Hold.out k hk
theorem insert_any (v : Value) (n lo hi i vb vc : Nat) (xs : List Value) (a b : Value) (w : World) (ho : Own w lo hi 39 2 v n xs) (hi' : i≤n) (hn : n≤1000000) (hlo : lo≤w.heap.size)
 (hvb : w.heap[vb]?=some (.cells #[a,b] 39 (0,0))) (hne : v.ownBlock ≠ some vb) (ox : ∀ u ∈ xs,u.oneCell'=true) (o0 : a.oneCell'=true) (o1 : b.oneCell'=true) :
 Calls Tryz.prog 57 #[v,.int .i64 (i : Int),.slice (some ⟨vb,0,none⟩) 1 vc] w fun e w' =>
  ∃ u,e=.returned u∧Own w' lo w'.heap.size 39 2 u (n+1) (insV xs i a b)∧w.grownBy w' v.ownBlock∧(u.ownBlock=v.ownBlock ∨ u.ownBlock=some w.heap.size):=by
 by_cases hin : i=n
 ·subst hin
  exact insert_end v i lo hi vb vc xs a b w ho hlo hn (cell_of_blk hvb (j:=0) rfl) (cell_of_blk hvb (j:=1) rfl) o0 o1
 ·rcases ho.1.2 with ⟨_,e⟩ | ⟨g,cap,cur,e,_⟩
  ·omega
  ·subst e
   have hne2 : vb ≠ g:=fun e=>hne (by rw [e];rfl)
   by_cases hc : n+1≤cap
   ·exact insert_room n lo hi g cap i vb vc xs a b w ho (by omega) hc hn hvb hne2 ox o0 o1
   ·exact insert_grow n lo hi g cap i vb vc xs a b w ho (by omega) (by omega) hn hlo hvb ox o0 o1
theorem summed1_any (z s : Value) (c : Int) (xs ys : List Int) (w : World) (hz : Ints w z xs) (hs : Ints w s ys) :
 Calls Tryz.prog 65 #[.agg #[z,.int .i64 c],s] w fun e w'=>e=.returned (.int .i64 (cmpB xs ys))∧Below w.heap.size w w':=by
 have Hz:=Lib.hid hz
 have Hs:=Lib.hid hs
 obtain ⟨p,cap,rfl,_,_⟩:=hz
 obtain ⟨q,cap2,rfl,_,_⟩:=hs
 have c0 : (w.alloc (.cells #[.slice p xs.length cap,.int .i64 c] 39)).cell? ⟨w.heap.size,0,none⟩=some (.slice p xs.length cap):=cell_of_blk (heap_alloc_top _ _) (j:=0) rfl
 obtain ⟨nx,hnx⟩ : ∃ n,n=xs.length:=⟨_,rfl⟩
 obtain ⟨ny,hny⟩ : ∃ n,n=ys.length:=⟨_,rfl⟩
 rw [← hnx] at c0 Hz ⊢
 rw [← hny] at Hs ⊢
 clear hnx hny
 go_enter Tryz.func65,Tryz.ntmps65
 go_wp2_with fail
 refine (compare_any _ _ xs ys _ (Hz.out.below (below_alloc w _)) (Hs.out.below (below_alloc w _))).mono ?_
 rintro e w' ⟨rfl,rfl⟩
 go_wp2_with fail
 go_ret
 exact ⟨rfl,below_alloc w _⟩
theorem searchP_any (v u : Value) (cs : List Cls) (t : List Int) (k : Nat) (w : World) (h : RdCl w v cs) (hu : Ints w u t) (hl : cs.length≤1000) (hk : k≤cs.length)
 (ho : ∀ a,a < cs.length→ltB (cs.getD a clD).1 t=decide (a < k)) :
 Calls Tryz.prog 54 #[v,u,.func (.func 65) #[] #[]] w fun e w' =>
  e=.returned (.tuple #[.int .i64 (k : Int),.bool (decide (k < cs.length∧cmpB (cs.getD k clD).1 t=0))])∧Below w.heap.size w w':=by
 obtain ⟨f,h1,hf⟩:=h
 obtain ⟨p,cap,rfl,⟨hx1,hx⟩,hxc⟩:=h1.two
 unfold maxLen at hx
 obtain ⟨n,hn⟩ : ∃ n,n=cs.length:=⟨_,rfl⟩
 rw [← hn] at hx1 hxc hf hk ho hl ⊢
 have Hc:=Lib.hid hxc
 have Hf:=Lib.hid hf
 have Ho:=Lib.hid ho
 have Hu:=Lib.hid hu
 obtain ⟨pu,ku,rfl,_,_⟩:=hu
 obtain ⟨nt,hnt⟩ : ∃ n,n=t.length:=⟨_,rfl⟩
 rw [← hnt] at Hu ⊢
 clear h1 hxc hf ho hn hnt
 go_enter Tryz.func54,Tryz.ntmps54
 go_wp2_with fail
 go_loopg [9,10,11] n (fun g s9 s10 s11 wr=> ∃ i j : Nat,i≤k∧k≤j∧j≤n∧g=j - i∧s9=.int .i64 (i : Int)∧s10=.int .i64 (j : Int)∧Hid (Below w.heap.size w wr))
 case atStart=>exact ⟨0,n,Nat.zero_le _,hk,Nat.le_refl _,rfl,rfl,rfl,Below.refl _ _⟩
 case round =>
  obtain ⟨i,j,hik,hkj,hjn,rfl,rfl,rfl,hb⟩:=hrel
  obtain ⟨wo,rfl⟩ : ∃ x : World,x=wr:=⟨_,rfl⟩
  by_cases hij : i < j
  ·have hiji : (i : Int) < (j : Int):=by omega
   obtain ⟨m,hm⟩ : ∃ m : Nat,m=(i+j) / 2:=⟨_,rfl⟩
   have hmn : m < n:=by omega
   have hmi : (m : Int) < (n : Int):=by omega
   obtain ⟨bx,rfl,hcc⟩:=Hc.out (by omega)
   obtain ⟨d1,d2⟩:=hcc m hmn
   have d1:=cell_below hb.out d1
   have d2:=cell_below hb.out d2
   have Hm:=Lib.hid hm
   have HS:=Lib.hid (summed1_any (f m) (.slice pu nt ku) (cs.getD m clD).2 (cs.getD m clD).1 t wo ((Hf.out m hmn).below hb.out) (Hu.out.below hb.out))
   have hsh:=(Hf.out m hmn)
   obtain ⟨pz,kz,ez,_,_⟩:=hsh
   obtain ⟨c0,hc0⟩ : ∃ c,c=(cs.getD m clD).2:=⟨_,rfl⟩
   obtain ⟨nz,hnz⟩ : ∃ c,c=(cs.getD m clD).1.length:=⟨_,rfl⟩
   obtain ⟨c,hcm⟩ : ∃ c,c=cmpB (cs.getD m clD).1 t:=⟨_,rfl⟩
   have hcl : c < 0 ↔ m < k:=by
    have h1:=cmpB_lt (cs.getD m clD).1 t
    rw [← hcm,Ho.out m hmn] at h1
    by_cases h2 : m < k
    ·simp [h2] at h1
     exact ⟨fun _=>h2,fun _=>h1⟩
    ·simp [h2] at h1
     exact ⟨fun h=>absurd h (by omega),fun h=>absurd h h2⟩
   rw [← hnz] at ez
   rw [ez,← hc0,← hcm] at HS
   rw [ez] at d1
   rw [← hc0] at d2
   rw [hm] at d1 d2
   have hmi2 : ((i : Int)+(j : Int)) / 2 < (n : Int):=by omega
   clear hm hcc hc0 hnz hcm ez
   go_wp2_with fail
   refine HS.out.mono ?_
   rintro e w' ⟨rfl,hb'⟩
   have Hb':=Lib.hid (hb.out.trans (hb'.mono hb.out.size))
   clear hb' HS
   by_cases h2 : m < k
   ·have h3 : c < 0:=hcl.2 h2
    go_wp2_with fail
    go_roundg (j - (m+1))
    case measure=>have:=Hm.out;omega
    case rel=>exact ⟨m+1,j,by have:=Hm.out;omega,hkj,hjn,rfl,by have:=Hm.out;go_num,rfl,Hb'.out⟩
   ·have h3 : ¬ c < 0:=fun h=>h2 (hcl.1 h)
    go_wp2_with fail
    go_roundg (m - i)
    case measure=>have:=Hm.out;omega
    case rel=>exact ⟨i,m,hik,by omega,by have:=Hm.out;omega,rfl,rfl,by have:=Hm.out;congr 1;omega,Hb'.out⟩
  ·have hiji : ¬ (i : Int) < (j : Int):=by omega
   obtain rfl : i=k:=by omega
   by_cases hin : i < n
   ·have hini : (i : Int) < (n : Int):=by omega
    obtain ⟨bx,rfl,hcc⟩:=Hc.out (by omega)
    obtain ⟨d1,d2⟩:=hcc i hin
    have d1:=cell_below hb.out d1
    have d2:=cell_below hb.out d2
    have HS:=Lib.hid (summed1_any (f i) (.slice pu nt ku) (cs.getD i clD).2 (cs.getD i clD).1 t wo ((Hf.out i hin).below hb.out) (Hu.out.below hb.out))
    obtain ⟨pz,kz,ez,_,_⟩:=(Hf.out i hin)
    obtain ⟨c0,hc0⟩ : ∃ c,c=(cs.getD i clD).2:=⟨_,rfl⟩
    obtain ⟨nz,hnz⟩ : ∃ c,c=(cs.getD i clD).1.length:=⟨_,rfl⟩
    obtain ⟨c,hcm⟩ : ∃ c,c=cmpB (cs.getD i clD).1 t:=⟨_,rfl⟩
    rw [← hnz] at ez
    rw [ez,← hc0,← hcm] at HS
    rw [ez] at d1
    rw [← hc0] at d2
    have Hcm:=Lib.hid hcm
    clear hcc hc0 hnz hcm ez
    by_cases hc00 : c=0
    ·subst hc00
     go_wp2_with fail
     refine HS.out.mono ?_
     rintro e w' ⟨rfl,hb'⟩
     have Hb':=Lib.hid (hb.out.trans (hb'.mono hb.out.size))
     clear hb' HS
     go_wp2_with fail
     go_ret2
     exact ⟨by rw [decide_eq_true ⟨hin,Hcm.out.symm⟩];rfl,Hb'.out⟩
    ·have hcb : (c == 0)=false:=by simp [hc00]
     go_wp2_with fail
     refine HS.out.mono ?_
     rintro e w' ⟨rfl,hb'⟩
     have Hb':=Lib.hid (hb.out.trans (hb'.mono hb.out.size))
     clear hb' HS
     go_wp2_with fail
     go_ret2
     exact ⟨by rw [decide_eq_false (fun h=>hc00 (Hcm.out.trans h.2))];rfl,Hb'.out⟩
   ·have hini : ¬ ((i : Int) < (n : Int)):=by omega
    go_wp2_with fail
    go_ret2
    exact ⟨by first | rfl | (rw [decide_eq_false (fun h=>hin h.1)];rfl) | simp,hb.out⟩
theorem blk3 {w : World} {b : Nat} {x0 x1 x2 : Value} {T : TypeId} (h : w.heap[b]?=some (.cells #[x0,x1,x2] T (0,0))) :
 w.cell? ⟨b,0,none⟩=some x0∧w.cell? ⟨b,1,none⟩=some x1∧w.cell? ⟨b,2,none⟩=some x2∧(∀ j,w.frozen? ⟨b,j,none⟩=false)∧b < w.heap.size :=
 ⟨cell_of_blk h rfl,cell_of_blk h rfl,cell_of_blk h rfl,free_of_blk h,(Array.getElem?_eq_some_iff.1 h).1⟩
theorem and255 (x : Int) : 0≤bits .and .i64 x 255∧bits .and .i64 x 255≤255:=by
 have h1 : (BitVec.ofInt 64 x).toNat &&& 255 < 2 ^ 8:=Nat.and_lt_two_pow _ (by decide)
 have e : bits .and .i64 x 255=IntKind.i64.wrap (((BitVec.ofInt 64 x).toNat &&& 255 : Nat) : Int):=by
  simp only [bits,BitVec.toNat_and]
  rfl
 have e2 : IntKind.i64.wrap (((BitVec.ofInt 64 x).toNat &&& 255 : Nat) : Int)=(((BitVec.ofInt 64 x).toNat &&& 255 : Nat) : Int):=k64 (by omega) (by omega)
 rw [e,e2]
 omega
def Byts (w : World) (v : Value) (n : Nat) : Prop:=∃ f : Nat→Int,Rd w v n fun j=>.int .u8 (f j)
theorem Byts.below {w w' : World} {v : Value} {n : Nat} (h : Byts w v n) (hb : Below w.heap.size w w') : Byts w' v n:=by
 obtain ⟨f,h⟩:=h
 exact ⟨f,h.below hb⟩
theorem Byts.frm {w w' : World} {p : Option Addr} {n cap k : Nat} (h : Byts w (.slice p n cap) n) (hf : Frm k (k+1) w w') (hne : 0 < n → ∀ a,p=some a→a.block < k) : Byts w' (.slice p n cap) n:=by
 obtain ⟨f,p',cap',e,hm,hx⟩:=h
 injection e with e1 _ e3
 subst e1 e3
 refine ⟨f,p,cap,rfl,hm,fun h0=> ?_⟩
 obtain ⟨b,off,hp,hc⟩:=hx h0
 refine ⟨b,off,hp,fun j hj=> ?_⟩
 have hb:=World.block_lt_of_cell? w _ (hc j hj)
 have h1:=hne h0 _ hp
 rw [World.cell?_of_block (w:=w) (hf.block b hb (by dsimp only at h1;omega))]
 exact hc j hj
def Cur (w : World) (k : Nat) : Prop :=
 ∃ (p : Option Addr) (n cap i : Nat) (h : Int),w.heap[k]?=some (.cells #[.slice p n cap,.int .i64 (i : Int),.int .i64 h] 85 (0,0))∧i≤n∧Byts w (.slice p n cap) n∧(0 < n → ∀ a,p=some a→a.block < k)
theorem Cur.lt {w : World} {k : Nat} (h : Cur w k) : k < w.heap.size:=by
 obtain ⟨_,_,_,_,_,h,_⟩:=h
 exact blk_lt h
theorem Cur.keepB {w w' : World} {k B : Nat} (h : Cur w k) (hb : Below B w w') (hB : k < B) : Cur w' k:=by
 have hk:=h.lt
 obtain ⟨p,n,cap,i,x,h1,h2,⟨f,p',cap',e,hm,h3⟩,h4⟩:=h
 injection e with e1 _ e3
 subst e1 e3
 refine ⟨p,n,cap,i,x,by rw [hb.block k hB];exact h1,h2,⟨f,p,cap,rfl,hm,fun h0=> ?_⟩,h4⟩
 obtain ⟨b,off,hp,hc⟩:=h3 h0
 have hlt:=h4 h0 _ hp
 dsimp only at hlt
 exact ⟨b,off,hp,fun j hj=>by rw [World.cell?_of_block (w:=w) (hb.block b (by omega))];exact hc j hj⟩
theorem Frm.thenB {lo hi B : Nat} {a b c : World} (h : Frm lo hi a b) (hb : Below B b c) (hB : a.heap.size≤B) : Frm lo hi a c :=
 ⟨hb.os.trans h.os,hb.tape.trans h.tape,hb.output.trans h.output,Nat.le_trans h.size hb.size,fun k hk ho=>(hb.block k (by omega)).trans (h.block k hk ho)⟩
theorem OwnI.setOther {T : TypeId} {w : World} {lo hi : Nat} {v : Value} {xs : List Int} (h : OwnI T w lo hi v xs) {a : Addr} (hne : v.ownBlock ≠ some a.block) (u : Value) : OwnI T (w.setCell a u) lo hi v xs :=
 ⟨ownsRow_of_block h.1 fun b hb=>Below.heap_setCell _ _ _ _ fun e=>hne (by rw [hb,e]),h.2⟩
theorem Cur.below {w w' : World} {k : Nat} (h : Cur w k) (hb : Below w.heap.size w w') : Cur w' k:=by
 obtain ⟨p,n,cap,i,x,h1,h2,h3,h4⟩:=h
 exact ⟨p,n,cap,i,x,blk_later h1 hb,h2,h3.below hb,h4⟩
theorem l1Byte_any (k : Nat) (w : World) (h : Cur w k) :
 Calls Tryz.prog 89 #[.pointer (some ⟨k,0,none⟩)] w fun e w'=> ∃ x : Int,e=.returned (.int .i64 x)∧0≤x∧x≤255∧Cur w' k∧Frm k (k+1) w w':=by
 obtain ⟨p,n,cap,i,x,h1,h2,⟨f,h3⟩,h4⟩:=h
 obtain ⟨c0,c1,c2,cf,cz⟩:=blk3 h1
 obtain ⟨_,_,e,⟨hx1,hx2⟩,hxc⟩:=h3
 injection e with e1 e2 e3
 subst e1 e3
 unfold maxLen at hx2
 have Hxc:=Lib.hid hxc
 clear hxc e2
 go_enter Tryz.func89,Tryz.ntmps89
 go_wp2_with fail
 go_quiet (fail)
 obtain ⟨X,hX⟩ : ∃ X,X=wrap64 (wrap64 (x * 6364136223846793005)+1442695040888963407):=⟨_,rfl⟩
 rw [← hX]
 obtain ⟨Y,hY⟩ : ∃ Y,Y=bits BinOp.and IntKind.i64 (bits BinOp.xor IntKind.i64 (X / 8589934592) (X / 35184372088832)) 255:=⟨_,rfl⟩
 rw [← hY]
 have hY2:=and255 (bits BinOp.xor IntKind.i64 (X / 8589934592) (X / 35184372088832))
 rw [← hY] at hY2
 clear hX hY
 have hf2 : Frm k (k+1) w ((w.setCell ⟨k,2,none⟩ (.int .i64 X)).drewN nq):=((Frm.refl k (k+1) w).setCell (Nat.le_refl _) (Nat.lt_succ_self _) _).drewN nq
 have hh2 : ((w.setCell ⟨k,2,none⟩ (.int .i64 X)).drewN nq).heap[k]?=some (.cells #[.slice p n cap,.int .i64 (i : Int),.int .i64 X] 85 (0,0)):=heap_setCell_at h1 2 _
 have hB2 : Byts ((w.setCell ⟨k,2,none⟩ (.int .i64 X)).drewN nq) (.slice p n cap) n:=Byts.frm ⟨f,_,_,rfl,⟨hx1,by unfold maxLen;omega⟩,Hxc.out⟩ hf2 h4
 generalize (w.setCell ⟨k,2,none⟩ (.int .i64 X)).drewN nq=w2 at *
 clear c0 c1 c2 cf cz Hxc f
 obtain ⟨c0,c1,c2,cf,cz⟩:=blk3 hh2
 have HB2:=Lib.hid hB2
 have Hf2:=Lib.hid hf2
 obtain ⟨f,p',cap',e,_,hxc⟩:=hB2
 injection e with e1 _ e3
 subst e1 e3
 clear hf2
 by_cases hlt : i < n
 ·obtain ⟨b,off,rfl,hc⟩:=hxc (by omega)
  have cb:=hc i hlt
  have hlt2 : (i : Int) < (n : Int):=by omega
  clear hxc hc
  go_wp2_with fail
  go_quiet (fail)
  go_wp2_with fail
  go_quiet (fail)
  obtain ⟨Z,hZ⟩ : ∃ Z,Z=bits BinOp.and IntKind.i64 (wrap64 (Y+wrap64 (f i))) 255:=⟨_,rfl⟩
  rw [← hZ]
  have hZ2:=and255 (wrap64 (Y+wrap64 (f i)))
  rw [← hZ] at hZ2
  clear hZ
  have hcast : (i : Int)+1=((i+1 : Nat) : Int):=by omega
  have Hcast:=Lib.hid hcast
  clear hcast
  go_wp2_with fail
  go_ret
  rw [Hcast.out]
  refine ⟨Z,rfl,hZ2.1,hZ2.2,⟨_,n,cap,i+1,X,by exact heap_setCell_at hh2 1 _,by omega,?_,h4⟩,?_⟩
  ·exact HB2.out.frm (k:=k) (Frm.setCell ((Frm.refl k (k+1) w2).drewN _) (Nat.le_refl k) (Nat.lt_succ_self k) _) h4
  ·exact Frm.setCell (Hf2.out.drewN _) (Nat.le_refl k) (Nat.lt_succ_self k) _
 ·have hlt2 : ¬ (i : Int) < (n : Int):=by omega
  clear hxc
  go_wp2_with fail
  go_quiet (fail)
  go_wp2_with fail
  go_ret
  exact ⟨Y,rfl,hY2.1,hY2.2,⟨p,n,cap,i,X,hh2,h2,HB2.out.frm (k:=k) ((Frm.refl k (k+1) w2).drewN _) h4,h4⟩,Hf2.out.drewN _⟩
theorem l1Below_any (k m : Nat) (w : World) (h : Cur w k) (h0 : 1≤m) (hm : m≤256) :
 Calls Tryz.prog 48 #[.pointer (some ⟨k,0,none⟩),.int .i64 (m : Int)] w fun e w'=> ∃ x : Nat,e=.returned (.int .i64 (x : Int))∧x < m∧Cur w' k∧Frm k (k+1) w w':=by
 have Hc:=Lib.hid h
 clear h
 go_enter Tryz.func48,Tryz.ntmps48
 go_wp2_with fail
 refine (l1Byte_any k _ Hc.out).mono ?_
 rintro e w1 ⟨x,rfl,hx0,hx1,hc1,hf1⟩
 obtain ⟨X,rfl⟩:=Int.eq_ofNat_of_zero_le hx0
 have Hc1:=Lib.hid hc1
 have Hf1:=Lib.hid hf1
 clear hc1 hf1
 go_wp2_with fail
 go_ret
 exact ⟨X % m,ret_int (Int.natCast_emod X m).symm,Nat.mod_lt _ (by omega),Hc1.out,Hf1.out⟩
theorem l1Once_any (k m : Nat) (w : World) (h : Cur w k) (h0 : 1≤m) (hm : m≤256) :
 Calls Tryz.prog 49 #[.pointer (some ⟨k,0,none⟩),.int .i64 (m : Int)] w fun e w'=> ∃ b : Bool,e=.returned (.bool b)∧Cur w' k∧Frm k (k+1) w w':=by
 have Hc:=Lib.hid h
 clear h
 go_enter Tryz.func49,Tryz.ntmps49
 go_wp2_with fail
 refine (l1Below_any k m _ Hc.out h0 hm).mono ?_
 rintro e w1 ⟨x,rfl,hx,hc1,hf1⟩
 go_wp2_with fail
 go_ret
 exact ⟨_,rfl,hc1,hf1⟩
theorem l1PickInt_any (k : Nat) (v : Value) (xs : List Int) (w : World) (h : Cur w k) (hv : Ints w v xs) (hne : ∀ p n c,v=.slice p n c → ∀ a,p=some a→a.block ≠ k) (h0 : 1≤xs.length) (hm : xs.length≤256) :
 Calls Tryz.prog 50 #[.pointer (some ⟨k,0,none⟩),v] w fun e w'=> ∃ x ∈ xs,e=.returned (.int .i64 x)∧Cur w' k∧Frm k (k+1) w w':=by
 have Hc:=Lib.hid h
 clear h
 obtain ⟨p,cap,rfl,⟨hx1,hx2⟩,hxc⟩:=hv
 obtain ⟨b,off,rfl,hc⟩:=hxc h0
 have hk : b ≠ k:=hne _ _ _ rfl _ rfl
 unfold maxLen at hx2
 clear hne hxc
 go_enter Tryz.func50,Tryz.ntmps50
 go_wp2_with fail
 refine (l1Below_any k xs.length _ Hc.out h0 hm).mono ?_
 rintro e w1 ⟨x,rfl,hx,hc1,hf1⟩
 have c1 : w1.cell? ⟨b,off+x,none⟩=some (.int .i64 xs[x]):=by
  rw [World.cell?_of_block (w:=w) (hf1.block b (World.block_lt_of_cell? w _ (hc x hx)) (by omega)),hc x hx]
  simp [iv,List.getD_eq_getElem?_getD,hx]
 have Hc1:=Lib.hid hc1
 have Hf1:=Lib.hid hf1
 have Hm:=Lib.hid (show xs[x] ∈ xs from List.getElem_mem hx)
 obtain ⟨X,hX⟩ : ∃ X,X=xs[x]:=⟨_,rfl⟩
 rw [← hX] at c1 Hm
 clear hX hc hc1 hf1
 go_wp2_with fail
 go_ret
 exact ⟨X,Hm.out,rfl,Hc1.out,Hf1.out⟩
def OwnP2 (w : World) (lo lo2 hi : Nat) (v : Value) (cs : List Cls) : Prop :=
 ∃ g,OwnS w lo hi 39 2 v cs.length (clF cs g) ∧ ∀ i,i < cs.length→OwnI 3 w lo2 hi (g i) (cs.getD i clD).1
theorem OwnP2.rd {w : World} {lo lo2 hi : Nat} {v : Value} {cs : List Cls} (h : OwnP2 w lo lo2 hi v cs) : RdCl w v cs:=by
 obtain ⟨g,h1,h2⟩:=h
 exact ⟨g,h1.rd,fun i hi=>(h2 i hi).ints⟩
theorem OwnP2.below {w w' : World} {lo lo2 hi : Nat} {v : Value} {cs : List Cls} (h : OwnP2 w lo lo2 hi v cs) (hb : Below w.heap.size w w') : OwnP2 w' lo lo2 hi v cs:=by
 obtain ⟨g,h1,h2⟩:=h
 exact ⟨g,h1.below hb,fun i hi=>(h2 i hi).below hb⟩
theorem OwnP2.mono {w : World} {lo lo2 hi lo' hi' : Nat} {v : Value} {cs : List Cls} (h : OwnP2 w lo lo2 hi v cs) (hl : lo'≤lo) (hh : hi≤hi') : OwnP2 w lo' lo2 hi' v cs:=by
 obtain ⟨g,h1,h2⟩:=h
 exact ⟨g,h1.mono hl hh,fun i hi=>(h2 i hi).mono (Nat.le_refl _) hh⟩
theorem OwnP2.shape {w : World} {lo lo2 hi : Nat} {v : Value} {cs : List Cls} (h : OwnP2 w lo lo2 hi v cs) : ∃ p cap,v=.slice p cs.length cap∧cs.length≤cap∧cap≤maxLen:=by
 obtain ⟨g,h1,_⟩:=h
 obtain ⟨p,cap,e,a,b,_⟩:=h1.shape
 exact ⟨p,cap,e,a,b⟩
theorem OwnP2.setCell {w : World} {lo lo2 hi : Nat} {v : Value} {cs : List Cls} (h : OwnP2 w lo lo2 hi v cs) {a : Addr} {c : Array Value} {T : TypeId} {fz : Nat × Nat} (hz : w.heap[a.block]?=some (.cells c T fz)) (hT : T ≠ 39) (hT2 : T ≠ 3 ∨ a.block < lo2) (u : Value) : OwnP2 (w.setCell a u) lo lo2 hi v cs:=by
 obtain ⟨g,h1,h2⟩:=h
 have hs : ∀ k,k ≠ a.block→(w.setCell a u).heap[k]?=w.heap[k]?:=fun k hk=>Below.heap_setCell w a u k hk
 refine ⟨g,?_,fun i hi'=> ?_⟩
 ·obtain ⟨xs,q1,q2⟩:=h1
  refine ⟨xs,⟨ownsRow_of_block q1.1 fun k hk=>hs k fun e=> ?_,q1.2⟩,q2⟩
  exact ne_of_kinds (Lib.ownsRow_kind q1.1 k hk) ⟨c,fz,by rw [e];exact hz⟩ (fun e=>hT e.symm)
 ·have q:=h2 i hi'
  refine ⟨ownsRow_of_block q.1 fun k hk=>hs k fun e=> ?_,q.2⟩
  rcases hT2 with hT2 | hT2
  ·exact ne_of_kinds (OwnI.kind q k hk) ⟨c,fz,by rw [e];exact hz⟩ (fun e=>hT2 e.symm)
  ·have:=(Own.block q hk).1
   omega
def IsPt (w : World) (k : Nat) : Prop:=∃ c fz,w.heap[k]?=some (.cells c 39 fz)
structure FrP (lo : Nat) (w w' : World) : Prop where
 os : w'.os=w.os
 tape : w'.tape=w.tape
 output : w'.output=w.output
 size : w.heap.size≤w'.heap.size
 block : ∀ k,k < w.heap.size→(k < lo ∨ ¬ IsPt w k)→w'.heap[k]?=w.heap[k]?
theorem FrP.refl (lo : Nat) (w : World) : FrP lo w w:=⟨rfl,rfl,rfl,Nat.le_refl _,fun _ _ _=>rfl⟩
theorem FrP.of_below {lo : Nat} {w w' : World} (h : Below w.heap.size w w') : FrP lo w w':=⟨h.os,h.tape,h.output,h.size,fun k hk _=>h.block k hk⟩
theorem FrP.trans {lo : Nat} {a b c : World} (h : FrP lo a b) (k : FrP lo b c) : FrP lo a c :=
 ⟨k.os.trans h.os,k.tape.trans h.tape,k.output.trans h.output,Nat.le_trans h.size k.size,fun i hi ho=>by
   have e:=h.block i hi ho
   have ho' : i < lo ∨ ¬ IsPt b i:=ho.imp id fun hn hp=>hn (by unfold IsPt at hp ⊢;rw [e] at hp;exact hp)
   exact (k.block i (Nat.lt_of_lt_of_le hi h.size) ho').trans e⟩
theorem FrP.of_grown {lo lo2 hi : Nat} {w w' : World} {v : Value} {cs : List Cls} (h : OwnP2 w lo lo2 hi v cs) (hg : w.grownBy w' v.ownBlock) : FrP lo w w' :=
 ⟨hg.os,hg.tape,hg.output,hg.size,fun k hk ho=>hg.block k hk fun e=>by
   obtain ⟨g,h1,_⟩:=h
   rcases ho with ho | ho
   ·have:=h1.blocks k e.symm;omega
   ·exact ho (h1.kind k e.symm)⟩
theorem FrP.setCell {lo lo2 hi g0 n cap j : Nat} {w w' : World} {cs : List Cls} (hf : FrP lo w w') (h : OwnP2 w' lo lo2 hi (.slice (some ⟨g0,0,none⟩) n cap) cs) (u : Value) : FrP lo w (w'.setCell ⟨g0,j,none⟩ u):=by
 obtain ⟨g,h1,_⟩:=h
 refine ⟨hf.os,hf.tape,hf.output,by rw [size_setCell];exact hf.size,fun k hk ho=> ?_⟩
 have e:=hf.block k hk ho
 have hne : g0 ≠ k:=fun e2=>by
  rcases ho with ho | ho
  ·have:=(h1.blocks g0 rfl).1;omega
  ·have:=h1.kind g0 rfl
   rw [e2,e] at this
   exact ho this
 exact (Below.heap_setCell w' ⟨g0,j,none⟩ u k (fun e2=>hne e2.symm)).trans e
def insP (k : Nat) (x : Cls) (cs : List Cls) : List Cls:=cs.take k ++ [x] ++ cs.drop k
theorem insP_len {k : Nat} {x : Cls} {cs : List Cls} (h : k≤cs.length) : (insP k x cs).length=cs.length+1:=by simp [insP];omega
theorem insP_getD {k : Nat} {x : Cls} {cs : List Cls} (h : k≤cs.length) (i : Nat) : (insP k x cs).getD i clD=if i < k then cs.getD i clD else if i=k then x else cs.getD (i - 1) clD:=by
 unfold insP
 have hl : (cs.take k).length=k:=by simp;omega
 by_cases h1 : i < k
 ·rw [if_pos h1,List.append_assoc,List.getD_eq_getElem?_getD,List.getElem?_append_left (by omega),List.getElem?_take,if_pos h1,← List.getD_eq_getElem?_getD]
 ·rw [if_neg h1,List.append_assoc,List.getD_eq_getElem?_getD,List.getElem?_append_right (by omega),hl]
  by_cases h2 : i=k
  ·rw [if_pos h2,h2,Nat.sub_self];rfl
  ·rw [if_neg h2]
   obtain ⟨d,hd⟩ : ∃ d,i - k=d+1:=⟨i - k - 1,by omega⟩
   rw [hd]
   show ((cs.drop k)[d]?).getD clD=_
   rw [List.getElem?_drop,← List.getD_eq_getElem?_getD]
   congr 1;omega
theorem insV_at {xs : List Value} {n k : Nat} {a b : Value} (hl : xs.length=n * 2) (hk : k≤n) {i j : Nat} (hj : j < 2) : (insV xs k a b)[i * 2+j]?=if i < k then xs[i * 2+j]? else if i=k then [a,b][j]? else xs[(i - 1) * 2+j]?:=by
 unfold insV
 have h2 : (xs.take (k * 2)).length=k * 2:=by simp;omega
 by_cases h1 : i < k
 ·rw [if_pos h1,List.append_assoc,List.getElem?_append_left (by omega),List.getElem?_take,if_pos (by omega)]
 ·rw [if_neg h1,List.append_assoc,List.getElem?_append_right (by omega),h2]
  by_cases e : i=k
  ·rw [if_pos e,e,show k * 2+j - k * 2=j by omega,List.getElem?_append_left (by simpa using hj)]
  ·rw [if_neg e,List.getElem?_append_right (by simp;omega),List.getElem?_drop]
   congr 1
   simp
   omega
theorem clF_one {w : World} {lo hi : Nat} {cs : List Cls} {g : Nat→Value} (h2 : ∀ i,i < cs.length→OwnI 3 w lo hi (g i) (cs.getD i clD).1) {i j : Nat} (hi' : i < cs.length) (hj : j < 2) : (clF cs g i j).oneCell'=true:=by
 have : j=0 ∨ j=1:=by omega
 rcases this with rfl | rfl
 ·obtain ⟨p,cap,e,_⟩:=(h2 i hi').ints
  show (g i).oneCell'=true
  rw [e];rfl
 ·rfl
theorem OwnP2.insert {w w' : World} {lo lo2 hi hi2 n k : Nat} {v u z : Value} {cs : List Cls} {g : Nat→Value} {xs : List Value} {x : Cls} (hn : n=cs.length) (hk : k≤n)
 (h1 : Own w lo hi 39 2 v n xs) (hF : ∀ i,i < n → ∀ j,j < 2→xs[i * 2+j]?=some (clF cs g i j)) (h2 : ∀ i,i < n→OwnI 3 w lo2 hi (g i) (cs.getD i clD).1)
 (hz : OwnI 3 w lo2 hi2 z x.1) (ho : Own w' lo w'.heap.size 39 2 u (n+1) (insV xs k z (.int .i64 x.2))) (hg : w.grownBy w' v.ownBlock) (hhi : hi≤w'.heap.size) (hhi2 : hi2≤w'.heap.size) :
 OwnP2 w' lo lo2 w'.heap.size u (insP k x cs):=by
 subst hn
 have hrow : ∀ (y : Value) (ys : List Int) (lo1 hi1 : Nat),OwnI 3 w lo1 hi1 y ys→OwnI 3 w' lo1 hi1 y ys:=fun y ys lo1 hi1 hy =>
  ⟨ownsRow_of_block hy.1 fun b hb=>hg.block b (Own.block hy hb).2.2 fun e=>ne_of_kinds (Lib.ownsRow_kind h1.1 b e.symm) (OwnI.kind hy b hb) (by decide),hy.2⟩
 refine ⟨fun i=>if i < k then g i else if i=k then z else g (i - 1),?_,fun i hi'=> ?_⟩
 ·rw [insP_len hk]
  refine ⟨_,ho,fun i hi' j hj=> ?_⟩
  rw [insV_at h1.len hk hj]
  unfold clF
  rw [insP_getD hk]
  by_cases e1 : i < k
  ·rw [if_pos e1,if_pos e1,hF i (by omega) j hj]
   unfold clF
   match j,hj with
   | 0,_=>simp [e1]
   | 1,_=>rfl
  ·rw [if_neg e1,if_neg e1]
   by_cases e2 : i=k
   ·rw [if_pos e2,if_pos e2]
    match j,hj with
    | 0,_=>simp [e1,e2]
    | 1,_=>rfl
   ·rw [if_neg e2,if_neg e2,hF (i - 1) (by omega) j hj]
    unfold clF
    match j,hj with
    | 0,_=>simp [e1,e2]
    | 1,_=>rfl
 ·rw [insP_len hk] at hi'
  rw [insP_getD hk]
  dsimp only
  by_cases e1 : i < k
  ·rw [if_pos e1,if_pos e1]
   exact (hrow _ _ _ _ (h2 i (by omega))).mono (Nat.le_refl _) hhi
  ·rw [if_neg e1,if_neg e1]
   by_cases e2 : i=k
   ·rw [if_pos e2,if_pos e2]
    exact (hrow _ _ _ _ hz).mono (Nat.le_refl _) hhi2
   ·rw [if_neg e2,if_neg e2]
    exact (hrow _ _ _ _ (h2 (i - 1) (by omega))).mono (Nat.le_refl _) hhi
theorem OwnP2.setN {w : World} {lo lo2 hi g0 n cap k : Nat} {cs : List Cls} (h : OwnP2 w lo lo2 hi (.slice (some ⟨g0,0,none⟩) n cap) cs) (hk : k < cs.length) (c : Int) :
 OwnP2 (w.setCell ⟨g0,k * 2+1,none⟩ (.int .i64 c)) lo lo2 hi (.slice (some ⟨g0,0,none⟩) n cap) (cs.set k ((cs.getD k clD).1,c)):=by
 obtain ⟨g,h1,h2⟩:=h
 have hsh : ∀ i,((cs.set k ((cs.getD k clD).1,c)).getD i clD)=if i=k then ((cs.getD k clD).1,c) else cs.getD i clD:=fun i=>by
  rw [List.getD_eq_getElem?_getD,List.getElem?_set]
  by_cases e : k=i
  ·subst e;simp [hk]
  ·rw [if_neg e,if_neg (fun c=>e c.symm),List.getD_eq_getElem?_getD]
 refine ⟨g,?_,fun i hi'=> ?_⟩
 ·have:=h1.set hk (show 1 < 2 by omega) (.int .i64 c)
  rw [List.length_set]
  refine this.congr fun i hi' j hj=> ?_
  unfold clF
  rw [hsh]
  match j,hj with
  | 0,_=>simp
  | 1,_ =>
    by_cases e : i=k
    ·simp [e]
    ·simp [e]
 ·rw [List.length_set] at hi'
  rw [hsh]
  have h3 : OwnI 3 w lo2 hi (g i) (if i=k then ((cs.getD k clD).1,c) else cs.getD i clD).1:=by
   by_cases e : i=k
   ·rw [if_pos e,e];exact h2 k hk
   ·rw [if_neg e];exact h2 i hi'
  exact h3.setOther (fun e=>ne_of_kinds (h1.kind g0 rfl) (OwnI.kind (h2 i hi') g0 e) (by decide)) _
theorem summed_any (v u : Value) (cs : List Cls) (s : List Int) (c : Int) (lo lo2 hi : Nat) (w : World) (h : OwnP2 w lo lo2 hi v cs) (hu : Ints w u s) (asc : AscP cs) (hl : cs.length≤1000) (hs : s.length≤1000)
 (hb : ∀ k,k < cs.length → -100000000000000000≤(cs.getD k clD).2∧(cs.getD k clD).2≤100000000000000000) (hc : -100000000000000000≤c∧c≤100000000000000000) (hlo : lo≤w.heap.size) (hlo2 : lo2≤w.heap.size) (hhi : hi≤w.heap.size) :
 Calls Tryz.prog 30 #[v,u,.int .i64 c] w fun e w'=> ∃ u',e=.returned u'∧OwnP2 w' lo lo2 w'.heap.size u' (sumdP s c cs)∧FrP lo w w'∧(∀ k,k < w.heap.size→v.ownBlock ≠ some k→w'.heap[k]?=w.heap[k]?)∧(u'.ownBlock=v.ownBlock ∨ ∃ b,u'.ownBlock=some b∧w.heap.size≤b):=by
 obtain ⟨k,hk⟩ : ∃ k,k=posP s cs:=⟨_,rfl⟩
 have hkn : k≤cs.length:=by rw [hk];exact posP_le s cs
 have HS:=Lib.hid (searchP_any v u cs s k w h.rd hu hl hkn (by rw [hk];exact posP_at s cs asc))
 by_cases hf : k < cs.length∧(cs.getD k clD).1=s
 ·have hdec : decide (k < cs.length∧cmpB (cs.getD k clD).1 s=0)=true:=decide_eq_true ⟨hf.1,(cmpB_zero _ _).2 hf.2⟩
  rw [hdec] at HS
  have hres : sumdP s c cs=cs.set k ((cs.getD k clD).1,(cs.getD k clD).2+c):=by
   unfold sumdP
   rw [← hk,if_pos hf,hf.2]
  rw [hres]
  have hg:=h
  obtain ⟨g,h1,h2⟩:=hg
  obtain ⟨p,cap,rfl,hn1,hn2,hp⟩:=h1.shape
  obtain ⟨g0,rfl,hg1,hg2,hg3⟩:=hp (by omega)
  have hcell : w.cell? ⟨g0,k * 2+1,none⟩=some (.int .i64 (cs.getD k clD).2):=h1.cell hf.1 (show 1 < 2 by omega)
  have hfz:=h1.frozen (k * 2+1)
  have hbk:=hb k hf.1
  have Hh:=Lib.hid h
  obtain ⟨c0,hc0⟩ : ∃ c0,c0=(cs.getD k clD).2:=⟨_,rfl⟩
  rw [← hc0] at hcell hbk ⊢
  have Hc0:=Lib.hid hc0
  obtain ⟨n,hn⟩ : ∃ n,n=cs.length:=⟨_,rfl⟩
  rw [← hn] at HS hn1 ⊢
  have hkn2 : k < n:=by rw [hn];exact hf.1
  have hkn3 : (k : Int) < (n : Int):=by omega
  have Hn:=Lib.hid hn
  obtain ⟨nu,ku,pu,rfl⟩ : ∃ nu ku pu,u=.slice pu nu ku:=by obtain ⟨pu,ku,e,_⟩:=hu;exact ⟨_,_,_,e⟩
  obtain ⟨c1,hc1⟩ : ∃ c1,c1=c0+c:=⟨_,rfl⟩
  have hw1 : wrap64 (c0+c)=c1:=by rw [hc1];exact w64 (by omega) (by omega)
  have hw2 : IntKind.i64.wrap (c0+c)=c1:=by rw [hc1];exact k64 (by omega) (by omega)
  rw [← hc1]
  unfold maxLen at hn2
  have Hhi:=Lib.hid hhi
  clear hlo hlo2 hhi
  clear h hu h1 h2 hp hb hf hdec hres hk hkn hc0 hn asc hc hbk hc1
  go_enter Tryz.func30,Tryz.ntmps30
  go_wp2_with fail
  refine HS.out.mono ?_
  rintro e w1 ⟨rfl,hb1⟩
  have hcell1:=cell_below hb1 hcell
  have hh1:=Hh.out.below hb1
  have hfz1 : w1.frozen? ⟨g0,k * 2+1,none⟩=false:=by
   obtain ⟨_,q1,_⟩:=hh1
   exact q1.frozen _
  clear hh1
  have Hb1:=Lib.hid hb1
  go_wp2_with fail
  go_ret
  have hh1:=Hh.out.below Hb1.out
  have q:=OwnP2.setN hh1 (k:=k) (by rw [← Hn.out];exact hkn2) c1
  have hsz : (w1.setCell ⟨g0,k * 2+1,none⟩ (.int .i64 c1)).heap.size=w1.heap.size:=size_setCell _ _ _
  have q2:=q.mono (Nat.le_refl lo) (show hi≤(w1.setCell ⟨g0,k * 2+1,none⟩ (.int .i64 c1)).heap.size by rw [hsz];exact Nat.le_trans Hhi.out Hb1.out.size)
  rw [← Hn.out] at q2
  exact ⟨_,rfl,q2,FrP.setCell (FrP.of_below Hb1.out) hh1 _,fun j hj hne=>(Below.heap_setCell w1 ⟨g0,k * 2+1,none⟩ _ j (fun e=>hne (by rw [e];rfl))).trans (Hb1.out.block j hj),.inl rfl⟩
 ·have hdec : decide (k < cs.length∧cmpB (cs.getD k clD).1 s=0)=false:=decide_eq_false fun q=>hf ⟨q.1,(cmpB_zero _ _).1 q.2⟩
  rw [hdec] at HS
  have hlp : (insP k (s,0) cs).length=cs.length+1:=insP_len hkn
  have hkp : (insP k (s,0) cs).getD k clD=(s,0):=by rw [insP_getD hkn,if_neg (Nat.lt_irrefl k),if_pos rfl]
  have hres : sumdP s c cs=(insP k (s,0) cs).set k (((insP k (s,0) cs).getD k clD).1,c):=by
   unfold sumdP
   rw [← hk,if_neg hf,hkp]
   unfold insP
   have hl2 : (cs.take k).length=k:=by simp;omega
   simp only [List.append_assoc]
   rw [List.set_append_right _ _ (by omega),hl2,Nat.sub_self]
   rfl
  rw [hres]
  obtain ⟨L,hL⟩ : ∃ L,L=insP k (s,0) cs:=⟨_,rfl⟩
  rw [← hL] at hlp hkp ⊢
  have HL:=Lib.hid hL
  have HLk:=Lib.hid hkp
  have HLl:=Lib.hid hlp
  have Hh:=Lib.hid h
  have Hu:=Lib.hid hu
  obtain ⟨p,cap,rfl,hn1,hn2⟩:=h.shape
  obtain ⟨n,hn⟩ : ∃ n,n=cs.length:=⟨_,rfl⟩
  rw [← hn] at HS hn1 Hh hkn HLl ⊢
  have Hn:=Lib.hid hn
  obtain ⟨m,hm⟩ : ∃ m,m=s.length:=⟨_,rfl⟩
  obtain ⟨pu,ku,rfl,_,_⟩:=hu
  rw [← hm] at HS Hu hs ⊢
  have Hm:=Lib.hid hm
  have hln : n≤1000:=by omega
  have hw1 : wrap64 c=c:=by exact w64 (by omega) (by omega)
  have hw2 : IntKind.i64.wrap c=c:=by exact k64 (by omega) (by omega)
  have Hlo:=Lib.hid hlo
  have Hlo2:=Lib.hid hlo2
  have Hhi:=Lib.hid hhi
  have Hkn:=Lib.hid hkn
  clear h hb hc asc hf hdec hres hk hkn hL hlp hkp hn hm hl hlo hlo2 hhi
  go_enter Tryz.func30,Tryz.ntmps30
  go_wp2_with fail
  refine HS.out.mono ?_
  rintro e w1 ⟨rfl,hb1⟩
  have Hb1:=Lib.hid hb1
  clear hb1 HS
  go_wp2_with fail
  refine (clone_any _ s _ (Hu.out.below Hb1.out) (by rw [← Hm.out];omega)).mono ?_
  rintro e w2 ⟨u2,rfl,ho2,hb2⟩
  have Hb2:=Lib.hid (Hb1.out.trans (hb2.mono Hb1.out.size))
  have Ho2:=Lib.hid ho2
  obtain ⟨p2,k2,rfl,_,_⟩:=ho2.ints
  clear ho2 hb2
  go_wp2_with fail
  have hbx:=(below_alloc w2 (.cells #[.slice p2 s.length k2,.int .i64 0] 39))
  have Hbx:=Lib.hid (Hb2.out.trans (hbx.mono Hb2.out.size))
  have hvb : (w2.alloc (.cells #[.slice p2 s.length k2,.int .i64 0] 39)).heap[w2.heap.size]?=some (.cells #[.slice p2 s.length k2,.int .i64 0] 39 (0,0)):=heap_alloc_top _ _
  obtain ⟨g,xs,h1,h1f,h2⟩ : ∃ g xs,Own (w2.alloc (.cells #[.slice p2 s.length k2,.int .i64 0] 39)) lo hi 39 2 (.slice p n cap) n xs ∧
   (∀ i,i < n → ∀ j,j < 2→xs[i * 2+j]?=some (clF cs g i j)) ∧ ∀ i,i < n→OwnI 3 (w2.alloc (.cells #[.slice p2 s.length k2,.int .i64 0] 39)) lo2 hi (g i) (cs.getD i clD).1:=by
   obtain ⟨g,⟨xs,q1,q2⟩,q3⟩:=Hh.out.below Hbx.out
   rw [← Hn.out] at q1 q2 q3
   exact ⟨g,xs,q1,q2,q3⟩
  have hox : ∀ y ∈ xs,y.oneCell'=true:=fun y hy=>by
   obtain ⟨t,ht,e⟩:=List.mem_iff_getElem.1 hy
   have hxl:=h1.len
   have:=h1f (t / 2) (by omega) (t % 2) (by omega)
   rw [show t / 2 * 2+t % 2=t by omega,List.getElem?_eq_getElem ht,e] at this
   rw [Option.some.inj this]
   exact clF_one (lo:=lo2) (hi:=hi) (w:=(w2.alloc (.cells #[.slice p2 s.length k2,.int .i64 0] 39))) (fun i hi'=>h2 i (by rw [Hn.out];exact hi')) (by rw [← Hn.out];omega) (by omega)
  refine (insert_any _ n lo hi k _ _ xs _ _ _ h1 Hkn.out (by omega) (Nat.le_trans Hlo.out Hbx.out.size) hvb (fun e=> ?_) hox rfl rfl).mono ?_
  ·have:=(h1.block e).2.1
   have:=Hhi.out
   have:=Hb2.out.size
   omega
  rintro e w4 ⟨u4,rfl,ho4,hg4,hw4⟩
  have Hgb4:=Lib.hid hg4
  have Hw4:=Lib.hid hw4
  clear hw4
  have q4 : OwnP2 w4 lo lo2 w4.heap.size u4 L:=by
   rw [HL.out]
   exact OwnP2.insert Hn.out Hkn.out h1 h1f h2 ((Ho2.out.below hbx).mono (Nat.le_trans Hlo2.out Hb1.out.size) (Nat.le_refl _)) ho4 hg4 (Nat.le_trans Hhi.out (Nat.le_trans Hbx.out.size hg4.size)) (Nat.le_trans hbx.size hg4.size)
  have Hg4:=Lib.hid ((FrP.of_below (lo:=lo) Hbx.out).trans (FrP.of_grown (Hh.out.below Hbx.out) hg4))
  have hsh : ∃ g0 cap,u4=.slice (some ⟨g0,0,none⟩) (n+1) cap∧w4.cell? ⟨g0,k * 2+1,none⟩=some (.int .i64 0)∧w4.frozen? ⟨g0,k * 2+1,none⟩=false:=by
   obtain ⟨g',q5,_⟩:=q4
   obtain ⟨p,cap,rfl,hn1,hn2,hp⟩:=q5.shape
   obtain ⟨g0,rfl,_⟩:=hp (by have:=HLl.out;omega)
   refine ⟨g0,cap,by rw [HLl.out],?_,q5.frozen _⟩
   have:=q5.cell (i:=k) (j:=1) (by have:=HLl.out;have:=Hkn.out;omega) (by omega)
   rw [this]
   show some (Value.int .i64 (L.getD k clD).2)=_
   rw [HLk.out]
  obtain ⟨g0,cap4,rfl,hcell,hfz⟩:=hsh
  have Hq4:=Lib.hid q4
  have hkn2 : (k : Int) < ((n+1 : Nat) : Int):=by have:=Hkn.out;omega
  clear hbx hvb h1 h1f h2 hox ho4 hg4 q4
  go_wp2_with fail
  go_ret
  have q:=OwnP2.setN Hq4.out (k:=k) (by rw [HLl.out];have:=Hkn.out;omega) c
  have hsz : (w4.setCell ⟨g0,k * 2+1,none⟩ (.int .i64 c)).heap.size=w4.heap.size:=size_setCell _ _ _
  have hsx : w.heap.size≤(w2.alloc (.cells #[.slice p2 s.length k2,.int .i64 0] 39)).heap.size:=Hbx.out.size
  refine ⟨_,rfl,q.mono (Nat.le_refl lo) (by rw [hsz];exact Nat.le_refl _),FrP.setCell Hg4.out Hq4.out _,fun j hj hne=> ?_,?_⟩
  ·have hj0 : j ≠ g0:=fun e=>by
    rcases Hw4.out with h | h
    ·exact hne (by rw [← h,e];rfl)
    ·have h' : g0=_:=Option.some.inj h
     omega
   exact (Below.heap_setCell w4 ⟨g0,k * 2+1,none⟩ _ j hj0).trans ((Hgb4.out.block j (by omega) fun e=>hne e.symm).trans (Hbx.out.block j hj))
  ·rcases Hw4.out with h | h
   ·exact .inl h
   ·exact .inr ⟨_,h,hsx⟩
end
end Go.Proofs.YtijadclebjcckaaGreat
