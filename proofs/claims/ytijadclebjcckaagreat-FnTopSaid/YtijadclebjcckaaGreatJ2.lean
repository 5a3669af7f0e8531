/-
  A part of the proof of FnTop (texts of one proof, joined).
-/
import Derived.Test.YtijadclebjcckaaGreatJ1
import Derived.Lib.OwnKind
namespace Go.Proofs.YtijadclebjcckaaGreat
set_option linter.all false
set_option maxRecDepth 100000
set_option maxHeartbeats 16000000
section
open Go.RowKit
def RdS (w : World) (size : Nat) (v : Value) (n : Nat) (F : Nat→Nat→Value) : Prop :=
 ∃ p cap,v=.slice p n cap∧(n≤cap∧cap≤maxLen)∧(0 < n → ∃ b,p=some ⟨b,0,none⟩ ∧ ∀ i,i < n → ∀ j,j < size→w.cell? ⟨b,i * size+j,none⟩=some (F i j))
theorem RdS.of_cells {w w' : World} {size : Nat} {v : Value} {n : Nat} {F : Nat→Nat→Value} (h : RdS w size v n F) (hc : ∀ a x,w.cell? a=some x→w'.cell? a=some x) : RdS w' size v n F:=by
 obtain ⟨p,cap,rfl,hm,h⟩:=h
 refine ⟨p,cap,rfl,hm,fun h0=> ?_⟩
 obtain ⟨b,hp,hx⟩:=h h0
 exact ⟨b,hp,fun i hi j hj=>hc _ _ (hx i hi j hj)⟩
theorem RdS.below {w w' : World} {size : Nat} {v : Value} {n : Nat} {F : Nat→Nat→Value} (h : RdS w size v n F) (hb : Below w.heap.size w w') : RdS w' size v n F :=
 h.of_cells fun a x hx=>by rw [hb.cell (World.block_lt_of_cell? w a hx)];exact hx
theorem RdS.qt {w w' : World} {size : Nat} {v : Value} {n : Nat} {F : Nat→Nat→Value} (h : RdS w size v n F) (q : Qt w w') : RdS w' size v n F:=h.of_cells fun _ _ hx=>q.cell hx
theorem RdS.congr {w : World} {size : Nat} {v : Value} {n : Nat} {F G : Nat→Nat→Value} (h : RdS w size v n F) (e : ∀ i,i < n → ∀ j,j < size→F i j=G i j) : RdS w size v n G:=by
 obtain ⟨p,cap,rfl,hm,h⟩:=h
 refine ⟨p,cap,rfl,hm,fun h0=> ?_⟩
 obtain ⟨b,hp,hx⟩:=h h0
 exact ⟨b,hp,fun i hi j hj=>by rw [← e i hi j hj];exact hx i hi j hj⟩
def OwnS (w : World) (lo hi : Nat) (T : TypeId) (size : Nat) (v : Value) (n : Nat) (F : Nat→Nat→Value) : Prop :=
 ∃ xs,Own w lo hi T size v n xs ∧ ∀ i,i < n → ∀ j,j < size→xs[i * size+j]?=some (F i j)
namespace OwnS
variable {w w' : World} {lo hi : Nat} {T : TypeId} {size : Nat} {v : Value} {n : Nat} {F : Nat→Nat→Value}
theorem rd (h : OwnS w lo hi T size v n F) : RdS w size v n F:=by
 obtain ⟨xs,h,hf⟩:=h
 rcases h.1.2 with ⟨rfl,e⟩ | ⟨g,cap,cur,rfl,_,_,hm,hm2,_⟩
 ·exact ⟨none,0,by rw [e],⟨by omega,Nat.zero_le _⟩,fun h0=>absurd h0 (by omega)⟩
 ·refine ⟨_,cap,rfl,⟨hm,hm2⟩,fun _=>⟨g,rfl,fun i hi j hj=> ?_⟩⟩
  have hadd : ∀ j,(⟨g,0,none⟩ : Addr).add j=⟨g,0+j,none⟩:=fun j=>by unfold Addr.add;split <;> simp_all
  have c1:=h.1.cells (g:=g) rfl _ _ (hf i hi j hj)
  rw [hadd,Nat.zero_add] at c1
  exact c1
theorem shape (h : OwnS w lo hi T size v n F) : ∃ p cap,v=.slice p n cap∧n≤cap∧cap≤maxLen∧(0 < n → ∃ g,p=some ⟨g,0,none⟩∧lo≤g∧g < hi∧g < w.heap.size):=by
 obtain ⟨xs,h,hf⟩:=h
 have hb:=fun k hk=>h.block (k:=k) hk
 rcases h.1.2 with ⟨rfl,e⟩ | ⟨g,cap,cur,rfl,_,_,hm,hm2,_⟩
 ·exact ⟨none,0,by rw [e],by omega,Nat.zero_le _,fun h0=>absurd h0 (by omega)⟩
 ·exact ⟨_,cap,rfl,hm,hm2,fun _=>⟨g,rfl,hb g rfl⟩⟩
theorem at_ {p : Option Addr} {cap : Nat} (h : OwnS w lo hi T size (.slice p n cap) n F) (h0 : 0 < n) : ∃ g,p=some ⟨g,0,none⟩∧lo≤g∧g < hi∧g < w.heap.size:=by
 obtain ⟨q,c,e,_,_,h⟩:=h.shape
 injection e with e1 e2 e3
 subst e1
 exact h h0
theorem cell {g n' cap : Nat} (h : OwnS w lo hi T size (.slice (some ⟨g,0,none⟩) n' cap) n F) {i j : Nat} (hi : i < n) (hj : j < size) : w.cell? ⟨g,i * size+j,none⟩=some (F i j):=by
 obtain ⟨p,c,e,_,h⟩:=h.rd
 injection e with e1 _ _
 obtain ⟨b,e2,h⟩:=h (by omega)
 rw [← e1] at e2
 obtain rfl : g=b:=by injection e2 with e2;injection e2
 exact h i hi j hj
theorem frozen {g n' cap : Nat} (h : OwnS w lo hi T size (.slice (some ⟨g,0,none⟩) n' cap) n F) (j : Nat) : w.frozen? ⟨g,j,none⟩=false:=by
 obtain ⟨xs,h,_⟩:=h
 rcases h.1.2 with ⟨h',_⟩ | ⟨g',cap',cur,h',_,hg,_⟩
 ·simp at h'
 ·simp only [Value.slice.injEq,Option.some.injEq,Addr.mk.injEq,and_true,true_and] at h'
  obtain ⟨rfl,_,_⟩:=h'
  exact free_of_blk hg j
theorem congr {G : Nat→Nat→Value} (h : OwnS w lo hi T size v n F) (e : ∀ i,i < n → ∀ j,j < size→F i j=G i j) : OwnS w lo hi T size v n G:=by
 obtain ⟨xs,h,hf⟩:=h
 exact ⟨xs,h,fun i hi j hj=>by rw [← e i hi j hj];exact hf i hi j hj⟩
theorem keep (h : OwnS w lo hi T size v n F) (hb : ∀ k,lo≤k→k < hi→k < w.heap.size→w'.heap[k]?=w.heap[k]?) : OwnS w' lo hi T size v n F:=by
 obtain ⟨xs,h,hf⟩:=h
 exact ⟨xs,h.keep hb,hf⟩
theorem below (h : OwnS w lo hi T size v n F) (hb : Below w.heap.size w w') : OwnS w' lo hi T size v n F:=h.keep fun k _ _ h3=>hb.block k h3
theorem frm {lo' hi' : Nat} (h : OwnS w lo hi T size v n F) (hb : Frm lo' hi' w w') (ho : hi≤lo' ∨ hi'≤lo) : OwnS w' lo hi T size v n F:=h.keep fun k h1 h2 h3=>hb.block k h3 (by omega)
theorem mono {lo' hi' : Nat} (h : OwnS w lo hi T size v n F) (h1 : lo'≤lo) (h2 : hi≤hi') : OwnS w lo' hi' T size v n F:=by
 obtain ⟨xs,h,hf⟩:=h
 exact ⟨xs,h.mono h1 h2,hf⟩
theorem besides {lo' hi' : Nat} (h : OwnS w lo hi T size v n F) (hf : Frm lo' hi' w w') (hne : ∀ b,v.ownBlock=some b→b < lo' ∨ hi'≤b) : OwnS w' lo hi T size v n F:=by
 obtain ⟨xs,h,hx⟩:=h
 exact ⟨xs,⟨ownsRow_of_block h.1 fun b hb=>hf.block b (Own.block h hb).2.2 (hne b hb),h.2⟩,hx⟩
theorem blocks (h : OwnS w lo hi T size v n F) : ∀ k,v.ownBlock=some k→lo≤k∧k < hi:=by
 obtain ⟨xs,h,_⟩:=h
 exact fun k hk=>⟨(h.block hk).1,(h.block hk).2.1⟩
theorem kind (h : OwnS w lo hi T size v n F) : ∀ g,v.ownBlock=some g → ∃ c fz,w.heap[g]?=some (.cells c T fz):=by
 obtain ⟨xs,h,_⟩:=h
 exact Lib.ownsRow_kind h.1
theorem setCell (h : OwnS w lo hi T size v n F) {a : Addr} (ho : a.block < lo ∨ hi≤a.block) (u : Value) : OwnS (w.setCell a u) lo hi T size v n F:=by
 obtain ⟨xs,h,hf⟩:=h
 exact ⟨xs,h.setCell ho u,hf⟩
theorem set {g n' cap : Nat} (h : OwnS w lo hi T size (.slice (some ⟨g,0,none⟩) n' cap) n F) {i0 j0 : Nat} (hi0 : i0 < n) (hj0 : j0 < size) (u : Value) :
 OwnS (w.setCell ⟨g,i0 * size+j0,none⟩ u) lo hi T size (.slice (some ⟨g,0,none⟩) n' cap) n (fun i j=>if i=i0∧j=j0 then u else F i j):=by
 obtain ⟨xs,h,hf⟩:=h
 have hle : ∀ i j,i < n→j < size→i * size+j < n * size:=fun i j hi hj=>by
  have : (i+1) * size≤n * size:=Nat.mul_le_mul_right _ hi
  rw [Nat.add_mul] at this;omega
 obtain ⟨q,c,e,_⟩:=(OwnS.shape ⟨xs,h,hf⟩ : _)
 have en : n'=n:=by injection e
 subst en
 refine ⟨xs.set (i0 * size+j0) u,⟨(World.ownsRow.stored h.1 _ u).1,h.2⟩,fun i hi j hj=> ?_⟩
 rw [List.getElem?_set]
 by_cases e : i=i0∧j=j0
 ·obtain ⟨rfl,rfl⟩:=e
  have hlt : i * size+j < xs.length:=by rw [h.len];exact hle _ _ hi0 hj0
  simp [hlt]
 ·show _=some (if i=i0∧j=j0 then u else F i j)
  rw [if_neg e,if_neg fun c=>e ?_]
  ·exact hf i hi j hj
  ·have h1:=Nat.mul_add_mod' i size j
   have h2:=Nat.mul_add_mod' i0 size j0
   rw [Nat.mod_eq_of_lt hj] at h1
   rw [Nat.mod_eq_of_lt hj0] at h2
   have : j=j0:=by rw [← h1,← h2,c]
   subst this
   exact ⟨Nat.eq_of_mul_eq_mul_right (by omega) (by omega : i * size=i0 * size),rfl⟩
theorem nil (w : World) (lo hi : Nat) (T : TypeId) (size : Nat) (F : Nat→Nat→Value) : OwnS w lo hi T size (.slice none 0 0) 0 F :=
 ⟨[],⟨World.ownsRow_nil _ _ _ _,fun k hk=>by simp [Value.ownBlock] at hk⟩,fun i hi=>absurd hi (Nat.not_lt_zero _)⟩
theorem made0 (w : World) (T : TypeId) (size : Nat) (F : Nat→Nat→Value) : OwnS (w.alloc (.cells #[] T)) w.heap.size (w.heap.size+1) T size (.slice (some ⟨w.heap.size,0,none⟩) 0 0) 0 F :=
 ⟨[],⟨World.ownsRow_made w #[] 0 (Nat.le_refl _) (Nat.zero_le _) (by simp),fun k hk=>by simp [Value.ownBlock] at hk;omega⟩,fun i hi=>absurd hi (Nat.not_lt_zero _)⟩
theorem grown {u : Value} (h : OwnS w lo hi T size v n F) (hg : w.grownBy w' u.ownBlock) (hne : ∀ k,v.ownBlock=some k→u.ownBlock ≠ some k) : OwnS w' lo hi T size v n F:=by
 obtain ⟨xs,h,hf⟩:=h
 exact ⟨xs,⟨ownsRow_of_block h.1 fun k hk=>hg.block k (h.block hk).2.2 fun e=>hne k hk e.symm,h.2⟩,hf⟩
end OwnS
theorem ne_of_kinds {w : World} {T U : TypeId} {g : Nat} (h1 : ∃ c fz,w.heap[g]?=some (.cells c T fz)) (h2 : ∃ c fz,w.heap[g]?=some (.cells c U fz)) (hT : T ≠ U) : False:=by
 obtain ⟨c,fz,h1⟩:=h1
 obtain ⟨c',fz',h2⟩:=h2
 rw [h1] at h2
 injection h2 with h2
 injection h2 with _ h2
 exact hT h2
theorem OwnI.kind {T : TypeId} {w : World} {lo hi : Nat} {v : Value} {xs : List Int} (h : OwnI T w lo hi v xs) : ∀ g,v.ownBlock=some g → ∃ c fz,w.heap[g]?=some (.cells c T fz):=Lib.ownsRow_kind h.1
theorem run_append_S {P : Program} {w : World} {t ty e : TypeId} {i : TypeInfo} {z : Value} {size bytes : Nat} (ht : P.underlying t=some (.slice e)) (hi : P.info? e=some i) (hz : i.zero=some z)
 (hsize : i.size=size) (hby : i.bytes=bytes) (hzs : z.cells.size=size) (h0 : 0 < size)
 (lo hi' : Nat) (v : Value) (n : Nat) (F : Nat→Nat→Value) (hown : OwnS w lo hi' e size v n F) (hlo : lo≤w.heap.size)
 (b c : Nat) (G : Nat→Value) (hc : ∀ j,j < size→w.cell? ⟨b,j,none⟩=some (G j)) (h1 : ∀ j,j < size→(G j).oneCell'=true) (h63 : n+1≤maxLen) (hbytes : (n+1) * bytes≤140737488355328) :
 ∃ v' w',(Builtin.append_ #[t,t] ty #[v,.slice (some ⟨b,0,none⟩) 1 c]).run P w=.ok v' w'∧OwnS w' lo w'.heap.size e size v' (n+1) (fun k=>if k < n then F k else G)∧w.grownBy w' v.ownBlock:=by
 obtain ⟨xs,ho,hf⟩:=hown
 have hG : ∀ (j : Nat) (u : Value),((List.range size).map G)[j]?=some u→j < size∧u=G j:=fun j u hj=>by
  have hlt : j < size:=by
   rcases Nat.lt_or_ge j size with h | h
   ·exact h
   ·rw [List.getElem?_eq_none (by simpa using h)] at hj;cases hj
  simp [hlt] at hj
  exact ⟨hlt,hj.symm⟩
 obtain ⟨v',w',hr,h2,h3,_⟩:=run_append_own (P:=P) w lo t ty e i z size bytes ht hi hz hsize hby hzs h0 v n xs ho.1 ⟨b,0,none⟩ 1 c ((List.range size).map G) (by simp)
  (fun j u hj=>by
    obtain ⟨hlt,rfl⟩:=hG j u hj
    have hadd : (⟨b,0,none⟩ : Addr).add j=⟨b,0+j,none⟩:=by unfold Addr.add;split <;> simp_all
    rw [hadd,Nat.zero_add]
    exact hc j hlt)
  (fun u hu=>by
    simp only [List.mem_map,List.mem_range] at hu
    obtain ⟨j,hj,rfl⟩:=hu
    exact h1 j hj) h63 hbytes hlo
 refine ⟨v',w',hr,⟨_,Own.of_row h2,fun i hi j hj=> ?_⟩,h3⟩
 have hl : xs.length=n * size:=ho.len
 by_cases h : i < n
 ·have hle : i * size+j < n * size:=by
   have : (i+1) * size≤n * size:=Nat.mul_le_mul_right _ h
   rw [Nat.add_mul] at this;omega
  simp only [h,if_true]
  rw [List.getElem?_append_left (by omega),hf i h j hj]
 ·have : i=n:=by omega
  subst this
  simp only [h,if_false]
  rw [List.getElem?_append_right (by omega),hl,Nat.add_sub_cancel_left]
  simp [hj]
theorem info_partsS {P : Program} {t : TypeId} {z : Value} {size bytes : Nat} (h : (P.info? t).map (fun i=>(i.zero,i.size,i.bytes))=some (some z,size,bytes)) : ∃ i,P.info? t=some i∧i.zero=some z∧i.size=size∧i.bytes=bytes:=by
 cases hi : P.info? t with
 | none=>rw [hi] at h;cases h
 | some i =>
   rw [hi] at h
   simp only [Option.map_some,Option.some.injEq,Prod.mk.injEq] at h
   exact ⟨i,rfl,h.1,h.2.1,h.2.2⟩
theorem wpList_append_S {P : Program} {w : World} {ops : Array Oper} {rest : List Oper} {o : Oper} {a : Act} {Q : Exit→Act→World→Prop} (hgd : o.guard=none) (s x : Operand) (t : TypeId)
 (ho : o.op=.call { callee:=.builtin .append,args:=#[s,x],argTypes:=#[t,t] })
 (e : TypeId) (z : Value) (size bytes : Nat) (ht : P.underlying t=some (.slice e)) (hinfo : (P.info? e).map (fun i=>(i.zero,i.size,i.bytes))=some (some z,size,bytes)) (hzs : z.cells.size=size) (h0 : 0 < size)
 (lo hi' : Nat) (v : Value) (n : Nat) (F : Nat→Nat→Value) (hs : a.eval s=v) (hown : OwnS w lo hi' e size v n F) (hlo : lo≤w.heap.size)
 (b c : Nat) (G : Nat→Value) (hxu : a.eval x=.slice (some ⟨b,0,none⟩) 1 c) (hc : ∀ j,j < size→w.cell? ⟨b,j,none⟩=some (G j)) (h1 : ∀ j,j < size→(G j).oneCell'=true) (h63 : n+1≤maxLen) (hbytes : (n+1) * bytes≤140737488355328)
 (h : ∀ v' w',OwnS w' lo w'.heap.size e size v' (n+1) (fun k=>if k < n then F k else G)→w.grownBy w' v.ownBlock→wpList P ops Q rest (a.put o.dst v') w') :
 wpList P ops Q (o :: rest) a w:=by
 refine wpList_plain hgd fun K hK'=> ?_
 obtain ⟨i,hi,hz,hsz,hby⟩:=info_partsS hinfo
 obtain ⟨v',w',hr,h2,h3⟩:=run_append_S (P:=P) (ty:=o.type) ht hi hz hsz hby hzs h0 lo hi' v n F hown hlo b c G hc h1 h63 hbytes
 unfold Oper.wp
 simp [execOp,ho,resolve,invoke,builtin,hs,hxu,hr,Result.andThen]
 exact hK' _ _ (h v' w' h2 h3)
abbrev Cls:=List Int × Int
def clD : Cls:=([],0)
def clF (cs : List Cls) (f : Nat→Value) (i j : Nat) : Value :=
 match j with
 | 0=>f i
 | _=>.int .i64 (cs.getD i clD).2
def RdCl (w : World) (v : Value) (cs : List Cls) : Prop:=∃ f,RdS w 2 v cs.length (clF cs f) ∧ ∀ i,i < cs.length→Ints w (f i) (cs.getD i clD).1
theorem RdCl.below {w w' : World} {v : Value} {cs : List Cls} (h : RdCl w v cs) (hb : Below w.heap.size w w') : RdCl w' v cs:=by
 obtain ⟨f,h1,h2⟩:=h
 exact ⟨f,h1.below hb,fun i hi=>(h2 i hi).below hb⟩
theorem RdS.two {w : World} {v : Value} {cs : List Cls} {f : Nat→Value} (h : RdS w 2 v cs.length (clF cs f)) : ∃ p cap,v=.slice p cs.length cap∧(cs.length≤cap∧cap≤maxLen) ∧
 (0 < cs.length → ∃ b,p=some ⟨b,0,none⟩ ∧ ∀ i,i < cs.length→w.cell? ⟨b,i * 2,none⟩=some (f i)∧w.cell? ⟨b,i * 2+1,none⟩=some (.int .i64 (cs.getD i clD).2)):=by
 obtain ⟨p,cap,rfl,hm,h⟩:=h
 refine ⟨p,cap,rfl,hm,fun h0=> ?_⟩
 obtain ⟨b,hp,hx⟩:=h h0
 exact ⟨b,hp,fun i hi=>⟨hx i hi 0 (by omega),hx i hi 1 (by omega)⟩⟩
def OwnCl (w : World) (lo hi : Nat) (v : Value) (cs : List Cls) : Prop :=
 ∃ g,OwnS w lo hi 74 2 v cs.length (clF cs g) ∧ ∀ i,i < cs.length→OwnI 3 w lo hi (g i) (cs.getD i clD).1
theorem OwnCl.rd {w : World} {lo hi : Nat} {v : Value} {cs : List Cls} (h : OwnCl w lo hi v cs) : RdCl w v cs:=by
 obtain ⟨g,h1,h2⟩:=h
 exact ⟨g,h1.rd,fun i hi=>(h2 i hi).ints⟩
theorem OwnCl.below {w w' : World} {lo hi : Nat} {v : Value} {cs : List Cls} (h : OwnCl w lo hi v cs) (hb : Below w.heap.size w w') : OwnCl w' lo hi v cs:=by
 obtain ⟨g,h1,h2⟩:=h
 exact ⟨g,h1.below hb,fun i hi=>(h2 i hi).below hb⟩
theorem OwnCl.mono {w : World} {lo hi lo' hi' : Nat} {v : Value} {cs : List Cls} (h : OwnCl w lo hi v cs) (a : lo'≤lo) (b : hi≤hi') : OwnCl w lo' hi' v cs:=by
 obtain ⟨g,h1,h2⟩:=h
 exact ⟨g,h1.mono a b,fun i hi=>(h2 i hi).mono a b⟩
theorem OwnCl.setCell {w : World} {lo hi : Nat} {v : Value} {cs : List Cls} (h : OwnCl w lo hi v cs) {a : Addr} (ho : a.block < lo ∨ hi≤a.block) (u : Value) : OwnCl (w.setCell a u) lo hi v cs:=by
 obtain ⟨g,h1,h2⟩:=h
 exact ⟨g,h1.setCell ho u,fun i hi=>(h2 i hi).setCell ho u⟩
theorem OwnCl.shape {w : World} {lo hi : Nat} {v : Value} {cs : List Cls} (h : OwnCl w lo hi v cs) : ∃ p cap,v=.slice p cs.length cap∧cs.length≤cap∧cap≤maxLen:=by
 obtain ⟨g,h1,_⟩:=h
 obtain ⟨p,cap,e,h2,h3,_⟩:=h1.shape
 exact ⟨p,cap,e,h2,h3⟩
def RdClA (w : World) (v : Value) (cs : List Cls) : Prop :=
 ∃ (p : Option Addr) (cap : Nat) (f : Nat→Value),v=.slice p cs.length cap∧(cs.length≤cap∧cap≤maxLen) ∧
   (0 < cs.length → ∃ b off,p=some ⟨b,off,none⟩ ∧ ∀ i,i < cs.length→w.cell? ⟨b,off+i * 2,none⟩=some (f i)∧w.cell? ⟨b,off+i * 2+1,none⟩=some (.int .i64 (cs.getD i clD).2)) ∧
   ∀ i,i < cs.length→Ints w (f i) (cs.getD i clD).1
theorem RdClA.below {w w' : World} {v : Value} {cs : List Cls} (h : RdClA w v cs) (hb : Below w.heap.size w w') : RdClA w' v cs:=by
 obtain ⟨p,cap,f,e,h1,h2,h3⟩:=h
 refine ⟨p,cap,f,e,h1,fun h0=> ?_,fun i hi=>(h3 i hi).below hb⟩
 obtain ⟨b,off,hp,hx⟩:=h2 h0
 exact ⟨b,off,hp,fun i hi=>⟨cell_below hb (hx i hi).1,cell_below hb (hx i hi).2⟩⟩
theorem blk2 {w : World} {b : Nat} {x0 x1 : Value} {T : TypeId} (h : w.heap[b]?=some (.cells #[x0,x1] T (0,0))) :
 w.cell? ⟨b,0,none⟩=some x0∧w.cell? ⟨b,1,none⟩=some x1∧(∀ j,w.frozen? ⟨b,j,none⟩=false)∧b < w.heap.size :=
 ⟨cell_of_blk h rfl,cell_of_blk h rfl,free_of_blk h,blk_lt h⟩
theorem info_cls : (Tryz.prog.info? 74).map (fun i=>(i.zero,i.size,i.bytes))=some (some (.agg #[.slice none 0 0,.int .i64 0]),2,32):=by kernel_rfl
def ltB : List Int→List Int→Bool
 | [],[]=>false
 | [],_ :: _=>true
 | _ :: _,[]=>false
 | x :: xs,y :: ys=>if x < y then true else if y < x then false else ltB xs ys
def cmpB : List Int→List Int→Int
 | [],[]=>0
 | [],_ :: _=> -1
 | _ :: _,[]=>1
 | x :: xs,y :: ys=>if x < y then -1 else if y < x then 1 else cmpB xs ys
theorem cmpB_lt : ∀ xs ys,decide (0≤cmpB xs ys) = !ltB xs ys
 | [],[]=>rfl
 | [],_ :: _=>rfl
 | _ :: _,[]=>rfl
 | x :: xs,y :: ys=>by
   unfold cmpB ltB
   by_cases h1 : x < y
   ·simp [h1]
   ·by_cases h2 : y < x
    ·simp [h1,h2]
    ·simp only [h1,h2,if_false];exact cmpB_lt xs ys
theorem cmpB_cases : ∀ xs ys,cmpB xs ys = -1 ∨ cmpB xs ys=0 ∨ cmpB xs ys=1
 | [],[]=>by simp [cmpB]
 | [],_ :: _=>by simp [cmpB]
 | _ :: _,[]=>by simp [cmpB]
 | x :: xs,y :: ys=>by
   unfold cmpB
   by_cases h1 : x < y
   ·simp [h1]
   ·by_cases h2 : y < x
    ·simp [h1,h2]
    ·simp only [h1,h2,if_false];exact cmpB_cases xs ys
theorem drop_at {xs : List Int} {k : Nat} (h : k < xs.length) : xs.drop k=xs.getD k 0 :: xs.drop (k+1):=by
 rw [List.drop_eq_getElem_cons h,List.getD_eq_getElem?_getD,List.getElem?_eq_getElem h];rfl
theorem drop_end {xs : List Int} {k : Nat} (h : xs.length≤k) : xs.drop k=[]:=List.drop_eq_nil_iff.2 h
def trimN (xs : List Int) : Nat→Nat
 | 0=>0
 | n+1=>if 1≤n∧xs.getD n 0=(n : Int) then trimN xs n else n+1
theorem trimN_le (xs : List Int) : ∀ n,trimN xs n≤n
 | 0=>Nat.le_refl _
 | n+1=>by
   unfold trimN
   split
   ·exact Nat.le_trans (trimN_le xs n) (Nat.le_succ _)
   ·exact Nat.le_refl _
def trimL (xs : List Int) : List Int:=xs.take (trimN xs xs.length)
theorem trimL_length (xs : List Int) : (trimL xs).length=trimN xs xs.length:=by
 unfold trimL;rw [List.length_take];have:=trimN_le xs xs.length;omega
theorem ints_take2 {w : World} {p : Option Addr} {cap : Nat} {xs : List Int} (h : Ints w (.slice p xs.length cap) xs) {i : Nat} (hi : i≤xs.length) : Ints w (.slice p i cap) (xs.take i):=by
 obtain ⟨q,c,e,⟨h1,h2⟩,h3⟩:=h
 injection e with e1 e2 e3
 subst e1 e3
 have hl : (xs.take i).length=i:=by rw [List.length_take];omega
 refine ⟨p,cap,by rw [hl],⟨by omega,h2⟩,fun h0=> ?_⟩
 obtain ⟨b,off,hp,hx⟩:=h3 (by omega)
 refine ⟨b,off,hp,fun j hj=> ?_⟩
 rw [hx j (by omega)]
 unfold iv
 rw [List.getD_eq_getElem?_getD,List.getD_eq_getElem?_getD,List.getElem?_take_of_lt (by omega)]
theorem isNaN_any (n : Int) (w : World) : Calls Tryz.prog 120 #[.int .i64 n] w fun e w'=>e=.returned (.bool false)∧w=w':=by
 have h : (n != n)=false:=by simp
 go_enter Tryz.func120,Tryz.ntmps120
 go_wp2
 go_ret
 exact ⟨rfl,rfl⟩
theorem cmpInt_any (a b : Int) (w : World) : Calls Tryz.prog 90 #[.int .i64 a,.int .i64 b] w fun e w'=>e=.returned (.int .i64 (if a < b then -1 else if b < a then 1 else 0))∧w=w':=by
 go_enter Tryz.func90,Tryz.ntmps90
 by_cases h1 : a < b
 ·go_wp2_with (go_at_call 120;refine (isNaN_any _ _).mono ?_;rintro e w' ⟨rfl,rfl⟩)
  go_ret
  exact ⟨ret_int (by simp [h1]),rfl⟩
 ·by_cases h2 : b < a
  ·go_wp2_with (go_at_call 120;refine (isNaN_any _ _).mono ?_;rintro e w' ⟨rfl,rfl⟩)
   go_ret
   exact ⟨ret_int (by simp [h1,h2]),rfl⟩
  ·go_wp2_with (go_at_call 120;refine (isNaN_any _ _).mono ?_;rintro e w' ⟨rfl,rfl⟩)
   go_ret
   exact ⟨ret_int (by simp [h1,h2]),rfl⟩
theorem compare_any (u v : Value) (xs ys : List Int) (w : World) (h1 : Ints w u xs) (h2 : Ints w v ys) :
 Calls Tryz.prog 56 #[u,v] w fun e w'=>e=.returned (.int .i64 (cmpB xs ys))∧w=w':=by
 obtain ⟨p,cap,rfl,⟨hx1,hx⟩,hxc⟩:=h1
 obtain ⟨q,cap',rfl,⟨hy1,hy⟩,hyc⟩:=h2
 unfold maxLen at hx hy
 have Hxc:=Lib.hid hxc
 have Hyc:=Lib.hid hyc
 clear hxc hyc
 go_enter Tryz.func56,Tryz.ntmps56
 go_wp2
 go_loop [11] (fun s=> ∃ k : Nat,k≤xs.length∧k≤ys.length∧s=.int .i64 k∧Hid (cmpB xs ys=cmpB (xs.drop k) (ys.drop k))) (fun s=>xs.length - (intOf s).toNat)
 case atStart=>exact ⟨0,Nat.zero_le _,Nat.zero_le _,rfl,rfl⟩
 case round =>
  obtain ⟨k,hk,hk2,rfl,hc⟩:=hrel
  by_cases hlt : k < xs.length
  ·have hlt1 : (k : Int) < (xs.length : Int):=by omega
   have hlt0 : (0 : Int)≤(k : Int):=by omega
   obtain ⟨b,off,rfl,hcx⟩:=Hxc.out (by omega)
   have c1:=hcx k hlt
   unfold iv at c1
   by_cases hlt2 : k < ys.length
   ·have hlt3 : ¬ (ys.length : Int)≤(k : Int):=by omega
    have hlt4 : (k : Int) < (ys.length : Int):=by omega
    obtain ⟨b',off',rfl,hcy⟩:=Hyc.out (by omega)
    have c2:=hcy k hlt2
    unfold iv at c2
    have Hd:=Lib.hid (show cmpB xs ys=if xs.getD k 0 < ys.getD k 0 then -1 else if ys.getD k 0 < xs.getD k 0 then 1 else cmpB (xs.drop (k+1)) (ys.drop (k+1)) by rw [hc.out,drop_at hlt,drop_at hlt2];rfl)
    obtain ⟨x,hx'⟩ : ∃ x,x=xs.getD k 0:=⟨_,rfl⟩
    obtain ⟨y,hy'⟩ : ∃ y,y=ys.getD k 0:=⟨_,rfl⟩
    rw [← hx',← hy'] at Hd
    rw [← hx'] at c1
    rw [← hy'] at c2
    clear hx' hy' hcx hcy hc
    go_wp2_with fail
    refine (cmpInt_any _ _ _).mono ?_
    rintro e w' ⟨rfl,rfl⟩
    by_cases h1 : x < y
    ·rw [if_pos h1]
     have Hf:=Lib.hid (show cmpB xs ys = -1 by rw [Hd.out,if_pos h1])
     go_wp2_with fail
     go_ret
     exact ⟨ret_int Hf.out.symm,rfl⟩
    ·by_cases h2 : y < x
     ·rw [if_neg h1,if_pos h2]
      have Hf:=Lib.hid (show cmpB xs ys=1 by rw [Hd.out,if_neg h1,if_pos h2])
      go_wp2_with fail
      go_ret
      exact ⟨ret_int Hf.out.symm,rfl⟩
     ·rw [if_neg h1,if_neg h2]
      have Hf:=Lib.hid (show cmpB xs ys=cmpB (xs.drop (k+1)) (ys.drop (k+1)) by rw [Hd.out,if_neg h1,if_neg h2])
      clear Hd
      go_wp2_with fail
      go_round
      case rel=>exact ⟨k+1,by omega,by omega,by go_num,Hf.out⟩
      case measure=>simp [intOf];omega
   ·obtain rfl : k=ys.length:=by omega
    have hlt3 : (ys.length : Int)≤(ys.length : Int):=by omega
    have Hf:=Lib.hid (show cmpB xs ys=1 by rw [hc.out,drop_at hlt,drop_end (Nat.le_refl _)];rfl)
    clear hc
    go_wp2_with fail
    go_ret
    exact ⟨ret_int Hf.out.symm,rfl⟩
  ·obtain rfl : k=xs.length:=by omega
   have hlt1 : ¬ (xs.length : Int) < (xs.length : Int):=by omega
   by_cases hl : xs.length < ys.length
   ·have hl2 : (xs.length : Int) < (ys.length : Int):=by omega
    have Hf:=Lib.hid (show cmpB xs ys = -1 by rw [hc.out,drop_end (Nat.le_refl _),drop_at hl];rfl)
    clear hc
    go_wp2_with fail
    go_ret
    exact ⟨ret_int Hf.out.symm,rfl⟩
   ·have hl2 : ¬ (xs.length : Int) < (ys.length : Int):=by omega
    have Hf:=Lib.hid (show cmpB xs ys=0 by rw [hc.out,drop_end (Nat.le_refl _),drop_end (by omega)];rfl)
    have hl3 : decide (xs.length < ys.length)=false:=by simp;omega
    clear hc
    go_wp2_with fail
    go_ret
    exact ⟨ret_int Hf.out.symm,rfl⟩
theorem implTrim_yes (v : Value) (xs : List Int) (w : World) (h : Ints w v xs) (hp : permOk xs=true) :
 Calls Tryz.prog 14 #[v] w (RetI w (trimL xs)):=by
 have hl : xs.length≤7:=(of_decide_eq_true hp).2.1
 have Hp:=Lib.hid hp
 clear hp
 have Hh:=Lib.hid h
 obtain ⟨p,cap,rfl,⟨hx1,hx⟩,hxc⟩:=h
 unfold maxLen at hx
 clear hxc
 go_enter Tryz.func14,Tryz.ntmps14
 go_wp2_with fail
 refine (implIsPerm_b _ xs _ Hp.out _ Hh.out).mono ?_
 rintro e w1 ⟨rfl,hb⟩
 have Hb:=Lib.hid hb
 have Hh1:=Lib.hid (Hh.out.below hb)
 clear hb
 go_wp2_with fail
 go_loop [3] (fun s=> ∃ n : Nat,n≤xs.length∧s=.int .i64 n∧Hid (trimN xs xs.length=trimN xs n)) (fun s=>(intOf s).toNat)
 case atStart=>exact ⟨xs.length,Nat.le_refl _,rfl,rfl⟩
 case round =>
  obtain ⟨n,hn,rfl,ht⟩:=hrel
  have fin : trimN xs n=n→Hid (trimN xs xs.length=n):=fun h=>by rw [Hid,ht.out,h]
  by_cases h1 : 1 < n
  ·have h2 : (1 : Int) < (n : Int):=by omega
   have i1 : (0 : Int)≤(n : Int) - 1:=by omega
   have i2 : (n : Int) - 1 < (xs.length : Int):=by omega
   have i3 : ((n : Int) - 1).toNat=n - 1:=by omega
   obtain ⟨_,_,e,_,hxc⟩:=Hh1.out
   injection e with e1 e2 e3
   subst e1 e3
   obtain ⟨b,off,rfl,hc⟩:=hxc (by omega)
   have c1:=hc (n - 1) (by omega)
   unfold iv at c1
   obtain ⟨x,hx'⟩ : ∃ x,x=xs.getD (n - 1) 0:=⟨_,rfl⟩
   rw [← hx'] at c1
   have Ht:=Lib.hid (show trimN xs n=if 1≤n - 1∧x=((n - 1 : Nat) : Int) then trimN xs (n - 1) else n by
    obtain ⟨m,rfl⟩ : ∃ m,n=m+1:=⟨n - 1,by omega⟩
    rw [hx'];rfl)
   clear hx' hxc hc
   by_cases he : x=(n : Int) - 1
   ·subst he
    have Hf:=Lib.hid (show trimN xs xs.length=trimN xs (n - 1) by rw [ht.out,Ht.out,if_pos ⟨by omega,by omega⟩])
    clear Ht ht fin
    go_wp2_with fail
    go_round
    case rel=>exact ⟨n - 1,by omega,by congr 1;omega,Hf.out⟩
    case measure=>simp [intOf];omega
   ·have hz : (x == (n : Int) - 1)=false:=by simp [he]
    have Hn:=fin (by rw [Ht.out,if_neg (by rintro ⟨_,h⟩;omega)])
    have j1 : (0 : Int)≤(n : Int):=by omega
    have j2 : (n : Int)≤(cap : Int):=by omega
    clear Ht ht fin
    go_wp2_with fail
    refine (clone_any _ (xs.take n) _ (ints_take2 Hh1.out hn) (by rw [List.length_take];omega)).mono ?_
    rintro e w2 ⟨u,rfl,ho,hb2⟩
    obtain ⟨pv,kv,rfl,_,_⟩:=ho.shape
    rw [show (xs.take n).length=n by rw [List.length_take];omega] at ho ⊢
    have Ho:=Lib.hid ho
    clear ho
    go_wp2_with fail
    go_ret
    refine ⟨_,rfl,?_,?_⟩
    ·show OwnI _ _ _ _ _ (xs.take (trimN xs xs.length))
     rw [Hn.out]
     exact Ho.out.mono Hb.out.size (Nat.le_refl _)
    ·exact Hb.out.trans (hb2.mono Hb.out.size)
  ·have h2 : ¬ (1 : Int) < (n : Int):=by omega
   have Hn:=fin (by
    match n,h1 with
    | 0,_=>rfl
    | 1,_=>rfl
    | n+2,h=>omega)
   have j1 : (0 : Int)≤(n : Int):=by omega
   have j2 : (n : Int)≤(cap : Int):=by omega
   clear ht fin
   go_wp2_with fail
   refine (clone_any _ (xs.take n) _ (ints_take2 Hh1.out hn) (by rw [List.length_take];omega)).mono ?_
   rintro e w2 ⟨u,rfl,ho,hb2⟩
   obtain ⟨pv,kv,rfl,_,_⟩:=ho.shape
   rw [show (xs.take n).length=n by rw [List.length_take];omega] at ho ⊢
   have Ho:=Lib.hid ho
   clear ho
   go_wp2_with fail
   go_ret
   refine ⟨_,rfl,?_,?_⟩
   ·show OwnI _ _ _ _ _ (xs.take (trimN xs xs.length))
    rw [Hn.out]
    exact Ho.out.mono Hb.out.size (Nat.le_refl _)
   ·exact Hb.out.trans (hb2.mono Hb.out.size)
theorem ltB_irrefl : ∀ xs,ltB xs xs=false
 | []=>rfl
 | x :: xs=>by unfold ltB;rw [if_neg (by omega),if_neg (by omega)];exact ltB_irrefl xs
theorem ltB_total : ∀ xs ys,ltB xs ys=false→ltB ys xs=false→xs=ys
 | [],[],_,_=>rfl
 | [],_ :: _,h,_=>by simp [ltB] at h
 | _ :: _,[],_,h=>by simp [ltB] at h
 | x :: xs,y :: ys,h1,h2=>by
   unfold ltB at h1 h2
   by_cases a : x < y
   ·rw [if_pos a] at h1;cases h1
   ·by_cases b : y < x
    ·rw [if_pos b] at h2;cases h2
    ·rw [if_neg a,if_neg b] at h1
     rw [if_neg b,if_neg a] at h2
     rw [ltB_total xs ys h1 h2,show x=y by omega]
theorem ltB_trans : ∀ xs ys zs,ltB xs ys=true→ltB ys zs=true→ltB xs zs=true
 | [],_,[],h1,h2=>by
   rename_i ys
   cases ys with
   | nil=>simp [ltB] at h1
   | cons y ys=>simp [ltB] at h2
 | [],_,_ :: _,_,_=>rfl
 | x :: xs,[],_,h1,_=>by simp [ltB] at h1
 | x :: xs,y :: ys,[],_,h2=>by simp [ltB] at h2
 | x :: xs,y :: ys,z :: zs,h1,h2=>by
   unfold ltB at h1 h2 ⊢
   by_cases a : x < y
   ·by_cases b : y < z
    ·rw [if_pos (by omega)]
    ·rw [if_neg b] at h2
     by_cases c : z < y
     ·rw [if_pos c] at h2;cases h2
     ·rw [if_pos (by omega)]
   ·rw [if_neg a] at h1
    by_cases a2 : y < x
    ·rw [if_pos a2] at h1;cases h1
    ·rw [if_neg a2] at h1
     by_cases b : y < z
     ·rw [if_pos (by omega)]
     ·rw [if_neg b] at h2
      by_cases c : z < y
      ·rw [if_pos c] at h2;cases h2
      ·rw [if_neg c] at h2
       rw [if_neg (by omega),if_neg (by omega)]
       exact ltB_trans xs ys zs h1 h2
theorem ltB_ntrans (xs ys zs : List Int) (h1 : ltB xs ys=false) (h2 : ltB ys zs=false) : ltB xs zs=false:=by
 cases h : ltB xs zs with
 | false=>rfl
 | true =>
   exfalso
   cases a : ltB ys xs with
   | true=>rw [ltB_trans _ _ _ a h] at h2;cases h2
   | false =>
     rw [ltB_total _ _ h1 a] at h
     rw [h] at h2;cases h2
theorem ltB_asym {xs ys : List Int} (h : ltB xs ys=true) : ltB ys xs=false:=by
 cases a : ltB ys xs with
 | false=>rfl
 | true=>have:=ltB_trans _ _ _ h a;rw [ltB_irrefl] at this;cases this
theorem cmpB_neg (xs ys : List Int) : decide (cmpB xs ys < 0)=ltB xs ys:=by
 have:=cmpB_lt xs ys
 by_cases h : 0≤cmpB xs ys
 ·rw [decide_eq_true h] at this
  rw [decide_eq_false (by omega)]
  cases hl : ltB xs ys with
  | false=>rfl
  | true=>rw [hl] at this;cases this
 ·rw [decide_eq_false h] at this
  rw [decide_eq_true (by omega)]
  cases hl : ltB xs ys with
  | false=>rw [hl] at this;cases this
  | true=>rfl
def insC (c : Cls) : List Cls→List Cls
 | []=>[c]
 | x :: l=>if ltB x.1 c.1 then x :: insC c l else c :: x :: l
def srtC (cs : List Cls) : List Cls:=cs.foldl (fun l c=>insC c l) []
theorem insC_perm (c : Cls) : ∀ l,(insC c l).Perm (c :: l)
 | []=>List.Perm.refl _
 | x :: l=>by
   rw [insC]
   split
   ·exact ((insC_perm c l).cons x).trans (List.Perm.swap c x l)
   ·exact List.Perm.refl _
theorem insC_fold_perm : ∀ (cs acc : List Cls),(cs.foldl (fun l c=>insC c l) acc).Perm (cs ++ acc)
 | [],acc=>List.Perm.refl _
 | c :: cs,acc=>by
   rw [List.foldl_cons]
   exact (insC_fold_perm cs _).trans (((insC_perm c acc).append_left cs).trans (List.perm_middle))
theorem srtC_perm (cs : List Cls) : (srtC cs).Perm cs:=by
 have:=insC_fold_perm cs []
 rw [List.append_nil] at this
 exact this
def AscC (cs : List Cls) : Prop:=cs.Pairwise fun a b=>ltB a.1 b.1=true
theorem insC_asc {c : Cls} : ∀ {l : List Cls},AscC l→(∀ x ∈ l,x.1 ≠ c.1)→AscC (insC c l)
 | [],_,_=>List.pairwise_singleton _ _
 | x :: l,h,hn=>by
   obtain ⟨h1,h2⟩:=List.pairwise_cons.1 h
   rw [insC]
   by_cases e : ltB x.1 c.1=true
   ·rw [if_pos e]
    refine List.pairwise_cons.2 ⟨fun y hy=> ?_,insC_asc h2 fun y hy=>hn y (List.mem_cons_of_mem _ hy)⟩
    rcases List.mem_cons.1 ((insC_perm c l).mem_iff.1 hy) with rfl | hy
    ·exact e
    ·exact h1 y hy
   ·rw [if_neg e]
    have e2 : ltB c.1 x.1=true:=by
     cases a : ltB c.1 x.1 with
     | true=>rfl
     | false=>exact absurd (ltB_total _ _ (by simpa using e) a) (hn x List.mem_cons_self)
    refine List.pairwise_cons.2 ⟨fun y hy=> ?_,h⟩
    rcases List.mem_cons.1 hy with rfl | hy
    ·exact e2
    ·exact ltB_trans _ _ _ e2 (h1 y hy)
theorem fold_asc : ∀ (cs acc : List Cls),AscC acc→((cs ++ acc).map (·.1)).Nodup→AscC (cs.foldl (fun l c=>insC c l) acc)
 | [],acc,h,_=>h
 | c :: cs,acc,h,hn=>by
   rw [List.foldl_cons]
   have hn':=hn
   rw [List.cons_append,List.map_cons,List.nodup_cons] at hn'
   refine fold_asc cs _ (insC_asc h fun x hx e=>hn'.1 ?_) ?_
   ·rw [← e]
    exact List.mem_map.2 ⟨x,List.mem_append_right _ hx,rfl⟩
   ·refine (List.Perm.nodup_iff ?_).2 hn
    exact (((insC_perm c acc).append_left cs).trans List.perm_middle).map _
theorem srtC_asc {cs : List Cls} (h : (cs.map (·.1)).Nodup) : AscC (srtC cs):=fold_asc cs [] List.Pairwise.nil (by rw [List.append_nil];exact h)
theorem asc_one : ∀ {a b : List Cls},AscC a→AscC b→a.Perm b→a=b
 | [],b,_,_,h=>(List.nil_perm.1 h).symm
 | x :: a,[],_,_,h=>absurd h.length_eq (by simp)
 | x :: a,y :: b,ha,hb,h=>by
   obtain ⟨a1,a2⟩:=List.pairwise_cons.1 ha
   obtain ⟨b1,b2⟩:=List.pairwise_cons.1 hb
   have hx : x ∈ y :: b:=h.mem_iff.1 List.mem_cons_self
   have hy : y ∈ x :: a:=h.mem_iff.2 List.mem_cons_self
   have e : x=y:=by
    rcases List.mem_cons.1 hx with e | hx
    ·exact e
    ·rcases List.mem_cons.1 hy with e | hy
     ·exact e.symm
     ·have c1:=b1 x hx
      have c2:=a1 y hy
      rw [ltB_asym c1] at c2;cases c2
   subst e
   rw [asc_one a2 b2 (List.Perm.cons_inv h)]
theorem srtC_eq {cs cs' : List Cls} (hn : (cs.map (·.1)).Nodup) (hp : cs'.Perm cs) (hs : cs'.Pairwise fun a b=>ltB b.1 a.1=false) : cs'=srtC cs:=by
 refine asc_one ?_ (srtC_asc hn) (hp.trans (srtC_perm cs).symm)
 have hn' : (cs'.map (·.1)).Nodup:=(List.Perm.nodup_iff (hp.map _)).2 hn
 have key : ∀ l : List Cls,(l.map (·.1)).Nodup→(l.Pairwise fun a b=>ltB b.1 a.1=false)→AscC l:=fun l=>by
  induction l with
  | nil=>exact fun _ _=>List.Pairwise.nil
  | cons x l ih =>
    intro h1 h2
    rw [List.map_cons,List.nodup_cons] at h1
    obtain ⟨p1,p2⟩:=List.pairwise_cons.1 h2
    refine List.pairwise_cons.2 ⟨fun y hy=> ?_,ih h1.2 p2⟩
    cases a : ltB x.1 y.1 with
    | true=>rfl
    | false=>exact absurd (List.mem_map.2 ⟨y,hy,ltB_total _ _ (p1 y hy) a⟩) h1.1
 exact key cs' hn' hs
def AscP (cs : List Cls) : Prop:=cs.Pairwise fun a b=>ltB a.1 b.1=true
def posP (s : List Int) : List Cls→Nat
 | []=>0
 | x :: l=>if ltB x.1 s=true then posP s l+1 else 0
theorem posP_le (s : List Int) : ∀ cs,posP s cs≤cs.length
 | []=>Nat.le_refl _
 | x :: l=>by
   unfold posP
   have:=posP_le s l
   split
   ·rw [List.length_cons];omega
   ·exact Nat.zero_le _
theorem posP_at (s : List Int) : ∀ cs,AscP cs → ∀ a,a < cs.length→ltB (cs.getD a clD).1 s=decide (a < posP s cs)
 | [],_=>fun a h=>by cases h
 | x :: l,h=>fun a ha=>by
   obtain ⟨h1,h2⟩:=List.pairwise_cons.1 h
   unfold posP
   cases e : ltB x.1 s with
   | true =>
     rw [if_pos rfl]
     cases a with
     | zero=>rw [List.getD_cons_zero,e];simp
     | succ a =>
       rw [List.getD_cons_succ,posP_at s l h2 a (by simpa using ha)]
       simp
   | false =>
     rw [if_neg (by decide)]
     have : decide (a < 0)=false:=by simp
     rw [this]
     cases a with
     | zero=>rw [List.getD_cons_zero];exact e
     | succ a =>
       rw [List.getD_cons_succ]
       have hl : a < l.length:=by simpa using ha
       have hm : l.getD a clD ∈ l:=by rw [List.getD_eq_getElem?_getD,List.getElem?_eq_getElem hl];exact List.getElem_mem hl
       cases e2 : ltB (l.getD a clD).1 s with
       | false=>rfl
       | true =>
         have:=ltB_trans _ _ _ (h1 _ hm) e2
         rw [this] at e;cases e
theorem cmpB_zero : ∀ xs ys : List Int,cmpB xs ys=0 ↔ xs=ys
 | [],[]=>by simp [cmpB]
 | [],y :: ys=>by simp [cmpB]
 | x :: xs,[]=>by simp [cmpB]
 | x :: xs,y :: ys=>by
   have ih:=cmpB_zero xs ys
   unfold cmpB
   by_cases h1 : x < y
   ·rw [if_pos h1];simp;omega
   ·rw [if_neg h1]
    by_cases h2 : y < x
    ·rw [if_pos h2];simp;omega
    ·rw [if_neg h2,ih]
     have : x=y:=by omega
     simp [this]
def sumdP (s : List Int) (c : Int) (cs : List Cls) : List Cls :=
 if posP s cs < cs.length∧(cs.getD (posP s cs) clD).1=s then cs.set (posP s cs) (s,(cs.getD (posP s cs) clD).2+c) else cs.take (posP s cs) ++ [(s,c)] ++ cs.drop (posP s cs)
def sumdL (s : List Int) (c : Int) : List Cls→List Cls
 | []=>[(s,c)]
 | x :: l=>if ltB x.1 s=true then x :: sumdL s c l else if x.1=s then (s,x.2+c) :: l else (s,c) :: x :: l
theorem sumd_same (s : List Int) (c : Int) : ∀ cs,sumdP s c cs=sumdL s c cs
 | []=>rfl
 | x :: l=>by
   have ih:=sumd_same s c l
   unfold sumdL
   cases e : ltB x.1 s with
   | true =>
     have hp : posP s (x :: l)=posP s l+1:=by rw [posP,if_pos e]
     rw [if_pos rfl,← ih]
     unfold sumdP
     rw [hp]
     simp only [List.length_cons,Nat.add_lt_add_iff_right,List.getD_cons_succ,List.set_cons_succ,List.take_succ_cons,List.drop_succ_cons,List.cons_append]
     split <;> rfl
   | false =>
     have hp : posP s (x :: l)=0:=by rw [posP,if_neg (by rw [e];decide)]
     rw [if_neg (by decide)]
     unfold sumdP
     rw [hp]
     by_cases h : x.1=s
     ·rw [if_pos ⟨by simp,by simpa using h⟩,if_pos h];rfl
     ·rw [if_neg (fun c=>h (by simpa using c.2)),if_neg h];rfl
theorem lt_or (a b : List Int) (h1 : ltB a b=false) (h2 : a ≠ b) : ltB b a=true:=by
 have h3:=cmpB_neg a b
 have h4:=cmpB_lt b a
 rcases cmpB_cases a b with h | h | h
 ·rw [h,h1] at h3;simp at h3
 ·exact absurd ((cmpB_zero a b).1 h) h2
 ·cases e : ltB b a with
  | true=>rfl
  | false =>
    exfalso
    have h5 : ∀ xs ys : List Int,cmpB xs ys=1→ltB ys xs=true:=fun xs=>by
     induction xs with
     | nil=>intro ys;cases ys <;> simp [cmpB]
     | cons x xs ih =>
       intro ys
       cases ys with
       | nil=>intro _;rfl
       | cons y ys =>
         intro h
         unfold cmpB at h
         unfold ltB
         by_cases c1 : x < y
         ·rw [if_pos c1] at h;cases h
         ·rw [if_neg c1] at h
          by_cases c2 : y < x
          ·simp [c2]
          ·rw [if_neg c2] at h
           have : x=y:=by omega
           simp [this,ih ys h]
    rw [h5 a b h] at e
    cases e
theorem grown_after {w w1 w' : World} {b : Option Nat} (hb : Below w.heap.size w w1) (hg : w1.grownBy w' b) : w.grownBy w' b :=
 ⟨hg.os.trans hb.os,hg.tape.trans hb.tape,hg.output.trans hb.output,Nat.le_trans hb.size hg.size,fun k hk hne=>(hg.block k (Nat.lt_of_lt_of_le hk hb.size) hne).trans (hb.block k hk)⟩
theorem OwnI.grownBy {Ts Ti : TypeId} {w w' : World} {lo mid lo1 hi1 n : Nat} {lv fv : Value} {f : Nat→Value} {xs : List Int} (h : OwnI Ti w lo1 hi1 fv xs) (hg : w.grownBy w' lv.ownBlock) (hl : OwnF w lo mid Ts lv n f) (hT : Ts ≠ Ti) : OwnI Ti w' lo1 hi1 fv xs :=
 ⟨ownsRow_of_block h.1 fun k hk=>hg.block k (Own.block h hk).2.2 fun e=>own_types hl h hT e.symm hk,h.2⟩
def shAt (xs : List Int) (j : Nat) : Prop:=1≤xs.getD j 0∧xs.getD j 0≤16∧(0 < j→xs.getD j 0≤xs.getD (j - 1) 0)
instance (xs : List Int) (j : Nat) : Decidable (shAt xs j):=by unfold shAt;exact inferInstance
def shOk (xs : List Int) : Bool:=decide (xs.length≤16 ∧ ∀ j,j < xs.length→shAt xs j)
theorem shOk_no {xs : List Int} {j : Nat} (hj : j < xs.length) (h : ¬ shAt xs j) : shOk xs=false:=by
 unfold shOk
 exact decide_eq_false fun e=>h (e.2 j hj)
theorem shOk_len {xs : List Int} (h : ¬ xs.length≤16) : shOk xs=false:=by
 unfold shOk
 exact decide_eq_false fun e=>h e.1
theorem shOk_yes {xs : List Int} (h : xs.length≤16) (hj : ∀ j,j < xs.length→shAt xs j) : shOk xs=true:=by
 unfold shOk
 exact decide_eq_true ⟨h,hj⟩
theorem shOk_facts {xs : List Int} (h : shOk xs=true) : xs.length≤16 ∧ ∀ j,j < xs.length→shAt xs j:=by
 unfold shOk at h
 exact of_decide_eq_true h
theorem implIsShape_any (v : Value) (xs : List Int) (w : World) (h : Ints w v xs) :
 Calls Tryz.prog 52 #[v] w fun e w'=>e=.returned (.bool (shOk xs))∧Qt w w':=by
 obtain ⟨p,cap,rfl,⟨hx1,hx2⟩,hxc⟩:=h
 unfold maxLen at hx2
 go_enter Tryz.func52,Tryz.ntmps52
 go_wp2_with fail
 go_loopg [3,4,7] xs.length (fun g s3 s4 i wr=> ∃ k : Nat,k≤xs.length∧g=xs.length - k∧i=.int .i64 k∧Qt w wr∧Hid (∀ j,j < k→shAt xs j))
 case atStart=>exact ⟨0,Nat.zero_le _,rfl,rfl,Qt.refl _,fun j hj=>absurd hj (Nat.not_lt_zero _)⟩
 case round =>
  obtain ⟨k,hk,rfl,rfl,hq,hp⟩:=hrel
  by_cases hlt : k < xs.length
  ·obtain ⟨b,off,rfl,hc⟩:=hxc (by omega)
   obtain ⟨x,hx⟩ : ∃ x,x=xs.getD k 0:=⟨_,rfl⟩
   have c1:=hq.cell (hc k hlt)
   unfold iv at c1
   rw [← hx] at c1
   have Hx:=Lib.hid hx
   have Hc:=Lib.hid hc
   clear hx hc hxc
   have hk1 : (k : Int) < (xs.length : Int):=by omega
   by_cases hx1' : x < 1
   ·go_wp2_with fail
    go_ret
    exact ⟨ret_bool (shOk_no hlt fun e=>by have:=e.1;rw [← Hx.out] at this;omega).symm,hq⟩
   by_cases hx16 : 16 < x
   ·go_wp2_with fail
    go_ret
    exact ⟨ret_bool (shOk_no hlt fun e=>by have:=e.2.1;rw [← Hx.out] at this;omega).symm,hq⟩
   by_cases hk0 : k=0
   ·subst hk0
    rw [Nat.add_zero] at c1
    go_wp2_with fail
    go_roundg (xs.length - (0+1))
    case measure=>omega
    case rel =>
     refine ⟨0+1,by omega,rfl,by go_num,hq,fun j hj=> ?_⟩
     obtain rfl : j=0:=by omega
     exact ⟨by rw [← Hx.out];omega,by rw [← Hx.out];omega,fun h=>absurd h (Nat.lt_irrefl _)⟩
   ·obtain ⟨m,hm⟩ : ∃ m,m=k - 1:=⟨_,rfl⟩
    have hkm : k=m+1:=by omega
    obtain ⟨y,hy⟩ : ∃ y,y=xs.getD m 0:=⟨_,rfl⟩
    have c2:=hq.cell (Hc.out m (by omega))
    unfold iv at c2
    rw [← hy] at c2
    have Hy:=Lib.hid hy
    have hg0 : (0 : Int) < (k : Int):=by omega
    have hm1 : m < xs.length:=by omega
    have hm2 : (m : Int) < (xs.length : Int):=by omega
    have hm3 : (0 : Int)≤(m : Int):=by omega
    have Hkm:=Lib.hid hkm
    have hw0 : (k : Int) - 1=(m : Int):=by omega
    clear hy hm hkm hk0
    by_cases hyx : y < x
    ·go_wp2_with fail
     go_ret
     refine ⟨ret_bool (shOk_no hlt fun e=> ?_).symm,hq⟩
     have:=e.2.2 (by have:=Hkm.out;omega)
     rw [← Hx.out,show k - 1=m by have:=Hkm.out;omega,← Hy.out] at this
     omega
    ·go_wp2_with fail
     go_roundg (xs.length - (k+1))
     case measure=>omega
     case rel =>
      refine ⟨k+1,by omega,rfl,by go_num,hq,fun j hj=> ?_⟩
      by_cases e : j=k
      ·subst e
       exact ⟨by rw [← Hx.out];omega,by rw [← Hx.out];omega,fun _=>by rw [← Hx.out,show j - 1=m by have:=Hkm.out;omega,← Hy.out];omega⟩
      ·exact hp.out j (by omega)
  ·by_cases hl : xs.length≤16
   ·have e1 : (xs.length : Int)≤16:=by omega
    go_wp2_with fail
    go_ret
    exact ⟨ret_bool (by rw [shOk_yes hl fun j hj=>hp.out j (by omega)]),hq⟩
   ·have e1 : ¬ (xs.length : Int)≤16:=by omega
    go_wp2_with fail
    go_ret
    exact ⟨ret_bool (by rw [shOk_len hl]),hq⟩
theorem rowOf_any (v : Value) (xs : List Int) (i : Nat) (w : World) (h : Ints w v xs) (hi : i≤1000000) :
 Calls Tryz.prog 34 #[v,.int .i64 (i : Int)] w fun e w'=>e=.returned (.int .i64 (xs.getD i 0))∧Qt w w':=by
 obtain ⟨p,cap,rfl,⟨hx1,hx2⟩,hxc⟩:=h
 unfold maxLen at hx2
 by_cases hlt : i < xs.length
 ·obtain ⟨b,off,rfl,hc⟩:=hxc (by omega)
  obtain ⟨x,hx⟩ : ∃ x,x=xs.getD i 0:=⟨_,rfl⟩
  have c1:=hc i hlt
  unfold iv at c1
  rw [← hx] at c1 ⊢
  have hi1 : (i : Int) < (xs.length : Int):=by omega
  clear hx hc hxc
  go_enter Tryz.func34,Tryz.ntmps34
  go_wp2_with fail
  go_ret
  exact ⟨rfl,Qt.refl _⟩
 ·have e : xs.getD i 0=0:=by simp [List.getD_eq_getElem?_getD,Nat.le_of_not_lt hlt]
  rw [e]
  have hi1 : ¬ (i : Int) < (xs.length : Int):=by omega
  go_enter Tryz.func34,Tryz.ntmps34
  go_wp2_with fail
  go_ret
  exact ⟨rfl,Qt.refl _⟩
def bxOk (xs : List Int) (r c : Nat) : Bool:=shOk xs && decide (xs.length≤r) && decide (xs.getD 0 0≤(c : Int) - (r : Int))
theorem bx_no1 {xs : List Int} {r c : Nat} (h : shOk xs=false) : bxOk xs r c=false:=by simp [bxOk,h]
theorem bx_no2 {xs : List Int} {r c : Nat} (h : ¬ xs.length≤r) : bxOk xs r c=false:=by simp [bxOk,h]
theorem bx_end {xs : List Int} {r c : Nat} (h : shOk xs=true) (h2 : xs.length≤r) : bxOk xs r c=decide (xs.getD 0 0≤(c : Int) - (r : Int)):=by simp only [bxOk,h,h2,decide_true,Bool.and_true,Bool.true_and]
theorem isBox_yes (r c : Nat) (w : World) (hrc : r≤c) (hc0 : 1≤c) (hc7 : c≤7) :
 Calls Tryz.prog 43 #[.int .i64 (r : Int),.int .i64 (c : Int)] w fun e w'=>e=.returned (.bool true)∧w=w':=by
 have h1 : (1 : Int)≤(c : Int):=by omega
 have h2 : (c : Int)≤7:=by omega
 have h3 : (0 : Int)≤(r : Int):=by omega
 have h4 : (r : Int)≤(c : Int):=by omega
 have hs : ∀ w,Calls Tryz.prog 80 #[.int .i64 (c : Int)] w fun e w'=>e=.returned (.bool true)∧w=w':=fun w=>by
  go_enter Tryz.func80,Tryz.ntmps80
  go_wp2_with fail
  go_ret
  exact ⟨rfl,rfl⟩
 go_enter Tryz.func43,Tryz.ntmps43
 go_wp2_with fail
 refine (hs w).mono ?_
 rintro e w1 ⟨rfl,rfl⟩
 go_wp2_with fail
 go_ret
 exact ⟨rfl,rfl⟩
theorem IsInBox_any (v : Value) (xs : List Int) (r c : Nat) (w : World) (h : Ints w v xs) (hrc : r≤c) (hc0 : 1≤c) (hc7 : c≤7) :
 Calls Tryz.prog 23 #[v,.int .i64 (r : Int),.int .i64 (c : Int)] w fun e w'=>e=.returned (.bool (bxOk xs r c))∧Qt w w':=by
 have Hd:=Lib.hid h
 obtain ⟨p,cap,rfl,⟨hx1,hx2⟩,_⟩:=h
 unfold maxLen at hx2
 cases hs : shOk xs with
 | false =>
   rw [bx_no1 hs]
   have Hs:=Lib.hid hs
   clear hs
   go_enter Tryz.func23,Tryz.ntmps23
   go_wp2_with fail
   refine (isBox_yes _ _ _ hrc hc0 hc7).mono ?_
   rintro e w1 ⟨rfl,rfl⟩
   go_wp2_with fail
   refine (implIsShape_any _ xs _ Hd.out).mono ?_
   rintro e w2 ⟨rfl,hq2⟩
   rw [Hs.out]
   go_wp2_with fail
   go_ret
   exact ⟨rfl,hq2⟩
 | true =>
 have Hs:=Lib.hid hs
 by_cases hl : xs.length≤r
 case neg =>
  rw [bx_no2 hl]
  have hl1 : ¬ (xs.length : Int)≤(r : Int):=by omega
  clear hs hl
  go_enter Tryz.func23,Tryz.ntmps23
  go_wp2_with fail
  refine (isBox_yes _ _ _ hrc hc0 hc7).mono ?_
  rintro e w1 ⟨rfl,rfl⟩
  go_wp2_with fail
  refine (implIsShape_any _ xs _ Hd.out).mono ?_
  rintro e w2 ⟨rfl,hq2⟩
  rw [Hs.out]
  go_wp2_with fail
  go_ret
  exact ⟨rfl,hq2⟩
 rw [bx_end hs hl]
 have hl1 : (xs.length : Int)≤(r : Int):=by omega
 obtain ⟨s,hs0⟩ : ∃ s,s=xs.getD 0 0:=⟨_,rfl⟩
 rw [← hs0]
 have Hs0:=Lib.hid hs0
 clear hs hl hs0
 by_cases hsc : s≤(c : Int) - (r : Int)
 ·have hd : decide (s≤(c : Int) - (r : Int))=true:=decide_eq_true hsc
  rw [hd]
  clear hd
  go_enter Tryz.func23,Tryz.ntmps23
  go_wp2_with fail
  refine (isBox_yes _ _ _ hrc hc0 hc7).mono ?_
  rintro e w1 ⟨rfl,rfl⟩
  go_wp2_with fail
  refine (implIsShape_any _ xs _ Hd.out).mono ?_
  rintro e w2 ⟨rfl,hq2⟩
  rw [Hs.out]
  go_wp2_with fail
  refine (rowOf_any _ xs 0 _ (Hd.out.qt hq2) (by omega)).mono ?_
  rintro e w3 ⟨rfl,hq3⟩
  rw [← Hs0.out]
  go_wp2_with fail
  go_ret
  exact ⟨rfl,hq2.trans hq3⟩
 ·have hd : decide (s≤(c : Int) - (r : Int))=false:=decide_eq_false hsc
  rw [hd]
  clear hd
  go_enter Tryz.func23,Tryz.ntmps23
  go_wp2_with fail
  refine (isBox_yes _ _ _ hrc hc0 hc7).mono ?_
  rintro e w1 ⟨rfl,rfl⟩
  go_wp2_with fail
  refine (implIsShape_any _ xs _ Hd.out).mono ?_
  rintro e w2 ⟨rfl,hq2⟩
  rw [Hs.out]
  go_wp2_with fail
  refine (rowOf_any _ xs 0 _ (Hd.out.qt hq2) (by omega)).mono ?_
  rintro e w3 ⟨rfl,hq3⟩
  rw [← Hs0.out]
  go_wp2_with fail
  go_ret
  exact ⟨ret_bool (decide_eq_false (by omega)),hq2.trans hq3⟩
def mxF (ms : List Mx) (f : Nat→Value) (i j : Nat) : Value :=
 match j with
 | 0=>.int .i64 (ms.getD i mxZero).P
 | 1=>.int .i64 (ms.getD i mxZero).R
 | 2=>.int .i64 (ms.getD i mxZero).C
 | _=>f i
def RdMs (w : World) (v : Value) (ms : List Mx) : Prop:=∃ f,RdS w 4 v ms.length (mxF ms f) ∧ ∀ i,i < ms.length→Ints w (f i) (ms.getD i mxZero).D
theorem RdMs.below {w w' : World} {v : Value} {ms : List Mx} (h : RdMs w v ms) (hb : Below w.heap.size w w') : RdMs w' v ms:=by
 obtain ⟨f,h1,h2⟩:=h
 exact ⟨f,h1.below hb,fun i hi=>(h2 i hi).below hb⟩
theorem RdMs.qt {w w' : World} {v : Value} {ms : List Mx} (h : RdMs w v ms) (q : Qt w w') : RdMs w' v ms:=h.below (q.below _)
namespace OwnMs
variable {w w' : World} {lo hi : Nat} {v : Value} {ms : List Mx}
end OwnMs
theorem RdS.four {w : World} {v : Value} {ms : List Mx} {f : Nat→Value} (h : RdS w 4 v ms.length (mxF ms f)) : ∃ p cap,v=.slice p ms.length cap∧(ms.length≤cap∧cap≤maxLen) ∧
 (0 < ms.length → ∃ b,p=some ⟨b,0,none⟩ ∧ ∀ i,i < ms.length→w.cell? ⟨b,i * 4,none⟩=some (.int .i64 (ms.getD i mxZero).P)∧w.cell? ⟨b,i * 4+1,none⟩=some (.int .i64 (ms.getD i mxZero).R)∧w.cell? ⟨b,i * 4+2,none⟩=some (.int .i64 (ms.getD i mxZero).C)∧w.cell? ⟨b,i * 4+3,none⟩=some (f i)):=by
 obtain ⟨p,cap,rfl,hm,h⟩:=h
 refine ⟨p,cap,rfl,hm,fun h0=> ?_⟩
 obtain ⟨b,hp,hx⟩:=h h0
 exact ⟨b,hp,fun i hi=>⟨hx i hi 0 (by omega),hx i hi 1 (by omega),hx i hi 2 (by omega),hx i hi 3 (by omega)⟩⟩
theorem index_any (v : Value) (xs : List Int) (x : Int) (w : World) (h : Ints w v xs) :
 Calls Tryz.prog 76 #[v,.int .i64 x] w fun e w'=> ∃ r : Int,e=.returned (.int .i64 r)∧(0≤r ↔ x ∈ xs) ∧ -1≤r∧Qt w w':=by
 obtain ⟨p,cap,rfl,⟨hx1,hx⟩,hxc⟩:=h
 unfold maxLen at hx
 go_enter Tryz.func76,Tryz.ntmps76
 go_wp2
 go_loopg [8] xs.length (fun g i wr=> ∃ k : Nat,k≤xs.length∧g=xs.length - k∧i=.int .i64 k∧Qt w wr∧Hid (x ∉ xs.take k))
 case atStart=>exact ⟨0,Nat.zero_le _,rfl,rfl,Qt.refl _,by simp [Hid]⟩
 case round =>
  obtain ⟨k,hk,rfl,rfl,hq,hp⟩:=hrel
  by_cases hlt : k < xs.length
  ·obtain ⟨b,off,rfl,hc⟩:=hxc (by omega)
   have c1:=hq.cell (hc k hlt)
   unfold iv at c1
   have hm:=getD_mem hlt
   generalize hy : xs.getD k 0=y at c1 hm
   have Hy:=Lib.hid hy
   have Hm:=Lib.hid hm
   clear hxc hc hy hm
   by_cases e : x=y
   ·subst e
    go_wp2
    go_ret
    exact ⟨k,rfl,⟨fun _=>Hm.out,fun _=>by omega⟩,by omega,hq⟩
   ·have he : (x == y)=false:=by simp [e]
    go_wp2
    go_roundg (xs.length - (k+1))
    case measure=>omega
    case rel =>
     refine ⟨k+1,by omega,rfl,by go_num,hq,?_⟩
     unfold Hid
     rw [List.take_add_one,List.getElem?_eq_getElem hlt]
     have h2:=Hy.out
     have h3:=hp.out
     simp only [Option.toList,List.mem_append,List.mem_singleton,not_or]
     exact ⟨h3,by rw [List.getD_eq_getElem?_getD,List.getElem?_eq_getElem hlt,Option.getD_some] at h2;rw [h2];exact e⟩
  ·go_wp2
   go_ret
   obtain rfl : k=xs.length:=by omega
   have h3:=hp.out
   rw [List.take_length] at h3
   exact ⟨-1,rfl,⟨fun h=>absurd h (by decide),fun h=>absurd h h3⟩,by omega,hq⟩
theorem contains_any (v : Value) (xs : List Int) (x : Int) (w : World) (h : Ints w v xs) :
 Calls Tryz.prog 35 #[v,.int .i64 x] w fun e w'=>e=.returned (.bool (decide (x ∈ xs)))∧Qt w w':=by
 have Hh:=Lib.hid h
 obtain ⟨p,cap,rfl,_⟩:=h
 go_enter Tryz.func35,Tryz.ntmps35
 go_wp2_with fail
 refine (index_any _ xs x _ Hh.out).mono ?_
 rintro e w1 ⟨r,rfl,hr,hr1,hq⟩
 have Hr:=Lib.hid hr
 clear hr
 go_wp2_with fail
 go_ret
 exact ⟨ret_bool (by rw [decide_eq_decide];exact Hr.out),hq⟩
theorem ints_takeP {w : World} {p : Option Addr} {cap : Nat} {xs : List Int} (h : Ints w (.slice p xs.length cap) xs) {i : Nat} (hi : i≤xs.length) : Ints w (.slice p i cap) (xs.take i):=by
 obtain ⟨q,c,e,⟨h1,h2⟩,h3⟩:=h
 injection e with e1 e2 e3
 subst e1 e3
 have hl : (xs.take i).length=i:=by rw [List.length_take];omega
 refine ⟨p,cap,by rw [hl],⟨by omega,h2⟩,fun h0=> ?_⟩
 obtain ⟨b,off,hp,hx⟩:=h3 (by omega)
 refine ⟨b,off,hp,fun j hj=> ?_⟩
 rw [hx j (by omega)]
 unfold iv
 rw [List.getD_eq_getElem?_getD,List.getD_eq_getElem?_getD,List.getElem?_take_of_lt (by omega)]
theorem run_append_make_own {P : Program} (w : World) (base : Nat) (t ti ty e : TypeId) (z : Value) (bytes : Nat) (ht : P.underlying t=some (.slice e)) (hti : P.underlying ti=some (.int .i64))
 (hinfo : (P.info? e).map (fun i=>(i.zero,i.size,i.bytes))=some (some z,1,bytes)) (hzs : z.cells.size=1) (hz1 : ∀ u ∈ z.cells.toList,u.oneCell'=true) (hb : bytes≤1000) (hb0 : 0 < bytes)
 (v : Value) (n : Nat) (xs : List Value) (hown : w.ownsRow base e 1 v n xs) (m : Nat) (hm0 : 0 < m) (hnm : n+m≤1000000) (hbase : base≤w.heap.size) :
 ∃ v' w',(Builtin.append_ #[t,ti] ty #[v,.int .i64 (m : Int)]).run P w=.ok v' w'∧w'.ownsRow base e 1 v' (n+m) (xs ++ (Builtin.zeroCells z.cells m).toList)∧w.grownBy w' v.ownBlock ∧
   (∀ b,v'.ownBlock=some b→v.ownBlock=some b ∨ w.heap.size≤b):=by
 obtain ⟨i,hi,hz,hsz,hby⟩:=info_parts hinfo
 have hlen : (xs ++ (Builtin.zeroCells z.cells m).toList).length=(n+m) * 1:=by
  rw [List.length_append,hown.1,Array.length_toList,size_zeroCells,hzs];omega
 have hzl : (Builtin.zeroCells z.cells m).toList.length=m:=by rw [Array.length_toList,size_zeroCells,hzs];omega
 have hwr : IntKind.i64.wrap (m : Int)=(m : Int):=k64 (by omega) (by omega)
 have hmb : m * bytes≤1000000 * 1000:=Nat.mul_le_mul (by omega) hb
 have h1 : ¬ ((m : Int) < 0):=by omega
 have hm : m ≠ 0:=by omega
 have h4 : ¬ (281474976710656 < (m : Int) * (i.bytes : Int)):=by
  rw [hby]
  have : ((m * bytes : Nat) : Int)=(m : Int) * (bytes : Int):=Int.natCast_mul _ _
  omega
 rcases hown.2 with ⟨rfl,rfl⟩ | ⟨g,cap,cur,rfl,hbg,hg,hnc,hcm,hcs,htake⟩
 ·have hx : xs=[]:=List.eq_nil_of_length_eq_zero (by simpa using hown.1)
  subst hx
  have hge:=grownCap_ge w m 0 e
  have hle:=grownCap_le_maxLen w m 0 e (by unfold maxLen;omega)
  have h3 : ¬ (281474976710656 < Builtin.nextslicecap m 0 * i.bytes):=by rw [nextslicecap_zero (by omega),hby];omega
  have h5 : ¬ (9223372036854775807 < (m : Int)):=by omega
  refine ⟨.slice (some ⟨w.heap.size,0,none⟩) m (grownCap w m 0 e),w.drew.alloc (.cells (Builtin.zeroCells z.cells m ++ Builtin.zeroCells z.cells (grownCap w m 0 e - m)) e),?_,?_,?_,fun b hb=>.inr ?_⟩
  ·simp [Builtin.append_,run_underlying ht,run_underlying hti,sizeOf,typeInfo,zeroValue,hi,hz,hsz,Builtin.firstCells,asInt,asIntOf,hwr,h1,h3,h4,h5,hm,Question.forced,newRow,grownCap,loadCells,loadCellsFrom]
  ·rw [Nat.zero_add] at hlen ⊢
   refine ⟨hlen,.inr ⟨w.heap.size,_,_,rfl,hbase,heap_alloc_new w.drew _,hge,hle,?_,?_⟩⟩
   ·simp only [Array.size_append,size_zeroCells,hzs];omega
   ·simp only [Array.toList_append,List.nil_append]
    rw [List.take_left' (by rw [hzl];omega)]
  ·exact ⟨rfl,rfl,rfl,by simp,fun k hk _=>heap_alloc_old w.drew _ hk⟩
  ·simp only [Value.ownBlock,Option.some.injEq] at hb;omega
 ·have hnews1 : ∀ u ∈ (Builtin.zeroCells z.cells m).toList,u.oneCell'=true:=fun u hu=>by
   rw [Array.mem_toList_iff] at hu
   simp only [Builtin.zeroCells,Array.mem_map,Array.mem_range] at hu
   obtain ⟨k,hk,rfl⟩:=hu
   rw [hzs,Nat.mod_one]
   have h0 : 0 < z.cells.size:=by omega
   rw [getElem!_pos z.cells 0 h0]
   exact hz1 _ (Array.mem_toList_iff.2 (Array.getElem_mem _))
  by_cases hroom : n+m≤cap
  ·have hfit : n * 1+(Builtin.zeroCells z.cells m).toList.length≤cur.size:=by rw [hzl,hcs];omega
   have hst:=run_storeCells_at P g (n * 1) e (Builtin.zeroCells z.cells m).toList 0 cur w hg (by simpa using hfit) hnews1
   simp only [Nat.add_zero,Nat.mul_one] at hst hfit
   refine ⟨.slice (some ⟨g,0,none⟩) (n+m) cap,w.setRow g (cur.toList.take n ++ (Builtin.zeroCells z.cells m).toList ++ cur.toList.drop (n+(Builtin.zeroCells z.cells m).toList.length)).toArray,?_,?_,?_,fun b hb=>.inl hb⟩
   ·simp [Builtin.append_,run_underlying ht,run_underlying hti,sizeOf,typeInfo,zeroValue,hi,hz,hsz,asInt,asIntOf,hwr,h1,h4,hm,hroom,Addr.add_lit,hst]
   ·refine ⟨hlen,.inr ⟨g,cap,_,rfl,hbg,setRow_heap w g cur _ e _ hg,hroom,hcm,?_,?_⟩⟩
    ·simp only [List.size_toArray,List.length_append,List.length_take,List.length_drop,Array.length_toList] at *
     omega
    ·rw [Nat.mul_one] at htake
     rw [htake,← hlen]
     exact List.take_left
   ·exact ⟨rfl,rfl,rfl,by simp,fun k _ hk=>setRow_other w g k _ (fun e=>hk (by simp [Value.ownBlock,e]))⟩
  ·have holds : ∀ j u,xs[j]?=some u→w.cell? ((⟨g,0,none⟩ : Addr).add j)=some u:=hown.cells (g:=g) rfl
   have hge:=grownCap_ge w (n+m) cap e
   have hle:=grownCap_le_maxLen w (n+m) cap e (by unfold maxLen;omega)
   have hfo:=run_firstCells_some (P:=P) w.drew 1 n ⟨g,0,none⟩ n cap xs hown.1 (by simpa using holds)
   have h3 : ¬ (281474976710656 < Builtin.nextslicecap (n+m) cap * i.bytes):=by
    have:=growslice_fits (need:=n+m) (old:=cap) (bytes:=i.bytes) (by omega) (by rw [hby];have:=Nat.mul_le_mul hnm hb;omega)
    omega
   have h5 : ¬ (9223372036854775807 < (n : Int)+(m : Int)):=by omega
   refine ⟨.slice (some ⟨w.heap.size,0,none⟩) (n+m) (grownCap w (n+m) cap e),w.drew.alloc (.cells (xs.toArray ++ Builtin.zeroCells z.cells m ++ Builtin.zeroCells z.cells (grownCap w (n+m) cap e - (n+m))) e),?_,?_,?_,fun b hb=>.inr ?_⟩
   ·simp [Builtin.append_,run_underlying ht,run_underlying hti,sizeOf,typeInfo,zeroValue,hi,hz,hsz,asInt,asIntOf,hwr,h1,h3,h4,h5,hm,hroom,Question.forced,hfo,newRow,grownCap]
   ·refine ⟨hlen,.inr ⟨w.heap.size,_,_,rfl,hbase,heap_alloc_new w.drew _,hge,hle,?_,?_⟩⟩
    ·have:=hown.1
     simp only [Array.size_append,List.size_toArray,size_zeroCells,hzs];omega
    ·simp only [Array.toList_append,List.append_assoc]
     rw [← List.append_assoc,← hlen]
     exact List.take_left
   ·exact ⟨rfl,rfl,rfl,by simp,fun k hk _=>heap_alloc_old w.drew _ hk⟩
   ·simp only [Value.ownBlock,Option.some.injEq] at hb;omega
theorem zeroCells_get {z : Value} (hzs : z.cells.size=1) {m j : Nat} (hj : j < m) : (Builtin.zeroCells z.cells m).toList[j]?=some (z.cells[0]!):=by
 simp [Builtin.zeroCells,hzs,hj,Nat.mod_one]
theorem run_append_make_F {P : Program} (w : World) (t ti ty e : TypeId) (z : Value) (bytes : Nat) (ht : P.underlying t=some (.slice e)) (hti : P.underlying ti=some (.int .i64))
 (hinfo : (P.info? e).map (fun i=>(i.zero,i.size,i.bytes))=some (some z,1,bytes)) (hzs : z.cells.size=1) (hz1 : ∀ u ∈ z.cells.toList,u.oneCell'=true) (hb : bytes≤1000) (hb0 : 0 < bytes)
 (lo hi' : Nat) (v : Value) (n : Nat) (f : Nat→Value) (hown : OwnF w lo hi' e v n f) (hlo : lo≤w.heap.size) (hhi : hi'≤w.heap.size) (m : Nat) (hm0 : 0 < m) (hnm : n+m≤1000000) :
 ∃ v' w',(Builtin.append_ #[t,ti] ty #[v,.int .i64 (m : Int)]).run P w=.ok v' w'∧OwnF w' lo w'.heap.size e v' (n+m) (fun j=>if j < n then f j else z.cells[0]!)∧w.grownBy w' v.ownBlock ∧
   (∀ b,v'.ownBlock=some b→v.ownBlock=some b ∨ w.heap.size≤b):=by
 obtain ⟨xs,ho,hf⟩:=hown
 obtain ⟨v',w',hr,h2,h3,h4⟩:=run_append_make_own (P:=P) w lo t ti ty e z bytes ht hti hinfo hzs hz1 hb hb0 v n xs ho.1 m hm0 hnm hlo
 refine ⟨v',w',hr,⟨_,Own.of_row h2,fun j hj=> ?_⟩,h3,h4⟩
 have hl : xs.length=n:=by have:=ho.len;omega
 by_cases h : j < n
 ·simp only [h,if_true]
  rw [List.getElem?_append_left (by omega),hf j h]
 ·simp only [h,if_false]
  rw [List.getElem?_append_right (by omega),hl]
  exact zeroCells_get hzs (by omega)
end
end Go.Proofs.YtijadclebjcckaaGreat
