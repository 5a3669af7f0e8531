/-
  append on a slice that the call made: laws of the walk, over any program.
-/
import Derived.Test.YtajilmfaconjbaaMem
namespace Go.Proofs.Ytajilmfaconjbaa
set_option linter.all false
open Go.RowKit

section
variable {P : Program} (w : World)

/-- append of nothing: the slice as it was -/
theorem run_append_none (t ty e : TypeId) (i : TypeInfo) (ht : P.underlying t = some (.slice e)) (hi : P.info? e = some i) (p q : Option Addr) (n cap c : Nat) (hn : n ≤ cap) :
    (Builtin.append_ #[t, t] ty #[.slice p n cap, .slice q 0 c]).run P w = .ok (.slice p n cap) w := by
  cases p <;> cases q <;>
    simp [Builtin.append_, run_underlying ht, sizeOf, typeInfo, hi, Builtin.lenOf, Builtin.firstCells, hn, loadCells, loadCellsFrom, storeCells]

/-- append of some one-cell elements that can be read, on an owned slice -/
theorem run_append_F (t ty e : TypeId) (i : TypeInfo) (z : Value) (bytes : Nat) (ht : P.underlying t = some (.slice e)) (hi : P.info? e = some i) (hz : i.zero = some z)
    (hsize : i.size = 1) (hby : i.bytes = bytes) (hzs : z.cells.size = 1)
    (lo hi' : Nat) (v : Value) (n : Nat) (f : Nat → Value) (hown : OwnF w lo hi' e v n f) (hlo : lo ≤ w.heap.size) (hhi : hi' ≤ w.heap.size)
    (u : Value) (m : Nat) (g : Nat → Value) (hx : Rd w u m g) (h1 : ∀ j, j < m → (g j).oneCell' = true) (h63 : n + m ≤ maxLen) (hbytes : (n + m) * bytes ≤ 140737488355328) :
    ∃ v' w', (Builtin.append_ #[t, t] ty #[v, u]).run P w = .ok v' w' ∧ OwnF w' lo w'.heap.size e v' (n + m) (fun j => if j < n then f j else g (j - n)) ∧ w.grownBy w' v.ownBlock := by
  obtain ⟨q, c, rfl, ⟨hmc, hcm⟩, hxc⟩ := hx
  by_cases hm : m = 0
  · subst hm
    obtain ⟨p, cap, rfl, hnc, _, _⟩ := hown.shape
    exact ⟨_, _, run_append_none w t ty e i ht hi p q n cap c hnc, (hown.mono (Nat.le_refl _) hhi).congr fun j hj => by rw [if_pos (by omega)], World.grownBy.refl _ _⟩
  · obtain ⟨b, off, rfl, hc⟩ := hxc (by omega)
    obtain ⟨xs, ho, hf⟩ := hown
    obtain ⟨v', w', hr, h2, h3, _⟩ := run_append_own (P := P) w lo t ty e i z 1 bytes ht hi hz hsize hby hzs (by omega) v n xs ho.1 ⟨b, off, none⟩ m c ((List.range m).map g) (by simp)
      (fun j x hx => by
        have hj : j < m := by
          rcases Nat.lt_or_ge j m with h | h
          · exact h
          · rw [List.getElem?_eq_none (by simpa using h)] at hx; cases hx
        simp [hj] at hx
        subst hx
        have hadd : (⟨b, off, none⟩ : Addr).add j = ⟨b, off + j, none⟩ := by unfold Addr.add; split <;> simp_all
        rw [hadd]
        exact hc j hj)
      (fun x hx => by
        simp only [List.mem_map, List.mem_range] at hx
        obtain ⟨j, hj, rfl⟩ := hx
        exact h1 j hj) h63 hbytes hlo
    refine ⟨v', w', hr, ⟨_, Own.of_row h2, fun j hj => ?_⟩, h3⟩
    have hl : xs.length = n := by have := ho.len; omega
    by_cases h : j < n
    · simp only [h, if_true]
      rw [List.getElem?_append_left (by omega), hf j h]
    · simp only [h, if_false]
      rw [List.getElem?_append_right (by omega), hl]
      have : j - n < m := by omega
      simp [this]
end

/-- append on a slice without room and without elements: new memory -/
theorem run_append_fresh {P : Program} (w : World) (t ty e : TypeId) (i : TypeInfo) (z : Value) (bytes : Nat) (ht : P.underlying t = some (.slice e)) (hi : P.info? e = some i) (hz : i.zero = some z)
    (hsize : i.size = 1) (hby : i.bytes = bytes) (hzs : z.cells.size = 1) (p : Option Addr)
    (u : Value) (m : Nat) (g : Nat → Value) (hx : Rd w u m g) (h0 : 0 < m) (h63 : m ≤ maxLen) (hbytes : m * bytes ≤ 140737488355328) :
    ∃ v' w', (Builtin.append_ #[t, t] ty #[.slice p 0 0, u]).run P w = .ok v' w' ∧ OwnF w' w.heap.size w'.heap.size e v' m g ∧ Below w.heap.size w w' := by
  obtain ⟨q, c, rfl, ⟨hmc, hcm⟩, hxc⟩ := hx
  obtain ⟨b, off, rfl, hc⟩ := hxc h0
  have hge := grownCap_ge w m 0 e
  have hle := grownCap_le_maxLen w m 0 e h63
  have hnews : ∀ (j : Nat) (v : Value), ((List.range m).map g)[j]? = some v → w.cell? ((⟨b, off, none⟩ : Addr).add j) = some v := fun j x hx => by
    have hj : j < m := by
      rcases Nat.lt_or_ge j m with h | h
      · exact h
      · rw [List.getElem?_eq_none (by simpa using h)] at hx; cases hx
    simp [hj] at hx
    subst hx
    have hadd : (⟨b, off, none⟩ : Addr).add j = ⟨b, off + j, none⟩ := by unfold Addr.add; split <;> simp_all
    rw [hadd]
    exact hc j hj
  have h63' : (m : Int) ≤ 9223372036854775807 := by unfold maxLen at h63; omega
  have fin : ∀ (cur : Array Value), cur.size = grownCap w m 0 e → (∀ j, j < m → cur[j]? = some (g j)) → OwnF (w.drew.alloc (.cells cur e)) w.heap.size (w.drew.alloc (.cells cur e)).heap.size e (.slice (some ⟨w.heap.size, 0, none⟩) m (grownCap w m 0 e)) m g := by
    intro cur hs hf
    refine OwnF.mk' (F := fun j => cur.getD j undef) ⟨cur, heap_alloc_new w.drew _, hs, fun j hj => ?_⟩ (Nat.le_refl _) (by simp) hge hle fun j hj => ?_
    · simp only [Array.getD_eq_getD_getElem?]; rw [Array.getElem?_eq_getElem (by omega)]; rfl
    · simp only [Array.getD_eq_getD_getElem?]; rw [hf j hj]; rfl
  have hlt : ∀ (l : List Value) (r : Array Value) (j : Nat), l.length = m → j < m → (l.toArray ++ r)[j]? = l[j]? := by
    intro l r j hl hj
    rw [Array.getElem?_append_left (by simpa [hl] using hj)]
    simp
  cases p with
  | none =>
    have hr := run_append_nil (P := P) w t ty e i z ht hi hz ⟨b, off, none⟩ m c ((List.range m).map g) (by simp [hsize]) hnews h0 h63' (by rw [hby]; omega)
    refine ⟨_, _, hr, fin _ ?_ fun j hj => ?_, ((Below.refl _ _).drew).alloc (by simp) _⟩
    · simp only [Array.size_append, List.size_toArray, List.length_map, List.length_range, size_zeroCells, hzs]; omega
    · rw [hlt _ _ _ (by simp) hj]; simp [hj]
  | some a =>
    have hr := run_append_grow (P := P) w t ty e i z ht hi hz a 0 0 [] (by simp) (by simp) ⟨b, off, none⟩ m c ((List.range m).map g) (by simp [hsize]) hnews (by omega) (by simpa using h63') (by rw [Nat.zero_add, nextslicecap_zero h0, hby]; omega)
    simp only [Nat.zero_add] at hr
    refine ⟨_, _, hr, fin _ ?_ fun j hj => ?_, ((Below.refl _ _).drew).alloc (by simp) _⟩
    · simp only [Array.size_append, List.size_toArray, List.length_map, List.length_range, List.length_nil, size_zeroCells, hzs]; omega
    · have e1 : ([] : List Value).toArray ++ ((List.range m).map g).toArray = ((List.range m).map g).toArray := by simp
      rw [e1, hlt _ _ _ (by simp) hj]; simp [hj]

theorem wpList_append_fresh {P : Program} {w : World} {ops : Array Oper} {rest : List Oper} {o : Oper} {a : Act} {Q : Exit → Act → World → Prop} (hgd : o.guard = none) (s x : Operand) (t : TypeId)
    (ho : o.op = .call { callee := .builtin .append, args := #[s, x], argTypes := #[t, t] })
    (e : TypeId) (z : Value) (bytes : Nat) (ht : P.underlying t = some (.slice e)) (hinfo : (P.info? e).map (fun i => (i.zero, i.size, i.bytes)) = some (some z, 1, bytes)) (hzs : z.cells.size = 1)
    (p : Option Addr) (hs : a.eval s = .slice p 0 0) (u : Value) (m : Nat) (g : Nat → Value) (hxu : a.eval x = u) (hx : Rd w u m g) (h0 : 0 < m) (h63 : m ≤ maxLen) (hbytes : m * bytes ≤ 140737488355328)
    (h : ∀ v' w', OwnF w' w.heap.size w'.heap.size e v' m g → Below w.heap.size w w' → wpList P ops Q rest (a.put o.dst v') w') :
    wpList P ops Q (o :: rest) a w := by
  refine wpList_plain hgd fun K hK' => ?_
  obtain ⟨i, hi, hz, hsz, hby⟩ := info_parts hinfo
  obtain ⟨v', w', hr, h2, h3⟩ := run_append_fresh (P := P) w t o.type e i z bytes ht hi hz hsz hby hzs p u m g hx h0 h63 hbytes
  unfold Oper.wp
  simp [execOp, ho, resolve, invoke, builtin, hs, hxu, hr, Result.andThen]
  exact hK' _ _ (h v' w' h2 h3)

/-- .. as a law of the walk -/
theorem wpList_append_F {P : Program} {w : World} {ops : Array Oper} {rest : List Oper} {o : Oper} {a : Act} {Q : Exit → Act → World → Prop} (hgd : o.guard = none) (s x : Operand) (t : TypeId)
    (ho : o.op = .call { callee := .builtin .append, args := #[s, x], argTypes := #[t, t] })
    (e : TypeId) (z : Value) (bytes : Nat) (ht : P.underlying t = some (.slice e)) (hinfo : (P.info? e).map (fun i => (i.zero, i.size, i.bytes)) = some (some z, 1, bytes)) (hzs : z.cells.size = 1)
    (lo hi' : Nat) (v : Value) (n : Nat) (f : Nat → Value) (hs : a.eval s = v) (hown : OwnF w lo hi' e v n f) (hlo : lo ≤ w.heap.size) (hhi : hi' ≤ w.heap.size)
    (u : Value) (m : Nat) (g : Nat → Value) (hxu : a.eval x = u) (hx : Rd w u m g) (h1 : ∀ j, j < m → (g j).oneCell' = true) (h63 : n + m ≤ maxLen) (hbytes : (n + m) * bytes ≤ 140737488355328)
    (h : ∀ v' w', OwnF w' lo w'.heap.size e v' (n + m) (fun j => if j < n then f j else g (j - n)) → w.grownBy w' v.ownBlock → wpList P ops Q rest (a.put o.dst v') w') :
    wpList P ops Q (o :: rest) a w := by
  refine wpList_plain hgd fun K hK' => ?_
  obtain ⟨i, hi, hz, hsz, hby⟩ := info_parts hinfo
  obtain ⟨v', w', hr, h2, h3⟩ := run_append_F (P := P) w t o.type e i z bytes ht hi hz hsz hby hzs lo hi' v n f hown hlo hhi u m g hx h1 h63 hbytes
  unfold Oper.wp
  simp [execOp, ho, resolve, invoke, builtin, hs, hxu, hr, Result.andThen]
  exact hK' _ _ (h v' w' h2 h3)

theorem grownBy_below {w w' : World} {v : Value} {lo hi : Nat} (h : w.grownBy w' v.ownBlock) (hlo : ∀ k, v.ownBlock = some k → lo ≤ k ∧ k < hi) {B : Nat} (h1 : B ≤ lo) (h2 : B ≤ w.heap.size) : Below B w w' :=
  (Below.refl B w).grown h h2 (fun k hk => Nat.le_trans h1 (hlo k hk).1)
theorem OwnF.blocks {w : World} {lo hi : Nat} {T : TypeId} {v : Value} {n : Nat} {f : Nat → Value} (h : OwnF w lo hi T v n f) : ∀ k, v.ownBlock = some k → lo ≤ k ∧ k < hi := by
  obtain ⟨xs, h, _⟩ := h
  exact fun k hk => ⟨(h.block hk).1, (h.block hk).2.1⟩
/-- behind an append on v: what is owned in other blocks stays -/
theorem OwnF.grown {w w' : World} {lo hi : Nat} {T : TypeId} {v u : Value} {n : Nat} {f : Nat → Value} (h : OwnF w lo hi T v n f) (hg : w.grownBy w' u.ownBlock) (hne : ∀ k, v.ownBlock = some k → u.ownBlock ≠ some k) : OwnF w' lo hi T v n f := by
  obtain ⟨xs, h, hf⟩ := h
  exact ⟨xs, ⟨ownsRow_of_block h.1 fun k hk => hg.block k (h.block hk).2.2 fun e => hne k hk e.symm, h.2⟩, hf⟩

/-- an empty slice, nil or not -/
theorem OwnF.nil (w : World) (lo hi : Nat) (T : TypeId) (f : Nat → Value) : OwnF w lo hi T (.slice none 0 0) 0 f := ⟨[], ⟨World.ownsRow_nil _ _ _ _, fun k hk => by simp [Value.ownBlock] at hk⟩, fun j hj => absurd hj (Nat.not_lt_zero _)⟩
theorem OwnF.made0 (w : World) (T : TypeId) (f : Nat → Value) : OwnF (w.alloc (.cells #[] T)) w.heap.size (w.heap.size + 1) T (.slice (some ⟨w.heap.size, 0, none⟩) 0 0) 0 f :=
  ⟨[], ⟨World.ownsRow_made w #[] 0 (Nat.le_refl _) (Nat.zero_le _) rfl, fun k hk => by simp [Value.ownBlock] at hk; omega⟩, fun j hj => absurd hj (Nat.not_lt_zero _)⟩

/-- the one value of a new block -/
theorem rd_one (W : World) (x : Value) (T : TypeId) {b : Nat} (h : b = W.heap.size) : Rd (W.alloc (.cells #[x] T)) (.slice (some ⟨b, 0, none⟩) 1 1) 1 (fun _ => x) := by
  subst h
  refine ⟨_, 1, rfl, ⟨Nat.le_refl _, by unfold maxLen; omega⟩, fun _ => ⟨_, 0, rfl, fun j hj => ?_⟩⟩
  obtain rfl : j = 0 := by omega
  exact cell_of_blk (heap_alloc_top W _) rfl

/-! ### lists of lists -/

/-- a slice of slices of ints that reads as a list of lists -/
def RdII (w : World) (v : Value) (rows : List (List Int)) : Prop :=
  ∃ f : Nat → Value, Rd w v rows.length f ∧ ∀ i, i < rows.length → Ints w (f i) (rows.getD i [])

theorem RdII.below {w w' : World} {v : Value} {rows : List (List Int)} (h : RdII w v rows) (hb : Below w.heap.size w w') : RdII w' v rows := by
  obtain ⟨f, h1, h2⟩ := h
  exact ⟨f, h1.below hb, fun i hi => (h2 i hi).below hb⟩
theorem RdII.qt {w w' : World} {v : Value} {rows : List (List Int)} (h : RdII w v rows) (hb : Qt w w') : RdII w' v rows := h.below (hb.below _)

/-- a slice of slices of ints that a call made: Ts the slices' type, Ti the ints' -/
def OwnII (Ts Ti : TypeId) (w : World) (lo hi : Nat) (v : Value) (rows : List (List Int)) : Prop :=
  ∃ f : Nat → Value, OwnF w lo hi Ts v rows.length f ∧ (∀ i, i < rows.length → OwnI Ti w lo hi (f i) (rows.getD i [])) ∧
    ∀ i j, i < j → j < rows.length → ∀ k, (f i).ownBlock = some k → (f j).ownBlock ≠ some k

namespace OwnII
variable {Ts Ti : TypeId} {w w' : World} {lo hi : Nat} {v : Value} {rows : List (List Int)}
theorem rd (h : OwnII Ts Ti w lo hi v rows) : RdII w v rows := by
  obtain ⟨f, h1, h2, _⟩ := h
  exact ⟨f, h1.rd, fun i hi => (h2 i hi).ints⟩
theorem keep (h : OwnII Ts Ti w lo hi v rows) (hb : ∀ k, lo ≤ k → k < hi → k < w.heap.size → w'.heap[k]? = w.heap[k]?) : OwnII Ts Ti w' lo hi v rows := by
  obtain ⟨f, h1, h2, h3⟩ := h
  exact ⟨f, h1.keep hb, fun i hi => Own.keep (h2 i hi) hb, h3⟩
theorem below (h : OwnII Ts Ti w lo hi v rows) (hb : Below w.heap.size w w') : OwnII Ts Ti w' lo hi v rows := h.keep fun k _ _ h3 => hb.block k h3
theorem frm {lo' hi' : Nat} (h : OwnII Ts Ti w lo hi v rows) (hb : Frm lo' hi' w w') (ho : hi ≤ lo' ∨ hi' ≤ lo) : OwnII Ts Ti w' lo hi v rows := h.keep fun k h1 h2 h3 => hb.block k h3 (by omega)
theorem mono {lo' hi' : Nat} (h : OwnII Ts Ti w lo hi v rows) (h1 : lo' ≤ lo) (h2 : hi ≤ hi') : OwnII Ts Ti w lo' hi' v rows := by
  obtain ⟨f, g1, g2, g3⟩ := h
  exact ⟨f, g1.mono h1 h2, fun i hi => (g2 i hi).mono h1 h2, g3⟩
theorem shape (h : OwnII Ts Ti w lo hi v rows) : ∃ p cap, v = .slice p rows.length cap ∧ rows.length ≤ cap ∧ cap ≤ maxLen := by
  obtain ⟨f, h1, _⟩ := h
  obtain ⟨p, cap, e, h2, h3, _⟩ := h1.shape
  exact ⟨p, cap, e, h2, h3⟩
/-- a row of its own is put behind the others -/
theorem snoc {v' x : Value} {xs : List Int} {mid : Nat} {f : Nat → Value} (g1 : OwnF w lo mid Ts v rows.length f) (g2 : ∀ i, i < rows.length → OwnI Ti w lo mid (f i) (rows.getD i []))
    (g3 : ∀ i j, i < j → j < rows.length → ∀ k, (f i).ownBlock = some k → (f j).ownBlock ≠ some k) (hx : OwnI Ti w mid hi x xs) (hm : lo ≤ mid) (hmh : mid ≤ hi) (hT : Ts ≠ Ti)
    (hg : w.grownBy w' v.ownBlock) (hsz : hi ≤ w'.heap.size)
    (hv : OwnF w' lo w'.heap.size Ts v' (rows.length + 1) (fun j => if j < rows.length then f j else x)) : OwnII Ts Ti w' lo w'.heap.size v' (rows ++ [xs]) := by
  have hrow : ∀ (y : Value) (ys : List Int) (lo1 hi1 : Nat), OwnI Ti w lo1 hi1 y ys → OwnI Ti w' lo1 hi1 y ys := by
    intro y ys lo1 hi1 hy
    refine ⟨ownsRow_of_block hy.1 fun k hk => hg.block k (Own.block hy hk).2.2 fun e => ?_, hy.2⟩
    obtain ⟨p, cap, hp, _⟩ := g1.shape
    have hvk := e.symm
    obtain ⟨zs, hz, _⟩ := g1
    rcases Own.row hz with ⟨e1, _⟩ | ⟨g, cap', F, e1, _, _, _, _, hr, _⟩
    · rw [e1] at hvk; simp [Value.ownBlock] at hvk
    · rw [e1] at hvk
      simp only [Value.ownBlock, Option.some.injEq] at hvk
      subst hvk
      rcases Own.row hy with ⟨e2, _⟩ | ⟨g', cap2, F2, e2, _, _, _, _, hr2, _⟩
      · rw [e2] at hk; simp [Value.ownBlock] at hk
      · rw [e2] at hk
        simp only [Value.ownBlock, Option.some.injEq] at hk
        subst hk
        obtain ⟨c, hc, _⟩ := hr
        obtain ⟨c2, hc2, _⟩ := hr2
        rw [hc] at hc2
        injection hc2 with hc2
        injection hc2 with _ hc2
        exact hT hc2
  refine ⟨_, by rw [List.length_append]; exact hv, fun i hi => ?_, fun i j hij hj k hk => ?_⟩
  · rw [List.length_append] at hi
    simp only [List.length_singleton] at hi
    by_cases hlt : i < rows.length
    · have e : (rows ++ [xs]).getD i [] = rows.getD i [] := by simp [List.getD_eq_getElem?_getD, List.getElem?_append_left hlt]
      simp only [hlt, if_true]
      rw [e]
      exact (hrow _ _ _ _ (g2 i hlt)).mono (Nat.le_refl _) (by omega)
    · have e : (rows ++ [xs]).getD i [] = xs := by
        have : i = rows.length := by omega
        subst this
        simp [List.getD_eq_getElem?_getD]
      simp only [hlt, if_false]
      rw [e]
      exact (hrow _ _ _ _ hx).mono hm hsz
  · rw [List.length_append] at hj
    simp only [List.length_singleton] at hj
    by_cases hlt : j < rows.length
    · simp only [hlt, if_true]
      simp only [show i < rows.length by omega, if_true] at hk
      exact g3 i j hij hlt k hk
    · simp only [hlt, if_false]
      simp only [show i < rows.length by omega, if_true] at hk
      intro e
      have h5 := (Own.block (g2 i (by omega)) hk).2.1
      have h6 := (Own.block hx e).1
      omega
end OwnII

end Go.Proofs.Ytajilmfaconjbaa
