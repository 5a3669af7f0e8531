/-
  Slices of structs, any number of one-cell fields an element: over any program.
-/
import Derived.Test.YtejoapielndnnaaStep
import Derived.Lib.OwnKind
namespace Go.Proofs.Ytejoapielndnnaa
set_option linter.all false
open Go.RowKit

/-- a slice that can be read: n elements of so many cells each -/
def RdS (w : World) (size : Nat) (v : Value) (n : Nat) (F : Nat → Nat → Value) : Prop :=
  ∃ p cap, v = .slice p n cap ∧ (n ≤ cap ∧ cap ≤ maxLen) ∧ (0 < n → ∃ b, p = some ⟨b, 0, none⟩ ∧ ∀ i, i < n → ∀ j, j < size → w.cell? ⟨b, i * size + j, none⟩ = some (F i j))
theorem RdS.of_cells {w w' : World} {size : Nat} {v : Value} {n : Nat} {F : Nat → Nat → Value} (h : RdS w size v n F) (hc : ∀ a x, w.cell? a = some x → w'.cell? a = some x) : RdS w' size v n F := by
  obtain ⟨p, cap, rfl, hm, h⟩ := h
  refine ⟨p, cap, rfl, hm, fun h0 => ?_⟩
  obtain ⟨b, hp, hx⟩ := h h0
  exact ⟨b, hp, fun i hi j hj => hc _ _ (hx i hi j hj)⟩
theorem RdS.below {w w' : World} {size : Nat} {v : Value} {n : Nat} {F : Nat → Nat → Value} (h : RdS w size v n F) (hb : Below w.heap.size w w') : RdS w' size v n F :=
  h.of_cells fun a x hx => by rw [hb.cell (World.block_lt_of_cell? w a hx)]; exact hx
theorem RdS.qt {w w' : World} {size : Nat} {v : Value} {n : Nat} {F : Nat → Nat → Value} (h : RdS w size v n F) (q : Qt w w') : RdS w' size v n F := h.of_cells fun _ _ hx => q.cell hx
theorem RdS.congr {w : World} {size : Nat} {v : Value} {n : Nat} {F G : Nat → Nat → Value} (h : RdS w size v n F) (e : ∀ i, i < n → ∀ j, j < size → F i j = G i j) : RdS w size v n G := by
  obtain ⟨p, cap, rfl, hm, h⟩ := h
  refine ⟨p, cap, rfl, hm, fun h0 => ?_⟩
  obtain ⟨b, hp, hx⟩ := h h0
  exact ⟨b, hp, fun i hi j hj => by rw [← e i hi j hj]; exact hx i hi j hj⟩

/-- a slice of structs that a call made -/
def OwnS (w : World) (lo hi : Nat) (T : TypeId) (size : Nat) (v : Value) (n : Nat) (F : Nat → Nat → Value) : Prop :=
  ∃ xs, Own w lo hi T size v n xs ∧ ∀ i, i < n → ∀ j, j < size → xs[i * size + j]? = some (F i j)

namespace OwnS
variable {w w' : World} {lo hi : Nat} {T : TypeId} {size : Nat} {v : Value} {n : Nat} {F : Nat → Nat → Value}
theorem rd (h : OwnS w lo hi T size v n F) : RdS w size v n F := by
  obtain ⟨xs, h, hf⟩ := h
  rcases h.1.2 with ⟨rfl, e⟩ | ⟨g, cap, cur, rfl, _, _, hm, hm2, _⟩
  · exact ⟨none, 0, by rw [e], ⟨by omega, Nat.zero_le _⟩, fun h0 => absurd h0 (by omega)⟩
  · refine ⟨_, cap, rfl, ⟨hm, hm2⟩, fun _ => ⟨g, rfl, fun i hi j hj => ?_⟩⟩
    have hadd : ∀ j, (⟨g, 0, none⟩ : Addr).add j = ⟨g, 0 + j, none⟩ := fun j => by unfold Addr.add; split <;> simp_all
    have c1 := h.1.cells (g := g) rfl _ _ (hf i hi j hj)
    rw [hadd, Nat.zero_add] at c1
    exact c1
theorem shape (h : OwnS w lo hi T size v n F) : ∃ p cap, v = .slice p n cap ∧ n ≤ cap ∧ cap ≤ maxLen ∧ (0 < n → ∃ g, p = some ⟨g, 0, none⟩ ∧ lo ≤ g ∧ g < hi ∧ g < w.heap.size) := by
  obtain ⟨xs, h, hf⟩ := h
  have hb := fun k hk => h.block (k := k) hk
  rcases h.1.2 with ⟨rfl, e⟩ | ⟨g, cap, cur, rfl, _, _, hm, hm2, _⟩
  · exact ⟨none, 0, by rw [e], by omega, Nat.zero_le _, fun h0 => absurd h0 (by omega)⟩
  · exact ⟨_, cap, rfl, hm, hm2, fun _ => ⟨g, rfl, hb g rfl⟩⟩
theorem at_ {p : Option Addr} {cap : Nat} (h : OwnS w lo hi T size (.slice p n cap) n F) (h0 : 0 < n) : ∃ g, p = some ⟨g, 0, none⟩ ∧ lo ≤ g ∧ g < hi ∧ g < w.heap.size := by
  obtain ⟨q, c, e, _, _, h⟩ := h.shape
  injection e with e1 e2 e3
  subst e1
  exact h h0
theorem cell {g n' cap : Nat} (h : OwnS w lo hi T size (.slice (some ⟨g, 0, none⟩) n' cap) n F) {i j : Nat} (hi : i < n) (hj : j < size) : w.cell? ⟨g, i * size + j, none⟩ = some (F i j) := by
  obtain ⟨p, c, e, _, h⟩ := h.rd
  injection e with e1 _ _
  obtain ⟨b, e2, h⟩ := h (by omega)
  rw [← e1] at e2
  obtain rfl : g = b := by injection e2 with e2; injection e2
  exact h i hi j hj
theorem frozen {g n' cap : Nat} (h : OwnS w lo hi T size (.slice (some ⟨g, 0, none⟩) n' cap) n F) (j : Nat) : w.frozen? ⟨g, j, none⟩ = false := by
  obtain ⟨xs, h, _⟩ := h
  rcases h.1.2 with ⟨h', _⟩ | ⟨g', cap', cur, h', _, hg, _⟩
  · simp at h'
  · simp only [Value.slice.injEq, Option.some.injEq, Addr.mk.injEq, and_true, true_and] at h'
    obtain ⟨rfl, _, _⟩ := h'
    exact free_of_blk hg j
theorem congr {G : Nat → Nat → Value} (h : OwnS w lo hi T size v n F) (e : ∀ i, i < n → ∀ j, j < size → F i j = G i j) : OwnS w lo hi T size v n G := by
  obtain ⟨xs, h, hf⟩ := h
  exact ⟨xs, h, fun i hi j hj => by rw [← e i hi j hj]; exact hf i hi j hj⟩
theorem keep (h : OwnS w lo hi T size v n F) (hb : ∀ k, lo ≤ k → k < hi → k < w.heap.size → w'.heap[k]? = w.heap[k]?) : OwnS w' lo hi T size v n F := by
  obtain ⟨xs, h, hf⟩ := h
  exact ⟨xs, h.keep hb, hf⟩
theorem below (h : OwnS w lo hi T size v n F) (hb : Below w.heap.size w w') : OwnS w' lo hi T size v n F := h.keep fun k _ _ h3 => hb.block k h3
theorem frm {lo' hi' : Nat} (h : OwnS w lo hi T size v n F) (hb : Frm lo' hi' w w') (ho : hi ≤ lo' ∨ hi' ≤ lo) : OwnS w' lo hi T size v n F := h.keep fun k h1 h2 h3 => hb.block k h3 (by omega)
theorem mono {lo' hi' : Nat} (h : OwnS w lo hi T size v n F) (h1 : lo' ≤ lo) (h2 : hi ≤ hi') : OwnS w lo' hi' T size v n F := by
  obtain ⟨xs, h, hf⟩ := h
  exact ⟨xs, h.mono h1 h2, hf⟩
theorem besides {lo' hi' : Nat} (h : OwnS w lo hi T size v n F) (hf : Frm lo' hi' w w') (hne : ∀ b, v.ownBlock = some b → b < lo' ∨ hi' ≤ b) : OwnS w' lo hi T size v n F := by
  obtain ⟨xs, h, hx⟩ := h
  exact ⟨xs, ⟨ownsRow_of_block h.1 fun b hb => hf.block b (Own.block h hb).2.2 (hne b hb), h.2⟩, hx⟩
theorem blocks (h : OwnS w lo hi T size v n F) : ∀ k, v.ownBlock = some k → lo ≤ k ∧ k < hi := by
  obtain ⟨xs, h, _⟩ := h
  exact fun k hk => ⟨(h.block hk).1, (h.block hk).2.1⟩
theorem kind (h : OwnS w lo hi T size v n F) : ∀ g, v.ownBlock = some g → ∃ c fz, w.heap[g]? = some (.cells c T fz) := by
  obtain ⟨xs, h, _⟩ := h
  exact Lib.ownsRow_kind h.1
theorem setCell (h : OwnS w lo hi T size v n F) {a : Addr} (ho : a.block < lo ∨ hi ≤ a.block) (u : Value) : OwnS (w.setCell a u) lo hi T size v n F := by
  obtain ⟨xs, h, hf⟩ := h
  exact ⟨xs, h.setCell ho u, hf⟩
/-- a field of an element is written -/
theorem set {g n' cap : Nat} (h : OwnS w lo hi T size (.slice (some ⟨g, 0, none⟩) n' cap) n F) {i0 j0 : Nat} (hi0 : i0 < n) (hj0 : j0 < size) (u : Value) :
    OwnS (w.setCell ⟨g, i0 * size + j0, none⟩ u) lo hi T size (.slice (some ⟨g, 0, none⟩) n' cap) n (fun i j => if i = i0 ∧ j = j0 then u else F i j) := by
  obtain ⟨xs, h, hf⟩ := h
  have hle : ∀ i j, i < n → j < size → i * size + j < n * size := fun i j hi hj => by
    have : (i + 1) * size ≤ n * size := Nat.mul_le_mul_right _ hi
    rw [Nat.add_mul] at this; omega
  obtain ⟨q, c, e, _⟩ := (OwnS.shape ⟨xs, h, hf⟩ : _)
  have en : n' = n := by injection e
  subst en
  refine ⟨xs.set (i0 * size + j0) u, ⟨(World.ownsRow.stored h.1 _ u).1, h.2⟩, fun i hi j hj => ?_⟩
  rw [List.getElem?_set]
  by_cases e : i = i0 ∧ j = j0
  · obtain ⟨rfl, rfl⟩ := e
    have hlt : i * size + j < xs.length := by rw [h.len]; exact hle _ _ hi0 hj0
    simp [hlt]
  · show _ = some (if i = i0 ∧ j = j0 then u else F i j)
    rw [if_neg e, if_neg fun c => e ?_]
    · exact hf i hi j hj
    · have h1 := Nat.mul_add_mod' i size j
      have h2 := Nat.mul_add_mod' i0 size j0
      rw [Nat.mod_eq_of_lt hj] at h1
      rw [Nat.mod_eq_of_lt hj0] at h2
      have : j = j0 := by rw [← h1, ← h2, c]
      subst this
      exact ⟨Nat.eq_of_mul_eq_mul_right (by omega) (by omega : i * size = i0 * size), rfl⟩
theorem nil (w : World) (lo hi : Nat) (T : TypeId) (size : Nat) (F : Nat → Nat → Value) : OwnS w lo hi T size (.slice none 0 0) 0 F :=
  ⟨[], ⟨World.ownsRow_nil _ _ _ _, fun k hk => by simp [Value.ownBlock] at hk⟩, fun i hi => absurd hi (Nat.not_lt_zero _)⟩
theorem made0 (w : World) (T : TypeId) (size : Nat) (F : Nat → Nat → Value) : OwnS (w.alloc (.cells #[] T)) w.heap.size (w.heap.size + 1) T size (.slice (some ⟨w.heap.size, 0, none⟩) 0 0) 0 F :=
  ⟨[], ⟨World.ownsRow_made w #[] 0 (Nat.le_refl _) (Nat.zero_le _) (by simp), fun k hk => by simp [Value.ownBlock] at hk; omega⟩, fun i hi => absurd hi (Nat.not_lt_zero _)⟩
/-- behind an append on u: what is owned in other blocks stays -/
theorem grown {u : Value} (h : OwnS w lo hi T size v n F) (hg : w.grownBy w' u.ownBlock) (hne : ∀ k, v.ownBlock = some k → u.ownBlock ≠ some k) : OwnS w' lo hi T size v n F := by
  obtain ⟨xs, h, hf⟩ := h
  exact ⟨xs, ⟨ownsRow_of_block h.1 fun k hk => hg.block k (h.block hk).2.2 fun e => hne k hk e.symm, h.2⟩, hf⟩
end OwnS

theorem ne_of_kinds {w : World} {T U : TypeId} {g : Nat} (h1 : ∃ c fz, w.heap[g]? = some (.cells c T fz)) (h2 : ∃ c fz, w.heap[g]? = some (.cells c U fz)) (hT : T ≠ U) : False := by
  obtain ⟨c, fz, h1⟩ := h1
  obtain ⟨c', fz', h2⟩ := h2
  rw [h1] at h2
  injection h2 with h2
  injection h2 with _ h2
  exact hT h2
theorem OwnI.kind {T : TypeId} {w : World} {lo hi : Nat} {v : Value} {xs : List Int} (h : OwnI T w lo hi v xs) : ∀ g, v.ownBlock = some g → ∃ c fz, w.heap[g]? = some (.cells c T fz) := Lib.ownsRow_kind h.1

/-- append of one struct onto structs of the call's own -/
theorem run_append_S {P : Program} {w : World} {t ty e : TypeId} {i : TypeInfo} {z : Value} {size bytes : Nat} (ht : P.underlying t = some (.slice e)) (hi : P.info? e = some i) (hz : i.zero = some z)
    (hsize : i.size = size) (hby : i.bytes = bytes) (hzs : z.cells.size = size) (h0 : 0 < size)
    (lo hi' : Nat) (v : Value) (n : Nat) (F : Nat → Nat → Value) (hown : OwnS w lo hi' e size v n F) (hlo : lo ≤ w.heap.size)
    (b c : Nat) (G : Nat → Value) (hc : ∀ j, j < size → w.cell? ⟨b, j, none⟩ = some (G j)) (h1 : ∀ j, j < size → (G j).oneCell' = true) (h63 : n + 1 ≤ maxLen) (hbytes : (n + 1) * bytes ≤ 140737488355328) :
    ∃ v' w', (Builtin.append_ #[t, t] ty #[v, .slice (some ⟨b, 0, none⟩) 1 c]).run P w = .ok v' w' ∧ OwnS w' lo w'.heap.size e size v' (n + 1) (fun k => if k < n then F k else G) ∧ w.grownBy w' v.ownBlock := by
  obtain ⟨xs, ho, hf⟩ := hown
  have hG : ∀ (j : Nat) (u : Value), ((List.range size).map G)[j]? = some u → j < size ∧ u = G j := fun j u hj => by
    have hlt : j < size := by
      rcases Nat.lt_or_ge j size with h | h
      · exact h
      · rw [List.getElem?_eq_none (by simpa using h)] at hj; cases hj
    simp [hlt] at hj
    exact ⟨hlt, hj.symm⟩
  obtain ⟨v', w', hr, h2, h3, _⟩ := run_append_own (P := P) w lo t ty e i z size bytes ht hi hz hsize hby hzs h0 v n xs ho.1 ⟨b, 0, none⟩ 1 c ((List.range size).map G) (by simp)
    (fun j u hj => by
      obtain ⟨hlt, rfl⟩ := hG j u hj
      have hadd : (⟨b, 0, none⟩ : Addr).add j = ⟨b, 0 + j, none⟩ := by unfold Addr.add; split <;> simp_all
      rw [hadd, Nat.zero_add]
      exact hc j hlt)
    (fun u hu => by
      simp only [List.mem_map, List.mem_range] at hu
      obtain ⟨j, hj, rfl⟩ := hu
      exact h1 j hj) h63 hbytes hlo
  refine ⟨v', w', hr, ⟨_, Own.of_row h2, fun i hi j hj => ?_⟩, h3⟩
  have hl : xs.length = n * size := ho.len
  by_cases h : i < n
  · have hle : i * size + j < n * size := by
      have : (i + 1) * size ≤ n * size := Nat.mul_le_mul_right _ h
      rw [Nat.add_mul] at this; omega
    simp only [h, if_true]
    rw [List.getElem?_append_left (by omega), hf i h j hj]
  · have : i = n := by omega
    subst this
    simp only [h, if_false]
    rw [List.getElem?_append_right (by omega), hl, Nat.add_sub_cancel_left]
    simp [hj]
theorem info_partsS {P : Program} {t : TypeId} {z : Value} {size bytes : Nat} (h : (P.info? t).map (fun i => (i.zero, i.size, i.bytes)) = some (some z, size, bytes)) : ∃ i, P.info? t = some i ∧ i.zero = some z ∧ i.size = size ∧ i.bytes = bytes := by
  cases hi : P.info? t with
  | none => rw [hi] at h; cases h
  | some i =>
    rw [hi] at h
    simp only [Option.map_some, Option.some.injEq, Prod.mk.injEq] at h
    exact ⟨i, rfl, h.1, h.2.1, h.2.2⟩
/-- .. as a law of the walk -/
theorem wpList_append_S {P : Program} {w : World} {ops : Array Oper} {rest : List Oper} {o : Oper} {a : Act} {Q : Exit → Act → World → Prop} (hgd : o.guard = none) (s x : Operand) (t : TypeId)
    (ho : o.op = .call { callee := .builtin .append, args := #[s, x], argTypes := #[t, t] })
    (e : TypeId) (z : Value) (size bytes : Nat) (ht : P.underlying t = some (.slice e)) (hinfo : (P.info? e).map (fun i => (i.zero, i.size, i.bytes)) = some (some z, size, bytes)) (hzs : z.cells.size = size) (h0 : 0 < size)
    (lo hi' : Nat) (v : Value) (n : Nat) (F : Nat → Nat → Value) (hs : a.eval s = v) (hown : OwnS w lo hi' e size v n F) (hlo : lo ≤ w.heap.size)
    (b c : Nat) (G : Nat → Value) (hxu : a.eval x = .slice (some ⟨b, 0, none⟩) 1 c) (hc : ∀ j, j < size → w.cell? ⟨b, j, none⟩ = some (G j)) (h1 : ∀ j, j < size → (G j).oneCell' = true) (h63 : n + 1 ≤ maxLen) (hbytes : (n + 1) * bytes ≤ 140737488355328)
    (h : ∀ v' w', OwnS w' lo w'.heap.size e size v' (n + 1) (fun k => if k < n then F k else G) → w.grownBy w' v.ownBlock → wpList P ops Q rest (a.put o.dst v') w') :
    wpList P ops Q (o :: rest) a w := by
  refine wpList_plain hgd fun K hK' => ?_
  obtain ⟨i, hi, hz, hsz, hby⟩ := info_partsS hinfo
  obtain ⟨v', w', hr, h2, h3⟩ := run_append_S (P := P) (ty := o.type) ht hi hz hsz hby hzs h0 lo hi' v n F hown hlo b c G hc h1 h63 hbytes
  unfold Oper.wp
  simp [execOp, ho, resolve, invoke, builtin, hs, hxu, hr, Result.andThen]
  exact hK' _ _ (h v' w' h2 h3)
/-- .. as a step of a region that draws -/
theorem step_append_S {P : Program} {w : World} {ops : Array Oper} {o : Oper} {a : Act} {K : Act → World → Prop} {Q : Exit → Act → World → Prop} {E : Prop} (hgd : o.guard = none) (s x : Operand) (t : TypeId)
    (ho : o.op = .call { callee := .builtin .append, args := #[s, x], argTypes := #[t, t] })
    (e : TypeId) (z : Value) (size bytes : Nat) (ht : P.underlying t = some (.slice e)) (hinfo : (P.info? e).map (fun i => (i.zero, i.size, i.bytes)) = some (some z, size, bytes)) (hzs : z.cells.size = size) (h0 : 0 < size)
    (lo hi' : Nat) (v : Value) (n : Nat) (F : Nat → Nat → Value) (hs : a.eval s = v) (hown : OwnS w lo hi' e size v n F) (hlo : lo ≤ w.heap.size)
    (b c : Nat) (G : Nat → Value) (hxu : a.eval x = .slice (some ⟨b, 0, none⟩) 1 c) (hc : ∀ j, j < size → w.cell? ⟨b, j, none⟩ = some (G j)) (h1 : ∀ j, j < size → (G j).oneCell' = true) (h63 : n + 1 ≤ maxLen) (hbytes : (n + 1) * bytes ≤ 140737488355328)
    (h : ∀ v' w', OwnS w' lo w'.heap.size e size v' (n + 1) (fun k => if k < n then F k else G) → w.grownBy w' v.ownBlock → K (a.put o.dst v') w') :
    if Region.wanted o (yielded ops a.tmps) = true then Oper.wp P o a w K Q else E := by
  have hw : Region.wanted o (yielded ops a.tmps) = true := by simp [Region.wanted, hgd]
  rw [if_pos hw]
  obtain ⟨i, hi, hz, hsz, hby⟩ := info_partsS hinfo
  obtain ⟨v', w', hr, h2, h3⟩ := run_append_S (P := P) (ty := o.type) ht hi hz hsz hby hzs h0 lo hi' v n F hown hlo b c G hc h1 h63 hbytes
  unfold Oper.wp
  simp [execOp, ho, resolve, invoke, builtin, hs, hxu, hr, Result.andThen]
  exact h v' w' h2 h3

end Go.Proofs.Ytejoapielndnnaa
