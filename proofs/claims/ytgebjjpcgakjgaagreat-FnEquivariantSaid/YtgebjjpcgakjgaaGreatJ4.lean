/-
  Slices of structs, any number of one-cell fields an element: over any program.
  Slices of classes: copied, measured, compared by the law's own helpers.
  Lists of numbers compared; permutations trimmed: both sides.
  Classes in their order: the list that insertion makes is the only one. Plain.
  Terms in their order: by the last exponent at which they differ, the greater one first. Plain.
  The reference's l1Factorial and l1Decode.
-/
import Derived.Test.YtgebjjpcgakjgaaGreatJ3
import Derived.Lib.OwnKind
import Derived.Test.YtgebjjpcgakjgaaGreatJ2
namespace Go.Proofs.YtgebjjpcgakjgaaGreat
set_option linter.all false
open Go.RowKit

/-- a slice that can be read: n elements of so many cells each -/
def RdS (w : World) (size : Nat) (v : Value) (n : Nat) (F : Nat → Nat → Value) : Prop :=
  ∃ p cap, v = .slice p n cap ∧ (n ≤ cap ∧ cap ≤ maxLen) ∧ (0 < n → ∃ b, p = some ⟨b, 0, none⟩ ∧ ∀ i, i < n → ∀ j, j < size → w.cell? ⟨b, i * size + j, none⟩ = some (F i j))
theorem RdS.of_cells {w w' : World} {size : Nat} {v : Value} {n : Nat} {F : Nat → Nat → Value} (h : RdS w size v n F) (hc : ∀ a x, w.cell? a = some x → w'.cell? a = some x) : RdS w' size v n F := by
  obtain ⟨p, cap, rfl, hm, h⟩ := h
  refine ⟨p, cap, rfl, hm, fun h0 => ?_⟩
  obtain ⟨b, hp, hx⟩ := h h0
  exact ⟨b, hp, fun i hi j hj => hc _ _ (hx i hi j hj)⟩
theorem RdS.below {w w' : World} {size : Nat} {v : Value} {n : Nat} {F : Nat → Nat → Value} (h : RdS w size v n F) (hb : Below w.heap.size w w') : RdS w' size v n F :=
  h.of_cells fun a x hx => by rw [hb.cell (World.block_lt_of_cell? w a hx)]; exact hx
theorem RdS.qt {w w' : World} {size : Nat} {v : Value} {n : Nat} {F : Nat → Nat → Value} (h : RdS w size v n F) (q : Qt w w') : RdS w' size v n F := h.of_cells fun _ _ hx => q.cell hx
theorem RdS.congr {w : World} {size : Nat} {v : Value} {n : Nat} {F G : Nat → Nat → Value} (h : RdS w size v n F) (e : ∀ i, i < n → ∀ j, j < size → F i j = G i j) : RdS w size v n G := by
  obtain ⟨p, cap, rfl, hm, h⟩ := h
  refine ⟨p, cap, rfl, hm, fun h0 => ?_⟩
  obtain ⟨b, hp, hx⟩ := h h0
  exact ⟨b, hp, fun i hi j hj => by rw [← e i hi j hj]; exact hx i hi j hj⟩

/-- a slice of structs that a call made -/
def OwnS (w : World) (lo hi : Nat) (T : TypeId) (size : Nat) (v : Value) (n : Nat) (F : Nat → Nat → Value) : Prop :=
  ∃ xs, Own w lo hi T size v n xs ∧ ∀ i, i < n → ∀ j, j < size → xs[i * size + j]? = some (F i j)

namespace OwnS
variable {w w' : World} {lo hi : Nat} {T : TypeId} {size : Nat} {v : Value} {n : Nat} {F : Nat → Nat → Value}
theorem rd (h : OwnS w lo hi T size v n F) : RdS w size v n F := by
  obtain ⟨xs, h, hf⟩ := h
  rcases h.1.2 with ⟨rfl, e⟩ | ⟨g, cap, cur, rfl, _, _, hm, hm2, _⟩
  · exact ⟨none, 0, by rw [e], ⟨by omega, Nat.zero_le _⟩, fun h0 => absurd h0 (by omega)⟩
  · refine ⟨_, cap, rfl, ⟨hm, hm2⟩, fun _ => ⟨g, rfl, fun i hi j hj => ?_⟩⟩
    have hadd : ∀ j, (⟨g, 0, none⟩ : Addr).add j = ⟨g, 0 + j, none⟩ := fun j => by unfold Addr.add; split <;> simp_all
    have c1 := h.1.cells (g := g) rfl _ _ (hf i hi j hj)
    rw [hadd, Nat.zero_add] at c1
    exact c1
theorem shape (h : OwnS w lo hi T size v n F) : ∃ p cap, v = .slice p n cap ∧ n ≤ cap ∧ cap ≤ maxLen ∧ (0 < n → ∃ g, p = some ⟨g, 0, none⟩ ∧ lo ≤ g ∧ g < hi ∧ g < w.heap.size) := by
  obtain ⟨xs, h, hf⟩ := h
  have hb := fun k hk => h.block (k := k) hk
  rcases h.1.2 with ⟨rfl, e⟩ | ⟨g, cap, cur, rfl, _, _, hm, hm2, _⟩
  · exact ⟨none, 0, by rw [e], by omega, Nat.zero_le _, fun h0 => absurd h0 (by omega)⟩
  · exact ⟨_, cap, rfl, hm, hm2, fun _ => ⟨g, rfl, hb g rfl⟩⟩
theorem at_ {p : Option Addr} {cap : Nat} (h : OwnS w lo hi T size (.slice p n cap) n F) (h0 : 0 < n) : ∃ g, p = some ⟨g, 0, none⟩ ∧ lo ≤ g ∧ g < hi ∧ g < w.heap.size := by
  obtain ⟨q, c, e, _, _, h⟩ := h.shape
  injection e with e1 e2 e3
  subst e1
  exact h h0
theorem cell {g n' cap : Nat} (h : OwnS w lo hi T size (.slice (some ⟨g, 0, none⟩) n' cap) n F) {i j : Nat} (hi : i < n) (hj : j < size) : w.cell? ⟨g, i * size + j, none⟩ = some (F i j) := by
  obtain ⟨p, c, e, _, h⟩ := h.rd
  injection e with e1 _ _
  obtain ⟨b, e2, h⟩ := h (by omega)
  rw [← e1] at e2
  obtain rfl : g = b := by injection e2 with e2; injection e2
  exact h i hi j hj
theorem frozen {g n' cap : Nat} (h : OwnS w lo hi T size (.slice (some ⟨g, 0, none⟩) n' cap) n F) (j : Nat) : w.frozen? ⟨g, j, none⟩ = false := by
  obtain ⟨xs, h, _⟩ := h
  rcases h.1.2 with ⟨h', _⟩ | ⟨g', cap', cur, h', _, hg, _⟩
  · simp at h'
  · simp only [Value.slice.injEq, Option.some.injEq, Addr.mk.injEq, and_true, true_and] at h'
    obtain ⟨rfl, _, _⟩ := h'
    exact free_of_blk hg j
theorem congr {G : Nat → Nat → Value} (h : OwnS w lo hi T size v n F) (e : ∀ i, i < n → ∀ j, j < size → F i j = G i j) : OwnS w lo hi T size v n G := by
  obtain ⟨xs, h, hf⟩ := h
  exact ⟨xs, h, fun i hi j hj => by rw [← e i hi j hj]; exact hf i hi j hj⟩
theorem keep (h : OwnS w lo hi T size v n F) (hb : ∀ k, lo ≤ k → k < hi → k < w.heap.size → w'.heap[k]? = w.heap[k]?) : OwnS w' lo hi T size v n F := by
  obtain ⟨xs, h, hf⟩ := h
  exact ⟨xs, h.keep hb, hf⟩
theorem below (h : OwnS w lo hi T size v n F) (hb : Below w.heap.size w w') : OwnS w' lo hi T size v n F := h.keep fun k _ _ h3 => hb.block k h3
theorem frm {lo' hi' : Nat} (h : OwnS w lo hi T size v n F) (hb : Frm lo' hi' w w') (ho : hi ≤ lo' ∨ hi' ≤ lo) : OwnS w' lo hi T size v n F := h.keep fun k h1 h2 h3 => hb.block k h3 (by omega)
theorem mono {lo' hi' : Nat} (h : OwnS w lo hi T size v n F) (h1 : lo' ≤ lo) (h2 : hi ≤ hi') : OwnS w lo' hi' T size v n F := by
  obtain ⟨xs, h, hf⟩ := h
  exact ⟨xs, h.mono h1 h2, hf⟩
theorem besides {lo' hi' : Nat} (h : OwnS w lo hi T size v n F) (hf : Frm lo' hi' w w') (hne : ∀ b, v.ownBlock = some b → b < lo' ∨ hi' ≤ b) : OwnS w' lo hi T size v n F := by
  obtain ⟨xs, h, hx⟩ := h
  exact ⟨xs, ⟨ownsRow_of_block h.1 fun b hb => hf.block b (Own.block h hb).2.2 (hne b hb), h.2⟩, hx⟩
theorem blocks (h : OwnS w lo hi T size v n F) : ∀ k, v.ownBlock = some k → lo ≤ k ∧ k < hi := by
  obtain ⟨xs, h, _⟩ := h
  exact fun k hk => ⟨(h.block hk).1, (h.block hk).2.1⟩
theorem kind (h : OwnS w lo hi T size v n F) : ∀ g, v.ownBlock = some g → ∃ c fz, w.heap[g]? = some (.cells c T fz) := by
  obtain ⟨xs, h, _⟩ := h
  exact Lib.ownsRow_kind h.1
theorem setCell (h : OwnS w lo hi T size v n F) {a : Addr} (ho : a.block < lo ∨ hi ≤ a.block) (u : Value) : OwnS (w.setCell a u) lo hi T size v n F := by
  obtain ⟨xs, h, hf⟩ := h
  exact ⟨xs, h.setCell ho u, hf⟩
/-- a field of an element is written -/
theorem set {g n' cap : Nat} (h : OwnS w lo hi T size (.slice (some ⟨g, 0, none⟩) n' cap) n F) {i0 j0 : Nat} (hi0 : i0 < n) (hj0 : j0 < size) (u : Value) :
    OwnS (w.setCell ⟨g, i0 * size + j0, none⟩ u) lo hi T size (.slice (some ⟨g, 0, none⟩) n' cap) n (fun i j => if i = i0 ∧ j = j0 then u else F i j) := by
  obtain ⟨xs, h, hf⟩ := h
  have hle : ∀ i j, i < n → j < size → i * size + j < n * size := fun i j hi hj => by
    have : (i + 1) * size ≤ n * size := Nat.mul_le_mul_right _ hi
    rw [Nat.add_mul] at this; omega
  obtain ⟨q, c, e, _⟩ := (OwnS.shape ⟨xs, h, hf⟩ : _)
  have en : n' = n := by injection e
  subst en
  refine ⟨xs.set (i0 * size + j0) u, ⟨(World.ownsRow.stored h.1 _ u).1, h.2⟩, fun i hi j hj => ?_⟩
  rw [List.getElem?_set]
  by_cases e : i = i0 ∧ j = j0
  · obtain ⟨rfl, rfl⟩ := e
    have hlt : i * size + j < xs.length := by rw [h.len]; exact hle _ _ hi0 hj0
    simp [hlt]
  · show _ = some (if i = i0 ∧ j = j0 then u else F i j)
    rw [if_neg e, if_neg fun c => e ?_]
    · exact hf i hi j hj
    · have h1 := Nat.mul_add_mod' i size j
      have h2 := Nat.mul_add_mod' i0 size j0
      rw [Nat.mod_eq_of_lt hj] at h1
      rw [Nat.mod_eq_of_lt hj0] at h2
      have : j = j0 := by rw [← h1, ← h2, c]
      subst this
      exact ⟨Nat.eq_of_mul_eq_mul_right (by omega) (by omega : i * size = i0 * size), rfl⟩
theorem nil (w : World) (lo hi : Nat) (T : TypeId) (size : Nat) (F : Nat → Nat → Value) : OwnS w lo hi T size (.slice none 0 0) 0 F :=
  ⟨[], ⟨World.ownsRow_nil _ _ _ _, fun k hk => by simp [Value.ownBlock] at hk⟩, fun i hi => absurd hi (Nat.not_lt_zero _)⟩
theorem made0 (w : World) (T : TypeId) (size : Nat) (F : Nat → Nat → Value) : OwnS (w.alloc (.cells #[] T)) w.heap.size (w.heap.size + 1) T size (.slice (some ⟨w.heap.size, 0, none⟩) 0 0) 0 F :=
  ⟨[], ⟨World.ownsRow_made w #[] 0 (Nat.le_refl _) (Nat.zero_le _) (by simp), fun k hk => by simp [Value.ownBlock] at hk; omega⟩, fun i hi => absurd hi (Nat.not_lt_zero _)⟩
/-- behind an append on u: what is owned in other blocks stays -/
theorem grown {u : Value} (h : OwnS w lo hi T size v n F) (hg : w.grownBy w' u.ownBlock) (hne : ∀ k, v.ownBlock = some k → u.ownBlock ≠ some k) : OwnS w' lo hi T size v n F := by
  obtain ⟨xs, h, hf⟩ := h
  exact ⟨xs, ⟨ownsRow_of_block h.1 fun k hk => hg.block k (h.block hk).2.2 fun e => hne k hk e.symm, h.2⟩, hf⟩
end OwnS

theorem ne_of_kinds {w : World} {T U : TypeId} {g : Nat} (h1 : ∃ c fz, w.heap[g]? = some (.cells c T fz)) (h2 : ∃ c fz, w.heap[g]? = some (.cells c U fz)) (hT : T ≠ U) : False := by
  obtain ⟨c, fz, h1⟩ := h1
  obtain ⟨c', fz', h2⟩ := h2
  rw [h1] at h2
  injection h2 with h2
  injection h2 with _ h2
  exact hT h2
theorem OwnI.kind {T : TypeId} {w : World} {lo hi : Nat} {v : Value} {xs : List Int} (h : OwnI T w lo hi v xs) : ∀ g, v.ownBlock = some g → ∃ c fz, w.heap[g]? = some (.cells c T fz) := Lib.ownsRow_kind h.1

/-- append of one struct onto structs of the call's own -/
theorem run_append_S {P : Program} {w : World} {t ty e : TypeId} {i : TypeInfo} {z : Value} {size bytes : Nat} (ht : P.underlying t = some (.slice e)) (hi : P.info? e = some i) (hz : i.zero = some z)
    (hsize : i.size = size) (hby : i.bytes = bytes) (hzs : z.cells.size = size) (h0 : 0 < size)
    (lo hi' : Nat) (v : Value) (n : Nat) (F : Nat → Nat → Value) (hown : OwnS w lo hi' e size v n F) (hlo : lo ≤ w.heap.size)
    (b c : Nat) (G : Nat → Value) (hc : ∀ j, j < size → w.cell? ⟨b, j, none⟩ = some (G j)) (h1 : ∀ j, j < size → (G j).oneCell' = true) (h63 : n + 1 ≤ maxLen) (hbytes : (n + 1) * bytes ≤ 140737488355328) :
    ∃ v' w', (Builtin.append_ #[t, t] ty #[v, .slice (some ⟨b, 0, none⟩) 1 c]).run P w = .ok v' w' ∧ OwnS w' lo w'.heap.size e size v' (n + 1) (fun k => if k < n then F k else G) ∧ w.grownBy w' v.ownBlock := by
  obtain ⟨xs, ho, hf⟩ := hown
  have hG : ∀ (j : Nat) (u : Value), ((List.range size).map G)[j]? = some u → j < size ∧ u = G j := fun j u hj => by
    have hlt : j < size := by
      rcases Nat.lt_or_ge j size with h | h
      · exact h
      · rw [List.getElem?_eq_none (by simpa using h)] at hj; cases hj
    simp [hlt] at hj
    exact ⟨hlt, hj.symm⟩
  obtain ⟨v', w', hr, h2, h3, _⟩ := run_append_own (P := P) w lo t ty e i z size bytes ht hi hz hsize hby hzs h0 v n xs ho.1 ⟨b, 0, none⟩ 1 c ((List.range size).map G) (by simp)
    (fun j u hj => by
      obtain ⟨hlt, rfl⟩ := hG j u hj
      have hadd : (⟨b, 0, none⟩ : Addr).add j = ⟨b, 0 + j, none⟩ := by unfold Addr.add; split <;> simp_all
      rw [hadd, Nat.zero_add]
      exact hc j hlt)
    (fun u hu => by
      simp only [List.mem_map, List.mem_range] at hu
      obtain ⟨j, hj, rfl⟩ := hu
      exact h1 j hj) h63 hbytes hlo
  refine ⟨v', w', hr, ⟨_, Own.of_row h2, fun i hi j hj => ?_⟩, h3⟩
  have hl : xs.length = n * size := ho.len
  by_cases h : i < n
  · have hle : i * size + j < n * size := by
      have : (i + 1) * size ≤ n * size := Nat.mul_le_mul_right _ h
      rw [Nat.add_mul] at this; omega
    simp only [h, if_true]
    rw [List.getElem?_append_left (by omega), hf i h j hj]
  · have : i = n := by omega
    subst this
    simp only [h, if_false]
    rw [List.getElem?_append_right (by omega), hl, Nat.add_sub_cancel_left]
    simp [hj]
theorem info_partsS {P : Program} {t : TypeId} {z : Value} {size bytes : Nat} (h : (P.info? t).map (fun i => (i.zero, i.size, i.bytes)) = some (some z, size, bytes)) : ∃ i, P.info? t = some i ∧ i.zero = some z ∧ i.size = size ∧ i.bytes = bytes := by
  cases hi : P.info? t with
  | none => rw [hi] at h; cases h
  | some i =>
    rw [hi] at h
    simp only [Option.map_some, Option.some.injEq, Prod.mk.injEq] at h
    exact ⟨i, rfl, h.1, h.2.1, h.2.2⟩
/-- .. as a law of the walk -/
theorem wpList_append_S {P : Program} {w : World} {ops : Array Oper} {rest : List Oper} {o : Oper} {a : Act} {Q : Exit → Act → World → Prop} (hgd : o.guard = none) (s x : Operand) (t : TypeId)
    (ho : o.op = .call { callee := .builtin .append, args := #[s, x], argTypes := #[t, t] })
    (e : TypeId) (z : Value) (size bytes : Nat) (ht : P.underlying t = some (.slice e)) (hinfo : (P.info? e).map (fun i => (i.zero, i.size, i.bytes)) = some (some z, size, bytes)) (hzs : z.cells.size = size) (h0 : 0 < size)
    (lo hi' : Nat) (v : Value) (n : Nat) (F : Nat → Nat → Value) (hs : a.eval s = v) (hown : OwnS w lo hi' e size v n F) (hlo : lo ≤ w.heap.size)
    (b c : Nat) (G : Nat → Value) (hxu : a.eval x = .slice (some ⟨b, 0, none⟩) 1 c) (hc : ∀ j, j < size → w.cell? ⟨b, j, none⟩ = some (G j)) (h1 : ∀ j, j < size → (G j).oneCell' = true) (h63 : n + 1 ≤ maxLen) (hbytes : (n + 1) * bytes ≤ 140737488355328)
    (h : ∀ v' w', OwnS w' lo w'.heap.size e size v' (n + 1) (fun k => if k < n then F k else G) → w.grownBy w' v.ownBlock → wpList P ops Q rest (a.put o.dst v') w') :
    wpList P ops Q (o :: rest) a w := by
  refine wpList_plain hgd fun K hK' => ?_
  obtain ⟨i, hi, hz, hsz, hby⟩ := info_partsS hinfo
  obtain ⟨v', w', hr, h2, h3⟩ := run_append_S (P := P) (ty := o.type) ht hi hz hsz hby hzs h0 lo hi' v n F hown hlo b c G hc h1 h63 hbytes
  unfold Oper.wp
  simp [execOp, ho, resolve, invoke, builtin, hs, hxu, hr, Result.andThen]
  exact hK' _ _ (h v' w' h2 h3)
/-- .. as a step of a region that draws -/
theorem step_append_S {P : Program} {w : World} {ops : Array Oper} {o : Oper} {a : Act} {K : Act → World → Prop} {Q : Exit → Act → World → Prop} {E : Prop} (hgd : o.guard = none) (s x : Operand) (t : TypeId)
    (ho : o.op = .call { callee := .builtin .append, args := #[s, x], argTypes := #[t, t] })
    (e : TypeId) (z : Value) (size bytes : Nat) (ht : P.underlying t = some (.slice e)) (hinfo : (P.info? e).map (fun i => (i.zero, i.size, i.bytes)) = some (some z, size, bytes)) (hzs : z.cells.size = size) (h0 : 0 < size)
    (lo hi' : Nat) (v : Value) (n : Nat) (F : Nat → Nat → Value) (hs : a.eval s = v) (hown : OwnS w lo hi' e size v n F) (hlo : lo ≤ w.heap.size)
    (b c : Nat) (G : Nat → Value) (hxu : a.eval x = .slice (some ⟨b, 0, none⟩) 1 c) (hc : ∀ j, j < size → w.cell? ⟨b, j, none⟩ = some (G j)) (h1 : ∀ j, j < size → (G j).oneCell' = true) (h63 : n + 1 ≤ maxLen) (hbytes : (n + 1) * bytes ≤ 140737488355328)
    (h : ∀ v' w', OwnS w' lo w'.heap.size e size v' (n + 1) (fun k => if k < n then F k else G) → w.grownBy w' v.ownBlock → K (a.put o.dst v') w') :
    if Region.wanted o (yielded ops a.tmps) = true then Oper.wp P o a w K Q else E := by
  have hw : Region.wanted o (yielded ops a.tmps) = true := by simp [Region.wanted, hgd]
  rw [if_pos hw]
  obtain ⟨i, hi, hz, hsz, hby⟩ := info_partsS hinfo
  obtain ⟨v', w', hr, h2, h3⟩ := run_append_S (P := P) (ty := o.type) ht hi hz hsz hby hzs h0 lo hi' v n F hown hlo b c G hc h1 h63 hbytes
  unfold Oper.wp
  simp [execOp, ho, resolve, invoke, builtin, hs, hxu, hr, Result.andThen]
  exact h v' w' h2 h3

end Go.Proofs.YtgebjjpcgakjgaaGreat

namespace Go.Proofs.YtgebjjpcgakjgaaGreat
set_option linter.all false
open Go.RowKit

abbrev Cls := List Int × Int
def clD : Cls := ([], 0)
/-- the fields of classes, the permutations' slices being f -/
def clF (cs : List Cls) (f : Nat → Value) (i j : Nat) : Value :=
  match j with
  | 0 => f i
  | _ => .int .i64 (cs.getD i clD).2
/-- classes that can be read, at the head of a block -/
def RdCl (w : World) (v : Value) (cs : List Cls) : Prop := ∃ f, RdS w 2 v cs.length (clF cs f) ∧ ∀ i, i < cs.length → Ints w (f i) (cs.getD i clD).1
theorem RdCl.below {w w' : World} {v : Value} {cs : List Cls} (h : RdCl w v cs) (hb : Below w.heap.size w w') : RdCl w' v cs := by
  obtain ⟨f, h1, h2⟩ := h
  exact ⟨f, h1.below hb, fun i hi => (h2 i hi).below hb⟩
theorem RdS.two {w : World} {v : Value} {cs : List Cls} {f : Nat → Value} (h : RdS w 2 v cs.length (clF cs f)) : ∃ p cap, v = .slice p cs.length cap ∧ (cs.length ≤ cap ∧ cap ≤ maxLen) ∧
    (0 < cs.length → ∃ b, p = some ⟨b, 0, none⟩ ∧ ∀ i, i < cs.length → w.cell? ⟨b, i * 2, none⟩ = some (f i) ∧ w.cell? ⟨b, i * 2 + 1, none⟩ = some (.int .i64 (cs.getD i clD).2)) := by
  obtain ⟨p, cap, rfl, hm, h⟩ := h
  refine ⟨p, cap, rfl, hm, fun h0 => ?_⟩
  obtain ⟨b, hp, hx⟩ := h h0
  exact ⟨b, hp, fun i hi => ⟨hx i hi 0 (by omega), hx i hi 1 (by omega)⟩⟩
/-- classes that a call made -/
def OwnCl (w : World) (lo hi : Nat) (v : Value) (cs : List Cls) : Prop :=
  ∃ g, OwnS w lo hi 34 2 v cs.length (clF cs g) ∧ ∀ i, i < cs.length → OwnI 3 w lo hi (g i) (cs.getD i clD).1
theorem OwnCl.rd {w : World} {lo hi : Nat} {v : Value} {cs : List Cls} (h : OwnCl w lo hi v cs) : RdCl w v cs := by
  obtain ⟨g, h1, h2⟩ := h
  exact ⟨g, h1.rd, fun i hi => (h2 i hi).ints⟩
theorem OwnCl.below {w w' : World} {lo hi : Nat} {v : Value} {cs : List Cls} (h : OwnCl w lo hi v cs) (hb : Below w.heap.size w w') : OwnCl w' lo hi v cs := by
  obtain ⟨g, h1, h2⟩ := h
  exact ⟨g, h1.below hb, fun i hi => (h2 i hi).below hb⟩
theorem OwnCl.mono {w : World} {lo hi lo' hi' : Nat} {v : Value} {cs : List Cls} (h : OwnCl w lo hi v cs) (a : lo' ≤ lo) (b : hi ≤ hi') : OwnCl w lo' hi' v cs := by
  obtain ⟨g, h1, h2⟩ := h
  exact ⟨g, h1.mono a b, fun i hi => (h2 i hi).mono a b⟩
theorem OwnCl.setCell {w : World} {lo hi : Nat} {v : Value} {cs : List Cls} (h : OwnCl w lo hi v cs) {a : Addr} (ho : a.block < lo ∨ hi ≤ a.block) (u : Value) : OwnCl (w.setCell a u) lo hi v cs := by
  obtain ⟨g, h1, h2⟩ := h
  exact ⟨g, h1.setCell ho u, fun i hi => (h2 i hi).setCell ho u⟩
theorem OwnCl.shape {w : World} {lo hi : Nat} {v : Value} {cs : List Cls} (h : OwnCl w lo hi v cs) : ∃ p cap, v = .slice p cs.length cap ∧ cs.length ≤ cap ∧ cap ≤ maxLen := by
  obtain ⟨g, h1, _⟩ := h
  obtain ⟨p, cap, e, h2, h3, _⟩ := h1.shape
  exact ⟨p, cap, e, h2, h3⟩
/-- classes that came in, wherever they lie -/
def RdClA (w : World) (v : Value) (cs : List Cls) : Prop :=
  ∃ (p : Option Addr) (cap : Nat) (f : Nat → Value), v = .slice p cs.length cap ∧ (cs.length ≤ cap ∧ cap ≤ maxLen) ∧
    (0 < cs.length → ∃ b off, p = some ⟨b, off, none⟩ ∧ ∀ i, i < cs.length → w.cell? ⟨b, off + i * 2, none⟩ = some (f i) ∧ w.cell? ⟨b, off + i * 2 + 1, none⟩ = some (.int .i64 (cs.getD i clD).2)) ∧
    ∀ i, i < cs.length → Ints w (f i) (cs.getD i clD).1
theorem RdClA.below {w w' : World} {v : Value} {cs : List Cls} (h : RdClA w v cs) (hb : Below w.heap.size w w') : RdClA w' v cs := by
  obtain ⟨p, cap, f, e, h1, h2, h3⟩ := h
  refine ⟨p, cap, f, e, h1, fun h0 => ?_, fun i hi => (h3 i hi).below hb⟩
  obtain ⟨b, off, hp, hx⟩ := h2 h0
  exact ⟨b, off, hp, fun i hi => ⟨cell_below hb (hx i hi).1, cell_below hb (hx i hi).2⟩⟩

/-- none of the lists is too long -/
def ClsFit (cs : List Cls) : Prop := cs.length ≤ 1048576 ∧ ∀ i, i < cs.length → (cs.getD i clD).1.length ≤ 1048576

theorem szI_cases (left : Int) (n : Nat) (h0 : 0 ≤ left) : szI left n = -1 ∨ (0 ≤ szI left n ∧ szI left n ≤ left ∧ (n : Int) ≤ left) := by
  unfold szI; split <;> omega

theorem blk2 {w : World} {b : Nat} {x0 x1 : Value} {T : TypeId} (h : w.heap[b]? = some (.cells #[x0, x1] T (0, 0))) :
    w.cell? ⟨b, 0, none⟩ = some x0 ∧ w.cell? ⟨b, 1, none⟩ = some x1 ∧ (∀ j, w.frozen? ⟨b, j, none⟩ = false) ∧ b < w.heap.size :=
  ⟨cell_of_blk h rfl, cell_of_blk h rfl, free_of_blk h, blk_lt h⟩
theorem set2_all {w : World} {b : Nat} {x0 x1 : Value} {T : TypeId} (h : w.heap[b]? = some (.cells #[x0, x1] T (0, 0))) (y0 y1 : Value) :
    ((w.setCell ⟨b, 0, none⟩ y0).setCell ⟨b, 1, none⟩ y1).heap[b]? = some (.cells #[y0, y1] T (0, 0)) := by
  have e := heap_setCell_at (heap_setCell_at h 0 y0) 1 y1
  simpa using e

theorem info_cls : (Tryz.prog.info? 34).map (fun i => (i.zero, i.size, i.bytes)) = some (some (.agg #[.slice none 0 0, .int .i64 0]), 2, 32) := by kernel_rfl
/-- make of structs -/
theorem run_make_S {P : Program} (t e : TypeId) (z : Value) (size bytes : Nat) (ht : P.underlying t = some (.slice e)) (hinfo : (P.info? e).map (fun i => (i.zero, i.size, i.bytes)) = some (some z, size, bytes)) (n : Nat) (hn : n ≤ 1048576) (hb : bytes ≤ 1000) (w : World) :
    (Instr.makeSlice t (.int .i64 (n : Int)) (.int .i64 (n : Int))).run P w = .ok (.slice (some ⟨w.heap.size, 0, none⟩) n n) (w.alloc (.cells (madeCells z.cells (n * size)) e)) := by
  obtain ⟨i, hi, hz, hsz, hby⟩ := info_partsS hinfo
  have hm : (i.bytes : Int) * (n : Int) ≤ 1000 * 1048576 := by
    have := Nat.mul_le_mul (show i.bytes ≤ 1000 by omega) hn
    have h2 : ((i.bytes * n : Nat) : Int) ≤ 1000 * 1048576 := by omega
    rwa [Int.natCast_mul] at h2
  have := run_make (P := P) w t e i z ht hi hz .i64 .i64 (n : Int) (n : Int) (by omega) (Int.le_refl _) (by omega) (by omega)
  rw [hsz] at this
  simpa using this
theorem made_S (w : World) (T : TypeId) (z0 z1 : Value) (n : Nat) (hn : n ≤ 1048576) : OwnS (w.alloc (.cells (madeCells #[z0, z1] (n * 2)) T)) w.heap.size (w.heap.size + 1) T 2 (.slice (some ⟨w.heap.size, 0, none⟩) n n) n (fun _ j => if j = 0 then z0 else z1) := by
  refine ⟨(madeCells #[z0, z1] (n * 2)).toList, ⟨⟨by simp [madeCells], .inr ⟨w.heap.size, n, _, rfl, Nat.le_refl _, heap_alloc_top _ _, Nat.le_refl _, by unfold maxLen; omega, by simp [madeCells], ?_⟩⟩, fun k hk => by simp [Value.ownBlock] at hk; omega⟩, fun i hi j hj => ?_⟩
  · rw [List.take_of_length_le (by simp [madeCells])]
  · have hlt : i * 2 + j < n * 2 := by omega
    have hm : (i * 2 + j) % 2 = j := by omega
    have hg : ∀ t, t < n * 2 → (madeCells #[z0, z1] (n * 2)).toList[t]? = some ((#[z0, z1] : Array Value)[t % 2]!) := fun t h => by simp [madeCells, h]
    rw [hg _ hlt, hm]
    have : j = 0 ∨ j = 1 := by omega
    rcases this with rfl | rfl <;> rfl

theorem keep4w {wr W W' : World} {a0 a1 a2 a3 : Addr} {v0 v1 v2 v3 : Value} (hb : Below W.heap.size W W') (h : (W.cell? a0 = some v0 ∧ W.cell? a1 = some v1 ∧ W.cell? a2 = some v2 ∧ W.cell? a3 = some v3) ∧ Below wr.heap.size wr W) :
    (W'.cell? a0 = some v0 ∧ W'.cell? a1 = some v1 ∧ W'.cell? a2 = some v2 ∧ W'.cell? a3 = some v3) ∧ Below wr.heap.size wr W' :=
  ⟨⟨cell_below hb h.1.1, cell_below hb h.1.2.1, cell_below hb h.1.2.2.1, cell_below hb h.1.2.2.2⟩, below_trans h.2 hb⟩

end Go.Proofs.YtgebjjpcgakjgaaGreat

namespace Go.Proofs.YtgebjjpcgakjgaaGreat
set_option linter.all false
open Go.RowKit

/-- at the first difference, or a proper beginning first -/
def ltB : List Int → List Int → Bool
  | [], [] => false
  | [], _ :: _ => true
  | _ :: _, [] => false
  | x :: xs, y :: ys => if x < y then true else if y < x then false else ltB xs ys
def cmpB : List Int → List Int → Int
  | [], [] => 0
  | [], _ :: _ => -1
  | _ :: _, [] => 1
  | x :: xs, y :: ys => if x < y then -1 else if y < x then 1 else cmpB xs ys
theorem cmpB_lt : ∀ xs ys, decide (0 ≤ cmpB xs ys) = !ltB xs ys
  | [], [] => rfl
  | [], _ :: _ => rfl
  | _ :: _, [] => rfl
  | x :: xs, y :: ys => by
    unfold cmpB ltB
    by_cases h1 : x < y
    · simp [h1]
    · by_cases h2 : y < x
      · simp [h1, h2]
      · simp only [h1, h2, if_false]; exact cmpB_lt xs ys
theorem cmpB_cases : ∀ xs ys, cmpB xs ys = -1 ∨ cmpB xs ys = 0 ∨ cmpB xs ys = 1
  | [], [] => by simp [cmpB]
  | [], _ :: _ => by simp [cmpB]
  | _ :: _, [] => by simp [cmpB]
  | x :: xs, y :: ys => by
    unfold cmpB
    by_cases h1 : x < y
    · simp [h1]
    · by_cases h2 : y < x
      · simp [h1, h2]
      · simp only [h1, h2, if_false]; exact cmpB_cases xs ys
theorem drop_at {xs : List Int} {k : Nat} (h : k < xs.length) : xs.drop k = xs.getD k 0 :: xs.drop (k + 1) := by
  rw [List.drop_eq_getElem_cons h, List.getD_eq_getElem?_getD, List.getElem?_eq_getElem h]; rfl
theorem drop_end {xs : List Int} {k : Nat} (h : xs.length ≤ k) : xs.drop k = [] := List.drop_eq_nil_iff.2 h

/-- how many places are left when those at the end are struck that are not moved -/
def trimN (xs : List Int) : Nat → Nat
  | 0 => 0
  | n + 1 => if 1 ≤ n ∧ xs.getD n 0 = (n : Int) then trimN xs n else n + 1
theorem trimN_le (xs : List Int) : ∀ n, trimN xs n ≤ n
  | 0 => Nat.le_refl _
  | n + 1 => by
    unfold trimN
    split
    · exact Nat.le_trans (trimN_le xs n) (Nat.le_succ _)
    · exact Nat.le_refl _
def trimL (xs : List Int) : List Int := xs.take (trimN xs xs.length)
theorem trimL_length (xs : List Int) : (trimL xs).length = trimN xs xs.length := by
  unfold trimL; rw [List.length_take]; have := trimN_le xs xs.length; omega

/-- the first numbers of a list, as a slice -/
theorem ints_take2 {w : World} {p : Option Addr} {cap : Nat} {xs : List Int} (h : Ints w (.slice p xs.length cap) xs) {i : Nat} (hi : i ≤ xs.length) : Ints w (.slice p i cap) (xs.take i) := by
  obtain ⟨q, c, e, ⟨h1, h2⟩, h3⟩ := h
  injection e with e1 e2 e3
  subst e1 e3
  have hl : (xs.take i).length = i := by rw [List.length_take]; omega
  refine ⟨p, cap, by rw [hl], ⟨by omega, h2⟩, fun h0 => ?_⟩
  obtain ⟨b, off, hp, hx⟩ := h3 (by omega)
  refine ⟨b, off, hp, fun j hj => ?_⟩
  rw [hx j (by omega)]
  unfold iv
  rw [List.getD_eq_getElem?_getD, List.getD_eq_getElem?_getD, List.getElem?_take_of_lt (by omega)]

set_option maxRecDepth 100000 in
theorem isNaN_any (n : Int) (w : World) : Calls Tryz.prog 78 #[.int .i64 n] w fun e w' => e = .returned (.bool false) ∧ w = w' := by
  have h : (n != n) = false := by simp
  go_enter Tryz.func78, Tryz.ntmps78
  go_wp2
  go_ret
  exact ⟨rfl, rfl⟩
set_option maxRecDepth 100000 in
theorem cmpInt_any (a b : Int) (w : World) : Calls Tryz.prog 72 #[.int .i64 a, .int .i64 b] w fun e w' => e = .returned (.int .i64 (if a < b then -1 else if b < a then 1 else 0)) ∧ w = w' := by
  go_enter Tryz.func72, Tryz.ntmps72
  by_cases h1 : a < b
  · go_wp2_with (go_at_call 78; refine (isNaN_any _ _).mono ?_; rintro e w' ⟨rfl, rfl⟩)
    go_ret
    exact ⟨ret_int (by simp [h1]), rfl⟩
  · by_cases h2 : b < a
    · go_wp2_with (go_at_call 78; refine (isNaN_any _ _).mono ?_; rintro e w' ⟨rfl, rfl⟩)
      go_ret
      exact ⟨ret_int (by simp [h1, h2]), rfl⟩
    · go_wp2_with (go_at_call 78; refine (isNaN_any _ _).mono ?_; rintro e w' ⟨rfl, rfl⟩)
      go_ret
      exact ⟨ret_int (by simp [h1, h2]), rfl⟩

set_option maxRecDepth 100000 in
set_option maxHeartbeats 1000000 in
theorem compare_any (u v : Value) (xs ys : List Int) (w : World) (h1 : Ints w u xs) (h2 : Ints w v ys) :
    Calls Tryz.prog 62 #[u, v] w fun e w' => e = .returned (.int .i64 (cmpB xs ys)) ∧ w = w' := by
  obtain ⟨p, cap, rfl, ⟨hx1, hx⟩, hxc⟩ := h1
  obtain ⟨q, cap', rfl, ⟨hy1, hy⟩, hyc⟩ := h2
  unfold maxLen at hx hy
  have Hxc := Lib.hid hxc
  have Hyc := Lib.hid hyc
  clear hxc hyc
  go_enter Tryz.func62, Tryz.ntmps62
  go_wp2
  go_loop [11] (fun s => ∃ k : Nat, k ≤ xs.length ∧ k ≤ ys.length ∧ s = .int .i64 k ∧ Hid (cmpB xs ys = cmpB (xs.drop k) (ys.drop k))) (fun s => xs.length - (intOf s).toNat)
  case atStart => exact ⟨0, Nat.zero_le _, Nat.zero_le _, rfl, rfl⟩
  case round =>
    obtain ⟨k, hk, hk2, rfl, hc⟩ := hrel
    by_cases hlt : k < xs.length
    · have hlt1 : (k : Int) < (xs.length : Int) := by omega
      have hlt0 : (0 : Int) ≤ (k : Int) := by omega
      obtain ⟨b, off, rfl, hcx⟩ := Hxc.out (by omega)
      have c1 := hcx k hlt
      unfold iv at c1
      by_cases hlt2 : k < ys.length
      · have hlt3 : ¬ (ys.length : Int) ≤ (k : Int) := by omega
        have hlt4 : (k : Int) < (ys.length : Int) := by omega
        obtain ⟨b', off', rfl, hcy⟩ := Hyc.out (by omega)
        have c2 := hcy k hlt2
        unfold iv at c2
        have Hd := Lib.hid (show cmpB xs ys = if xs.getD k 0 < ys.getD k 0 then -1 else if ys.getD k 0 < xs.getD k 0 then 1 else cmpB (xs.drop (k + 1)) (ys.drop (k + 1)) by rw [hc.out, drop_at hlt, drop_at hlt2]; rfl)
        obtain ⟨x, hx'⟩ : ∃ x, x = xs.getD k 0 := ⟨_, rfl⟩
        obtain ⟨y, hy'⟩ : ∃ y, y = ys.getD k 0 := ⟨_, rfl⟩
        rw [← hx', ← hy'] at Hd
        rw [← hx'] at c1
        rw [← hy'] at c2
        clear hx' hy' hcx hcy hc
        go_wp2_with fail
        refine (cmpInt_any _ _ _).mono ?_
        rintro e w' ⟨rfl, rfl⟩
        by_cases h1 : x < y
        · rw [if_pos h1]
          have Hf := Lib.hid (show cmpB xs ys = -1 by rw [Hd.out, if_pos h1])
          go_wp2_with fail
          go_ret
          exact ⟨ret_int Hf.out.symm, rfl⟩
        · by_cases h2 : y < x
          · rw [if_neg h1, if_pos h2]
            have Hf := Lib.hid (show cmpB xs ys = 1 by rw [Hd.out, if_neg h1, if_pos h2])
            go_wp2_with fail
            go_ret
            exact ⟨ret_int Hf.out.symm, rfl⟩
          · rw [if_neg h1, if_neg h2]
            have Hf := Lib.hid (show cmpB xs ys = cmpB (xs.drop (k + 1)) (ys.drop (k + 1)) by rw [Hd.out, if_neg h1, if_neg h2])
            clear Hd
            go_wp2_with fail
            go_round
            case rel => exact ⟨k + 1, by omega, by omega, by go_num, Hf.out⟩
            case measure => simp [intOf]; omega
      · obtain rfl : k = ys.length := by omega
        have hlt3 : (ys.length : Int) ≤ (ys.length : Int) := by omega
        have Hf := Lib.hid (show cmpB xs ys = 1 by rw [hc.out, drop_at hlt, drop_end (Nat.le_refl _)]; rfl)
        clear hc
        go_wp2_with fail
        go_ret
        exact ⟨ret_int Hf.out.symm, rfl⟩
    · obtain rfl : k = xs.length := by omega
      have hlt1 : ¬ (xs.length : Int) < (xs.length : Int) := by omega
      by_cases hl : xs.length < ys.length
      · have hl2 : (xs.length : Int) < (ys.length : Int) := by omega
        have Hf := Lib.hid (show cmpB xs ys = -1 by rw [hc.out, drop_end (Nat.le_refl _), drop_at hl]; rfl)
        clear hc
        go_wp2_with fail
        go_ret
        exact ⟨ret_int Hf.out.symm, rfl⟩
      · have hl2 : ¬ (xs.length : Int) < (ys.length : Int) := by omega
        have Hf := Lib.hid (show cmpB xs ys = 0 by rw [hc.out, drop_end (Nat.le_refl _), drop_end (by omega)]; rfl)
        have hl3 : decide (xs.length < ys.length) = false := by simp; omega
        clear hc
        go_wp2_with fail
        go_ret
        exact ⟨ret_int Hf.out.symm, rfl⟩

set_option maxRecDepth 100000 in
set_option maxHeartbeats 1000000 in
theorem implTrim_yes (v : Value) (xs : List Int) (w : World) (h : Ints w v xs) (hp : permOk xs = true) :
    Calls Tryz.prog 43 #[v] w (RetI w (trimL xs)) := by
  have hl : xs.length ≤ 7 := (of_decide_eq_true hp).2.1
  have Hp := Lib.hid hp
  clear hp
  have Hh := Lib.hid h
  obtain ⟨p, cap, rfl, ⟨hx1, hx⟩, hxc⟩ := h
  unfold maxLen at hx
  clear hxc
  go_enter Tryz.func43, Tryz.ntmps43
  go_wp2_with fail
  refine (implIsPerm_b _ xs _ Hp.out _ Hh.out).mono ?_
  rintro e w1 ⟨rfl, hb⟩
  have Hb := Lib.hid hb
  have Hh1 := Lib.hid (Hh.out.below hb)
  clear hb
  go_wp2_with fail
  go_loop [3] (fun s => ∃ n : Nat, n ≤ xs.length ∧ s = .int .i64 n ∧ Hid (trimN xs xs.length = trimN xs n)) (fun s => (intOf s).toNat)
  case atStart => exact ⟨xs.length, Nat.le_refl _, rfl, rfl⟩
  case round =>
    obtain ⟨n, hn, rfl, ht⟩ := hrel
    have fin : trimN xs n = n → Hid (trimN xs xs.length = n) := fun h => by rw [Hid, ht.out, h]
    by_cases h1 : 1 < n
    · have h2 : (1 : Int) < (n : Int) := by omega
      have i1 : (0 : Int) ≤ (n : Int) - 1 := by omega
      have i2 : (n : Int) - 1 < (xs.length : Int) := by omega
      have i3 : ((n : Int) - 1).toNat = n - 1 := by omega
      obtain ⟨_, _, e, _, hxc⟩ := Hh1.out
      injection e with e1 e2 e3
      subst e1 e3
      obtain ⟨b, off, rfl, hc⟩ := hxc (by omega)
      have c1 := hc (n - 1) (by omega)
      unfold iv at c1
      obtain ⟨x, hx'⟩ : ∃ x, x = xs.getD (n - 1) 0 := ⟨_, rfl⟩
      rw [← hx'] at c1
      have Ht := Lib.hid (show trimN xs n = if 1 ≤ n - 1 ∧ x = ((n - 1 : Nat) : Int) then trimN xs (n - 1) else n by
        obtain ⟨m, rfl⟩ : ∃ m, n = m + 1 := ⟨n - 1, by omega⟩
        rw [hx']; rfl)
      clear hx' hxc hc
      by_cases he : x = (n : Int) - 1
      · subst he
        have Hf := Lib.hid (show trimN xs xs.length = trimN xs (n - 1) by rw [ht.out, Ht.out, if_pos ⟨by omega, by omega⟩])
        clear Ht ht fin
        go_wp2_with fail
        go_round
        case rel => exact ⟨n - 1, by omega, by congr 1; omega, Hf.out⟩
        case measure => simp [intOf]; omega
      · have hz : (x == (n : Int) - 1) = false := by simp [he]
        have Hn := fin (by rw [Ht.out, if_neg (by rintro ⟨_, h⟩; omega)])
        have j1 : (0 : Int) ≤ (n : Int) := by omega
        have j2 : (n : Int) ≤ (cap : Int) := by omega
        clear Ht ht fin
        go_wp2_with fail
        refine (clone_any _ (xs.take n) _ (ints_take2 Hh1.out hn) (by rw [List.length_take]; omega)).mono ?_
        rintro e w2 ⟨u, rfl, ho, hb2⟩
        obtain ⟨pv, kv, rfl, _, _⟩ := ho.shape
        rw [show (xs.take n).length = n by rw [List.length_take]; omega] at ho ⊢
        have Ho := Lib.hid ho
        clear ho
        go_wp2_with fail
        go_ret
        refine ⟨_, rfl, ?_, ?_⟩
        · show OwnI _ _ _ _ _ (xs.take (trimN xs xs.length))
          rw [Hn.out]
          exact Ho.out.mono Hb.out.size (Nat.le_refl _)
        · exact Hb.out.trans (hb2.mono Hb.out.size)
    · have h2 : ¬ (1 : Int) < (n : Int) := by omega
      have Hn := fin (by
        match n, h1 with
        | 0, _ => rfl
        | 1, _ => rfl
        | n + 2, h => omega)
      have j1 : (0 : Int) ≤ (n : Int) := by omega
      have j2 : (n : Int) ≤ (cap : Int) := by omega
      clear ht fin
      go_wp2_with fail
      refine (clone_any _ (xs.take n) _ (ints_take2 Hh1.out hn) (by rw [List.length_take]; omega)).mono ?_
      rintro e w2 ⟨u, rfl, ho, hb2⟩
      obtain ⟨pv, kv, rfl, _, _⟩ := ho.shape
      rw [show (xs.take n).length = n by rw [List.length_take]; omega] at ho ⊢
      have Ho := Lib.hid ho
      clear ho
      go_wp2_with fail
      go_ret
      refine ⟨_, rfl, ?_, ?_⟩
      · show OwnI _ _ _ _ _ (xs.take (trimN xs xs.length))
        rw [Hn.out]
        exact Ho.out.mono Hb.out.size (Nat.le_refl _)
      · exact Hb.out.trans (hb2.mono Hb.out.size)

end Go.Proofs.YtgebjjpcgakjgaaGreat

namespace Go.Proofs.YtgebjjpcgakjgaaGreat
set_option linter.all false
open Go.RowKit

theorem ltB_irrefl : ∀ xs, ltB xs xs = false
  | [] => rfl
  | x :: xs => by unfold ltB; rw [if_neg (by omega), if_neg (by omega)]; exact ltB_irrefl xs
theorem ltB_total : ∀ xs ys, ltB xs ys = false → ltB ys xs = false → xs = ys
  | [], [], _, _ => rfl
  | [], _ :: _, h, _ => by simp [ltB] at h
  | _ :: _, [], _, h => by simp [ltB] at h
  | x :: xs, y :: ys, h1, h2 => by
    unfold ltB at h1 h2
    by_cases a : x < y
    · rw [if_pos a] at h1; cases h1
    · by_cases b : y < x
      · rw [if_pos b] at h2; cases h2
      · rw [if_neg a, if_neg b] at h1
        rw [if_neg b, if_neg a] at h2
        rw [ltB_total xs ys h1 h2, show x = y by omega]
theorem ltB_trans : ∀ xs ys zs, ltB xs ys = true → ltB ys zs = true → ltB xs zs = true
  | [], _, [], h1, h2 => by
    rename_i ys
    cases ys with
    | nil => simp [ltB] at h1
    | cons y ys => simp [ltB] at h2
  | [], _, _ :: _, _, _ => rfl
  | x :: xs, [], _, h1, _ => by simp [ltB] at h1
  | x :: xs, y :: ys, [], _, h2 => by simp [ltB] at h2
  | x :: xs, y :: ys, z :: zs, h1, h2 => by
    unfold ltB at h1 h2 ⊢
    by_cases a : x < y
    · by_cases b : y < z
      · rw [if_pos (by omega)]
      · rw [if_neg b] at h2
        by_cases c : z < y
        · rw [if_pos c] at h2; cases h2
        · rw [if_pos (by omega)]
    · rw [if_neg a] at h1
      by_cases a2 : y < x
      · rw [if_pos a2] at h1; cases h1
      · rw [if_neg a2] at h1
        by_cases b : y < z
        · rw [if_pos (by omega)]
        · rw [if_neg b] at h2
          by_cases c : z < y
          · rw [if_pos c] at h2; cases h2
          · rw [if_neg c] at h2
            rw [if_neg (by omega), if_neg (by omega)]
            exact ltB_trans xs ys zs h1 h2
theorem ltB_ntrans (xs ys zs : List Int) (h1 : ltB xs ys = false) (h2 : ltB ys zs = false) : ltB xs zs = false := by
  cases h : ltB xs zs with
  | false => rfl
  | true =>
    exfalso
    cases a : ltB ys xs with
    | true => rw [ltB_trans _ _ _ a h] at h2; cases h2
    | false =>
      rw [ltB_total _ _ h1 a] at h
      rw [h] at h2; cases h2
theorem ltB_asym {xs ys : List Int} (h : ltB xs ys = true) : ltB ys xs = false := by
  cases a : ltB ys xs with
  | false => rfl
  | true => have := ltB_trans _ _ _ h a; rw [ltB_irrefl] at this; cases this
theorem cmpB_neg (xs ys : List Int) : decide (cmpB xs ys < 0) = ltB xs ys := by
  have := cmpB_lt xs ys
  by_cases h : 0 ≤ cmpB xs ys
  · rw [decide_eq_true h] at this
    rw [decide_eq_false (by omega)]
    cases hl : ltB xs ys with
    | false => rfl
    | true => rw [hl] at this; cases this
  · rw [decide_eq_false h] at this
    rw [decide_eq_true (by omega)]
    cases hl : ltB xs ys with
    | false => rw [hl] at this; cases this
    | true => rfl

/-- put in where it belongs -/
def insC (c : Cls) : List Cls → List Cls
  | [] => [c]
  | x :: l => if ltB x.1 c.1 then x :: insC c l else c :: x :: l
def srtC (cs : List Cls) : List Cls := cs.foldl (fun l c => insC c l) []
theorem insC_perm (c : Cls) : ∀ l, (insC c l).Perm (c :: l)
  | [] => List.Perm.refl _
  | x :: l => by
    rw [insC]
    split
    · exact ((insC_perm c l).cons x).trans (List.Perm.swap c x l)
    · exact List.Perm.refl _
theorem insC_fold_perm : ∀ (cs acc : List Cls), (cs.foldl (fun l c => insC c l) acc).Perm (cs ++ acc)
  | [], acc => List.Perm.refl _
  | c :: cs, acc => by
    rw [List.foldl_cons]
    exact (insC_fold_perm cs _).trans (((insC_perm c acc).append_left cs).trans (List.perm_middle))
theorem srtC_perm (cs : List Cls) : (srtC cs).Perm cs := by
  have := insC_fold_perm cs []
  rw [List.append_nil] at this
  exact this
def AscC (cs : List Cls) : Prop := cs.Pairwise fun a b => ltB a.1 b.1 = true
theorem insC_asc {c : Cls} : ∀ {l : List Cls}, AscC l → (∀ x ∈ l, x.1 ≠ c.1) → AscC (insC c l)
  | [], _, _ => List.pairwise_singleton _ _
  | x :: l, h, hn => by
    obtain ⟨h1, h2⟩ := List.pairwise_cons.1 h
    rw [insC]
    by_cases e : ltB x.1 c.1 = true
    · rw [if_pos e]
      refine List.pairwise_cons.2 ⟨fun y hy => ?_, insC_asc h2 fun y hy => hn y (List.mem_cons_of_mem _ hy)⟩
      rcases List.mem_cons.1 ((insC_perm c l).mem_iff.1 hy) with rfl | hy
      · exact e
      · exact h1 y hy
    · rw [if_neg e]
      have e2 : ltB c.1 x.1 = true := by
        cases a : ltB c.1 x.1 with
        | true => rfl
        | false => exact absurd (ltB_total _ _ (by simpa using e) a) (hn x List.mem_cons_self)
      refine List.pairwise_cons.2 ⟨fun y hy => ?_, h⟩
      rcases List.mem_cons.1 hy with rfl | hy
      · exact e2
      · exact ltB_trans _ _ _ e2 (h1 y hy)
theorem fold_asc : ∀ (cs acc : List Cls), AscC acc → ((cs ++ acc).map (·.1)).Nodup → AscC (cs.foldl (fun l c => insC c l) acc)
  | [], acc, h, _ => h
  | c :: cs, acc, h, hn => by
    rw [List.foldl_cons]
    have hn' := hn
    rw [List.cons_append, List.map_cons, List.nodup_cons] at hn'
    refine fold_asc cs _ (insC_asc h fun x hx e => hn'.1 ?_) ?_
    · rw [← e]
      exact List.mem_map.2 ⟨x, List.mem_append_right _ hx, rfl⟩
    · refine (List.Perm.nodup_iff ?_).2 hn
      exact (((insC_perm c acc).append_left cs).trans List.perm_middle).map _
theorem srtC_asc {cs : List Cls} (h : (cs.map (·.1)).Nodup) : AscC (srtC cs) := fold_asc cs [] List.Pairwise.nil (by rw [List.append_nil]; exact h)
theorem asc_one : ∀ {a b : List Cls}, AscC a → AscC b → a.Perm b → a = b
  | [], b, _, _, h => (List.nil_perm.1 h).symm
  | x :: a, [], _, _, h => absurd h.length_eq (by simp)
  | x :: a, y :: b, ha, hb, h => by
    obtain ⟨a1, a2⟩ := List.pairwise_cons.1 ha
    obtain ⟨b1, b2⟩ := List.pairwise_cons.1 hb
    have hx : x ∈ y :: b := h.mem_iff.1 List.mem_cons_self
    have hy : y ∈ x :: a := h.mem_iff.2 List.mem_cons_self
    have e : x = y := by
      rcases List.mem_cons.1 hx with e | hx
      · exact e
      · rcases List.mem_cons.1 hy with e | hy
        · exact e.symm
        · have c1 := b1 x hx
          have c2 := a1 y hy
          rw [ltB_asym c1] at c2; cases c2
    subst e
    rw [asc_one a2 b2 (List.Perm.cons_inv h)]
/-- what is sorted is what insertion makes -/
theorem srtC_eq {cs cs' : List Cls} (hn : (cs.map (·.1)).Nodup) (hp : cs'.Perm cs) (hs : cs'.Pairwise fun a b => ltB b.1 a.1 = false) : cs' = srtC cs := by
  refine asc_one ?_ (srtC_asc hn) (hp.trans (srtC_perm cs).symm)
  have hn' : (cs'.map (·.1)).Nodup := (List.Perm.nodup_iff (hp.map _)).2 hn
  have key : ∀ l : List Cls, (l.map (·.1)).Nodup → (l.Pairwise fun a b => ltB b.1 a.1 = false) → AscC l := fun l => by
    induction l with
    | nil => exact fun _ _ => List.Pairwise.nil
    | cons x l ih =>
      intro h1 h2
      rw [List.map_cons, List.nodup_cons] at h1
      obtain ⟨p1, p2⟩ := List.pairwise_cons.1 h2
      refine List.pairwise_cons.2 ⟨fun y hy => ?_, ih h1.2 p2⟩
      cases a : ltB x.1 y.1 with
      | true => rfl
      | false => exact absurd (List.mem_map.2 ⟨y, hy, ltB_total _ _ (p1 y hy) a⟩) h1.1
  exact key cs' hn' hs

end Go.Proofs.YtgebjjpcgakjgaaGreat

namespace Go.Proofs.YtgebjjpcgakjgaaGreat
set_option linter.all false
set_option maxRecDepth 100000
open Go.RowKit

/-- the comparison of the first k exponents, from the last on -/
def cmpK (xs ys : List Int) : Nat → Int
  | 0 => 0
  | k + 1 => if xs.getD k 0 = ys.getD k 0 then cmpK xs ys k else ys.getD k 0 - xs.getD k 0
def cmpT (xs ys : List Int) : Int := cmpK xs ys 7
def rvK (xs : List Int) : Nat → List Int
  | 0 => []
  | k + 1 => -(xs.getD k 0) :: rvK xs k
def rvT (xs : List Int) : List Int := (xs.map fun x => -x).reverse
theorem rvK_eq (xs : List Int) : ∀ k, k ≤ xs.length → rvK xs k = ((xs.take k).map fun x => -x).reverse
  | 0, _ => by simp [rvK]
  | k + 1, h => by
    rw [rvK, rvK_eq xs k (by omega), List.take_succ_eq_append_getElem (by omega), List.map_append, List.reverse_append, List.getD_eq_getElem?_getD, List.getElem?_eq_getElem (show k < xs.length by omega)]
    rfl
theorem rvK_all {xs : List Int} (h : xs.length = 7) : rvK xs 7 = rvT xs := by
  rw [rvK_eq xs 7 (by omega), ← h, List.take_length]; rfl
theorem cmpK_lt (xs ys : List Int) : ∀ k, decide (cmpK xs ys k < 0) = ltB (rvK xs k) (rvK ys k)
  | 0 => rfl
  | k + 1 => by
    rw [rvK, rvK, ltB, cmpK]
    by_cases e : xs.getD k 0 = ys.getD k 0
    · rw [if_pos e, if_neg (by omega), if_neg (by omega)]
      exact cmpK_lt xs ys k
    · rw [if_neg e]
      by_cases h : -(xs.getD k 0) < -(ys.getD k 0)
      · rw [if_pos h]; exact decide_eq_true (by omega)
      · rw [if_neg h, if_pos (by omega)]; exact decide_eq_false (by omega)
def ltT (xs ys : List Int) : Bool := ltB (rvT xs) (rvT ys)
theorem cmpT_neg {xs ys : List Int} (hx : xs.length = 7) (hy : ys.length = 7) : decide (cmpT xs ys < 0) = ltT xs ys := by
  unfold cmpT ltT
  rw [cmpK_lt, rvK_all hx, rvK_all hy]
theorem cmpK_anti (xs ys : List Int) : ∀ k, cmpK ys xs k = -(cmpK xs ys k)
  | 0 => rfl
  | k + 1 => by
    rw [cmpK, cmpK, cmpK_anti xs ys k]
    split
    · rename_i h; rw [if_pos h.symm]
    · rename_i h; rw [if_neg (fun e => h e.symm)]; omega
theorem rvT_inj {xs ys : List Int} (h : rvT xs = rvT ys) : xs = ys := by
  have h1 := List.reverse_inj.1 h
  exact (List.map_inj_right fun a b e => by omega).1 h1
theorem ltT_irrefl (xs : List Int) : ltT xs xs = false := ltB_irrefl _
theorem ltT_total (xs ys : List Int) (h1 : ltT xs ys = false) (h2 : ltT ys xs = false) : xs = ys := rvT_inj (ltB_total _ _ h1 h2)
theorem ltT_trans (xs ys zs : List Int) (h1 : ltT xs ys = true) (h2 : ltT ys zs = true) : ltT xs zs = true := ltB_trans _ _ _ h1 h2
theorem ltT_ntrans (xs ys zs : List Int) (h1 : ltT xs ys = false) (h2 : ltT ys zs = false) : ltT xs zs = false := ltB_ntrans _ _ _ h1 h2
theorem ltT_asym {xs ys : List Int} (h : ltT xs ys = true) : ltT ys xs = false := ltB_asym h
theorem cmpT_rng {xs ys : List Int} {d : Int} (hx : ∀ j, 0 ≤ xs.getD j 0 ∧ xs.getD j 0 ≤ d) (hy : ∀ j, 0 ≤ ys.getD j 0 ∧ ys.getD j 0 ≤ d) (h0 : 0 ≤ d) : ∀ k, -d ≤ cmpK xs ys k ∧ cmpK xs ys k ≤ d
  | 0 => by unfold cmpK; omega
  | k + 1 => by
    have := cmpT_rng hx hy h0 k
    unfold cmpK
    have a := hx k
    have b := hy k
    split <;> omega

/-- put in where it belongs -/
def insT (c : Cls) : List Cls → List Cls
  | [] => [c]
  | x :: l => if ltT x.1 c.1 then x :: insT c l else c :: x :: l
def srtT (cs : List Cls) : List Cls := cs.foldl (fun l c => insT c l) []
theorem insT_perm (c : Cls) : ∀ l, (insT c l).Perm (c :: l)
  | [] => List.Perm.refl _
  | x :: l => by
    rw [insT]
    split
    · exact ((insT_perm c l).cons x).trans (List.Perm.swap c x l)
    · exact List.Perm.refl _
theorem insT_fold_perm : ∀ (cs acc : List Cls), (cs.foldl (fun l c => insT c l) acc).Perm (cs ++ acc)
  | [], acc => List.Perm.refl _
  | c :: cs, acc => by
    rw [List.foldl_cons]
    exact (insT_fold_perm cs _).trans (((insT_perm c acc).append_left cs).trans (List.perm_middle))
theorem srtT_perm (cs : List Cls) : (srtT cs).Perm cs := by
  have := insT_fold_perm cs []
  rw [List.append_nil] at this
  exact this
def AscT (cs : List Cls) : Prop := cs.Pairwise fun a b => ltT a.1 b.1 = true
theorem insT_asc {c : Cls} : ∀ {l : List Cls}, AscT l → (∀ x ∈ l, x.1 ≠ c.1) → AscT (insT c l)
  | [], _, _ => List.pairwise_singleton _ _
  | x :: l, h, hn => by
    obtain ⟨h1, h2⟩ := List.pairwise_cons.1 h
    rw [insT]
    by_cases e : ltT x.1 c.1 = true
    · rw [if_pos e]
      refine List.pairwise_cons.2 ⟨fun y hy => ?_, insT_asc h2 fun y hy => hn y (List.mem_cons_of_mem _ hy)⟩
      rcases List.mem_cons.1 ((insT_perm c l).mem_iff.1 hy) with rfl | hy
      · exact e
      · exact h1 y hy
    · rw [if_neg e]
      have e2 : ltT c.1 x.1 = true := by
        cases a : ltT c.1 x.1 with
        | true => rfl
        | false => exact absurd (ltT_total _ _ (by simpa using e) a) (hn x List.mem_cons_self)
      refine List.pairwise_cons.2 ⟨fun y hy => ?_, h⟩
      rcases List.mem_cons.1 hy with rfl | hy
      · exact e2
      · exact ltT_trans _ _ _ e2 (h1 y hy)
theorem foldT_asc : ∀ (cs acc : List Cls), AscT acc → ((cs ++ acc).map (·.1)).Nodup → AscT (cs.foldl (fun l c => insT c l) acc)
  | [], acc, h, _ => h
  | c :: cs, acc, h, hn => by
    rw [List.foldl_cons]
    have hn' := hn
    rw [List.cons_append, List.map_cons, List.nodup_cons] at hn'
    refine foldT_asc cs _ (insT_asc h fun x hx e => hn'.1 ?_) ?_
    · rw [← e]
      exact List.mem_map.2 ⟨x, List.mem_append_right _ hx, rfl⟩
    · refine (List.Perm.nodup_iff ?_).2 hn
      exact (((insT_perm c acc).append_left cs).trans List.perm_middle).map _
theorem srtT_asc {cs : List Cls} (h : (cs.map (·.1)).Nodup) : AscT (srtT cs) := foldT_asc cs [] List.Pairwise.nil (by rw [List.append_nil]; exact h)
theorem ascT_one : ∀ {a b : List Cls}, AscT a → AscT b → a.Perm b → a = b
  | [], b, _, _, h => (List.nil_perm.1 h).symm
  | x :: a, [], _, _, h => absurd h.length_eq (by simp)
  | x :: a, y :: b, ha, hb, h => by
    obtain ⟨a1, a2⟩ := List.pairwise_cons.1 ha
    obtain ⟨b1, b2⟩ := List.pairwise_cons.1 hb
    have hx : x ∈ y :: b := h.mem_iff.1 List.mem_cons_self
    have hy : y ∈ x :: a := h.mem_iff.2 List.mem_cons_self
    have e : x = y := by
      rcases List.mem_cons.1 hx with e | hx
      · exact e
      · rcases List.mem_cons.1 hy with e | hy
        · exact e.symm
        · have c1 := b1 x hx
          have c2 := a1 y hy
          rw [ltT_asym c1] at c2; cases c2
    subst e
    rw [ascT_one a2 b2 (List.Perm.cons_inv h)]
/-- what is sorted is what insertion makes -/
theorem srtT_eq {cs cs' : List Cls} (hn : (cs.map (·.1)).Nodup) (hp : cs'.Perm cs) (hs : cs'.Pairwise fun a b => ltT b.1 a.1 = false) : cs' = srtT cs := by
  refine ascT_one ?_ (srtT_asc hn) (hp.trans (srtT_perm cs).symm)
  have hn' : (cs'.map (·.1)).Nodup := (List.Perm.nodup_iff (hp.map _)).2 hn
  have key : ∀ l : List Cls, (l.map (·.1)).Nodup → (l.Pairwise fun a b => ltT b.1 a.1 = false) → AscT l := fun l => by
    induction l with
    | nil => exact fun _ _ => List.Pairwise.nil
    | cons x l ih =>
      intro h1 h2
      rw [List.map_cons, List.nodup_cons] at h1
      obtain ⟨p1, p2⟩ := List.pairwise_cons.1 h2
      refine List.pairwise_cons.2 ⟨fun y hy => ?_, ih h1.2 p2⟩
      cases a : ltT x.1 y.1 with
      | true => rfl
      | false => exact absurd (List.mem_map.2 ⟨y, hy, ltT_total _ _ (p1 y hy) a⟩) h1.1
  exact key cs' hn' hs

end Go.Proofs.YtgebjjpcgakjgaaGreat

namespace Go.Proofs.YtgebjjpcgakjgaaGreat
set_option linter.all false
open Go.RowKit

def fact : Nat → Nat
  | 0 => 1
  | n + 1 => (n + 1) * fact n
theorem fact_pos (n : Nat) : 1 ≤ fact n := by
  induction n with
  | zero => exact Nat.le_refl _
  | succ n ih => exact Nat.le_trans ih (Nat.le_mul_of_pos_left _ (Nat.succ_pos n))
theorem fact_le {a b : Nat} (h : a ≤ b) : fact a ≤ fact b := by
  induction h with
  | refl => exact Nat.le_refl _
  | step _ ih => exact Nat.le_trans ih (Nat.le_mul_of_pos_left _ (Nat.succ_pos _))

/-- the left-th number that is not in out is put behind it -/
def decGo (out : List Int) : Nat → Nat → Nat → List Int
  | 0, _, _ => out
  | f + 1, v, left => if (v : Int) ∈ out then decGo out f (v + 1) left else if left = 0 then out ++ [(v : Int)] else decGo out f (v + 1) (left - 1)
def decL (n : Nat) (c : List Nat) : List Int := c.foldl (fun out left => decGo out n 0 left) []
theorem decL_snoc (n : Nat) (c : List Nat) (x : Nat) : decL n (c ++ [x]) = decGo (decL n c) n 0 x := by simp [decL]

theorem decGo_len (out : List Int) (f v left : Nat) : (decGo out f v left).length ≤ out.length + 1 := by
  induction f generalizing v left with
  | zero => simp [decGo]
  | succ f ih =>
    unfold decGo
    split
    · exact ih _ _
    · split
      · simp
      · exact ih _ _
theorem decL_len (n : Nat) (c : List Nat) (k : Nat) : (decL n (c.take k)).length ≤ k := by
  induction k with
  | zero => simp [decL]
  | succ k ih =>
    by_cases h : k < c.length
    · have e : c.take (k + 1) = c.take k ++ [c[k]] := by rw [List.take_add_one, List.getElem?_eq_getElem h]; rfl
      rw [e, decL_snoc]
      exact Nat.le_trans (decGo_len _ _ _ _) (by omega)
    · rw [List.take_of_length_le (by omega)]
      rw [List.take_of_length_le (by omega)] at ih
      omega

set_option maxRecDepth 100000 in
set_option maxHeartbeats 2000000 in
theorem specDecode_any (v : Value) (c : List Nat) (w : World) (h : Ints w v (c.map Int.ofNat)) (hn : c.length ≤ 100) (hs : ∀ x ∈ c, x ≤ 1000000) :
    Calls Tryz.prog 33 #[v] w (RetI w (decL c.length c)) := by
  obtain ⟨p, cap, rfl, ⟨hx1, hx⟩, hxc⟩ := h
  rw [List.length_map] at *
  unfold maxLen at hx
  have Hxc := Lib.hid hxc
  have Hs := Lib.hid hs
  clear hxc hs
  go_enter Tryz.func33, Tryz.ntmps33
  go_wp2
  go_loopg [3, 4] c.length (fun g s3 i wr => ∃ k : Nat, k ≤ c.length ∧ g = c.length - k ∧ i = .int .i64 k ∧ Below w.heap.size w wr ∧ OwnI 3 wr w.heap.size wr.heap.size s3 (decL c.length (c.take k)))
  case atStart => exact ⟨0, Nat.zero_le _, rfl, rfl, below_alloc _ _, (OwnF.ints (xs := []) ((OwnF.made0 w _ _))).mono (Nat.le_refl _) (by simp)⟩
  case round =>
    obtain ⟨k, hk, rfl, rfl, hb, ho⟩ := hrel
    by_cases hlt : k < c.length
    · obtain ⟨b, off, rfl, hc⟩ := Hxc.out (by omega)
      have c1 := cell_below hb (hc k hlt)
      have e1 : iv (c.map Int.ofNat) k = .int .i64 (c.getD k 0 : Nat) := by simp [iv, List.getD_eq_getElem?_getD, hlt]
      rw [e1] at c1
      have hck : c.getD k 0 ≤ 1000000 := Hs.out _ (by simp [List.getD_eq_getElem?_getD, hlt])
      have e2 : decL c.length (c.take (k + 1)) = decGo (decL c.length (c.take k)) c.length 0 (c.getD k 0) := by
        rw [List.take_add_one, List.getElem?_eq_getElem hlt]
        simp only [Option.toList]
        rw [decL_snoc]
        simp [List.getD_eq_getElem?_getD, hlt]
      have hln := decL_len c.length c k
      generalize hX : c.getD k 0 = X at c1 hck e2
      generalize hO : decL c.length (c.take k) = out at ho e2 hln
      have E2 := Lib.hid e2
      have Ho := Lib.hid ho
      obtain ⟨p3, k3, rfl, _, _⟩ := ho.shape
      clear hc e1 e2 hX hO ho
      obtain ⟨wo, rfl⟩ : ∃ x : World, x = wr := ⟨_, rfl⟩
      go_wp2
      go_loopg [3, 5, 6] c.length (fun g s3 s5 s6 wr => ∃ left v : Nat, v ≤ c.length ∧ left ≤ 1000000 ∧ g = c.length - v ∧ s3 = .slice p3 out.length k3 ∧ s5 = .int .i64 left ∧ s6 = .int .i64 v ∧ Qt wo wr ∧ Hid (decGo out (c.length - v) v left = decGo out c.length 0 X))
      case atStart => exact ⟨X, 0, Nat.zero_le _, hck, rfl, rfl, rfl, rfl, Qt.refl _, rfl⟩
      case round =>
        obtain ⟨left, v, hv, hleft, rfl, rfl, rfl, rfl, hq, hg⟩ := hrel
        by_cases hvlt : v < c.length
        · by_cases hmem : (v : Int) ∈ out
          · have hc := l1Has_any _ out v wr (Ho.out.ints.qt hq)
            rw [decide_eq_true hmem] at hc
            have Hc := Lib.hid hc
            have hg2 : decGo out (c.length - (v + 1)) (v + 1) left = decGo out c.length 0 X := by
              rw [← hg.out, show c.length - v = (c.length - (v + 1)) + 1 by omega]
              simp [decGo, hmem]
            have Hg2 := Lib.hid hg2
            clear hc hg hg2 hmem
            go_wp2_with fail
            refine Hc.out.mono ?_
            rintro e w1 ⟨rfl, hq1⟩
            go_wp2_with fail
            go_roundg (c.length - (v + 1))
            case measure => omega
            case rel => exact ⟨left, v + 1, by omega, hleft, rfl, rfl, rfl, by go_num, hq.trans hq1, Hg2.out⟩
          · have hc := l1Has_any _ out v wr (Ho.out.ints.qt hq)
            rw [decide_eq_false hmem] at hc
            have Hc := Lib.hid hc
            by_cases hl0 : left = 0
            · subst hl0
              have hg2 : out ++ [(v : Int)] = decGo out c.length 0 X := by
                rw [← hg.out, show c.length - v = (c.length - (v + 1)) + 1 by omega]
                simp [decGo, hmem]
              have Hg2 := Lib.hid hg2
              clear hc hg hg2 hmem
              go_wp2_with fail
              refine Hc.out.mono ?_
              rintro e w1 ⟨rfl, hq1⟩
              have Hq1 := Lib.hid (hq.trans hq1)
              have Ho1 := Lib.hid (Ho.out.below (Hq1.out.below _))
              have Hb1 := Lib.hid (show out.length + 1 ≤ maxLen by unfold maxLen; omega)
              have Hb2 := Lib.hid (show (out.length + 1) * 8 ≤ 140737488355328 by omega)
              have Hsz : Hid (w1.heap.size = wo.heap.size) := by unfold Hid; rw [Hq1.out.size]
              have hsw := hb.size
              go_wp2_with (at_builtin; go_must (refine wpList_append_F rfl (.tmp 29) (.tmp 31) 24 rfl 3 (.int .i64 0) 8 Tryz.underlying24 info_int rfl w.heap.size wo.heap.size _ out.length (iv out) rfl ((Ho1.out.below (below_alloc _ _)).fn) (by have := Hsz.out; simp; omega) (by have := Hsz.out; simp; omega) _ _ _ rfl (rd_one _ _ _ rfl) (fun j _ => rfl) Hb1.out Hb2.out ?_; intro v' w' ho' hg'))
              have hsw' := hg'.size
              simp only [size_alloc] at hsw'
              have hsz := Hsz.out
              have hblow : Below w.heap.size wo w' := (Hq1.out.below _).trans (((below_alloc w1 _).mono (by omega)).trans (grownBy_below hg' Ho1.out.fn.blocks (Nat.le_refl _) (by simp; omega)))
              go_roundg (c.length - (k + 1))
              case measure => omega
              case rel =>
                refine ⟨k + 1, by omega, rfl, by go_num, hb.trans hblow, ?_⟩
                rw [E2.out, ← Hg2.out]
                refine OwnF.ints ?_
                rw [List.length_append]
                exact ho'.congr fun j hj => by
                  by_cases h : j < out.length
                  · simp [h, iv, List.getD_eq_getElem?_getD, List.getElem?_append_left h]
                  · have : j = out.length := by omega
                    subst this
                    simp [iv, List.getD_eq_getElem?_getD]
            · have hg2 : decGo out (c.length - (v + 1)) (v + 1) (left - 1) = decGo out c.length 0 X := by
                rw [← hg.out, show c.length - v = (c.length - (v + 1)) + 1 by omega]
                simp [decGo, hmem, hl0]
              have Hg2 := Lib.hid hg2
              clear hc hg hg2 hmem
              go_wp2_with fail
              refine Hc.out.mono ?_
              rintro e w1 ⟨rfl, hq1⟩
              go_wp2_with fail
              go_roundg (c.length - (v + 1))
              case measure => omega
              case rel => exact ⟨left - 1, v + 1, by omega, by omega, rfl, rfl, by go_num, by go_num, hq.trans hq1, Hg2.out⟩
        · have hv2 : v = c.length := by omega
          subst hv2
          have hg2 : out = decGo out c.length 0 X := by
            rw [← hg.out, Nat.sub_self]; rfl
          have Hg2 := Lib.hid hg2
          clear hg hg2
          go_wp2_with fail
          go_roundg (c.length - (k + 1))
          case measure => omega
          case rel =>
            refine ⟨k + 1, by omega, rfl, by go_num, hb.trans (hq.below _), ?_⟩
            rw [E2.out, ← Hg2.out, hq.size]
            exact Ho.out.below (hq.below _)
    · go_wp2
      go_ret
      obtain rfl : k = c.length := by omega
      rw [List.take_length] at ho
      exact ⟨_, rfl, ho, hb⟩

end Go.Proofs.YtgebjjpcgakjgaaGreat
