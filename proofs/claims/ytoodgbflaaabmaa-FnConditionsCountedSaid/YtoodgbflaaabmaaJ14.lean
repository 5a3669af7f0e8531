/-
  Slices of structs, any number of one-cell fields an element: over any program.
  Slices of matrices: what they hold; compared, marked, looked through by the law's own helpers.
  All matrices with any numbers at some places: spec.l7Power, spec.l7Fill, impl.matricesWith.
  slices.Index and slices.Contains at []int.
-/
import Derived.Test.YtoodgbflaaabmaaJ9
import Derived.Lib.OwnKind
import Derived.Test.YtoodgbflaaabmaaJ5
import Derived.Test.YtoodgbflaaabmaaJ4
import Derived.Test.YtoodgbflaaabmaaJ2
import Derived.Test.YtoodgbflaaabmaaJ1
namespace Go.Proofs.Ytoodgbflaaabmaa
set_option linter.all false
open Go.RowKit

/-- a slice that can be read: n elements of so many cells each -/
def RdS (w : World) (size : Nat) (v : Value) (n : Nat) (F : Nat → Nat → Value) : Prop :=
  ∃ p cap, v = .slice p n cap ∧ (n ≤ cap ∧ cap ≤ maxLen) ∧ (0 < n → ∃ b, p = some ⟨b, 0, none⟩ ∧ ∀ i, i < n → ∀ j, j < size → w.cell? ⟨b, i * size + j, none⟩ = some (F i j))
theorem RdS.of_cells {w w' : World} {size : Nat} {v : Value} {n : Nat} {F : Nat → Nat → Value} (h : RdS w size v n F) (hc : ∀ a x, w.cell? a = some x → w'.cell? a = some x) : RdS w' size v n F := by
  obtain ⟨p, cap, rfl, hm, h⟩ := h
  refine ⟨p, cap, rfl, hm, fun h0 => ?_⟩
  obtain ⟨b, hp, hx⟩ := h h0
  exact ⟨b, hp, fun i hi j hj => hc _ _ (hx i hi j hj)⟩
theorem RdS.below {w w' : World} {size : Nat} {v : Value} {n : Nat} {F : Nat → Nat → Value} (h : RdS w size v n F) (hb : Below w.heap.size w w') : RdS w' size v n F :=
  h.of_cells fun a x hx => by rw [hb.cell (World.block_lt_of_cell? w a hx)]; exact hx
theorem RdS.qt {w w' : World} {size : Nat} {v : Value} {n : Nat} {F : Nat → Nat → Value} (h : RdS w size v n F) (q : Qt w w') : RdS w' size v n F := h.of_cells fun _ _ hx => q.cell hx
theorem RdS.congr {w : World} {size : Nat} {v : Value} {n : Nat} {F G : Nat → Nat → Value} (h : RdS w size v n F) (e : ∀ i, i < n → ∀ j, j < size → F i j = G i j) : RdS w size v n G := by
  obtain ⟨p, cap, rfl, hm, h⟩ := h
  refine ⟨p, cap, rfl, hm, fun h0 => ?_⟩
  obtain ⟨b, hp, hx⟩ := h h0
  exact ⟨b, hp, fun i hi j hj => by rw [← e i hi j hj]; exact hx i hi j hj⟩

/-- a slice of structs that a call made -/
def OwnS (w : World) (lo hi : Nat) (T : TypeId) (size : Nat) (v : Value) (n : Nat) (F : Nat → Nat → Value) : Prop :=
  ∃ xs, Own w lo hi T size v n xs ∧ ∀ i, i < n → ∀ j, j < size → xs[i * size + j]? = some (F i j)

namespace OwnS
variable {w w' : World} {lo hi : Nat} {T : TypeId} {size : Nat} {v : Value} {n : Nat} {F : Nat → Nat → Value}
theorem rd (h : OwnS w lo hi T size v n F) : RdS w size v n F := by
  obtain ⟨xs, h, hf⟩ := h
  rcases h.1.2 with ⟨rfl, e⟩ | ⟨g, cap, cur, rfl, _, _, hm, hm2, _⟩
  · exact ⟨none, 0, by rw [e], ⟨by omega, Nat.zero_le _⟩, fun h0 => absurd h0 (by omega)⟩
  · refine ⟨_, cap, rfl, ⟨hm, hm2⟩, fun _ => ⟨g, rfl, fun i hi j hj => ?_⟩⟩
    have hadd : ∀ j, (⟨g, 0, none⟩ : Addr).add j = ⟨g, 0 + j, none⟩ := fun j => by unfold Addr.add; split <;> simp_all
    have c1 := h.1.cells (g := g) rfl _ _ (hf i hi j hj)
    rw [hadd, Nat.zero_add] at c1
    exact c1
theorem shape (h : OwnS w lo hi T size v n F) : ∃ p cap, v = .slice p n cap ∧ n ≤ cap ∧ cap ≤ maxLen ∧ (0 < n → ∃ g, p = some ⟨g, 0, none⟩ ∧ lo ≤ g ∧ g < hi ∧ g < w.heap.size) := by
  obtain ⟨xs, h, hf⟩ := h
  have hb := fun k hk => h.block (k := k) hk
  rcases h.1.2 with ⟨rfl, e⟩ | ⟨g, cap, cur, rfl, _, _, hm, hm2, _⟩
  · exact ⟨none, 0, by rw [e], by omega, Nat.zero_le _, fun h0 => absurd h0 (by omega)⟩
  · exact ⟨_, cap, rfl, hm, hm2, fun _ => ⟨g, rfl, hb g rfl⟩⟩
theorem at_ {p : Option Addr} {cap : Nat} (h : OwnS w lo hi T size (.slice p n cap) n F) (h0 : 0 < n) : ∃ g, p = some ⟨g, 0, none⟩ ∧ lo ≤ g ∧ g < hi ∧ g < w.heap.size := by
  obtain ⟨q, c, e, _, _, h⟩ := h.shape
  injection e with e1 e2 e3
  subst e1
  exact h h0
theorem cell {g n' cap : Nat} (h : OwnS w lo hi T size (.slice (some ⟨g, 0, none⟩) n' cap) n F) {i j : Nat} (hi : i < n) (hj : j < size) : w.cell? ⟨g, i * size + j, none⟩ = some (F i j) := by
  obtain ⟨p, c, e, _, h⟩ := h.rd
  injection e with e1 _ _
  obtain ⟨b, e2, h⟩ := h (by omega)
  rw [← e1] at e2
  obtain rfl : g = b := by injection e2 with e2; injection e2
  exact h i hi j hj
theorem frozen {g n' cap : Nat} (h : OwnS w lo hi T size (.slice (some ⟨g, 0, none⟩) n' cap) n F) (j : Nat) : w.frozen? ⟨g, j, none⟩ = false := by
  obtain ⟨xs, h, _⟩ := h
  rcases h.1.2 with ⟨h', _⟩ | ⟨g', cap', cur, h', _, hg, _⟩
  · simp at h'
  · simp only [Value.slice.injEq, Option.some.injEq, Addr.mk.injEq, and_true, true_and] at h'
    obtain ⟨rfl, _, _⟩ := h'
    exact free_of_blk hg j
theorem congr {G : Nat → Nat → Value} (h : OwnS w lo hi T size v n F) (e : ∀ i, i < n → ∀ j, j < size → F i j = G i j) : OwnS w lo hi T size v n G := by
  obtain ⟨xs, h, hf⟩ := h
  exact ⟨xs, h, fun i hi j hj => by rw [← e i hi j hj]; exact hf i hi j hj⟩
theorem keep (h : OwnS w lo hi T size v n F) (hb : ∀ k, lo ≤ k → k < hi → k < w.heap.size → w'.heap[k]? = w.heap[k]?) : OwnS w' lo hi T size v n F := by
  obtain ⟨xs, h, hf⟩ := h
  exact ⟨xs, h.keep hb, hf⟩
theorem below (h : OwnS w lo hi T size v n F) (hb : Below w.heap.size w w') : OwnS w' lo hi T size v n F := h.keep fun k _ _ h3 => hb.block k h3
theorem frm {lo' hi' : Nat} (h : OwnS w lo hi T size v n F) (hb : Frm lo' hi' w w') (ho : hi ≤ lo' ∨ hi' ≤ lo) : OwnS w' lo hi T size v n F := h.keep fun k h1 h2 h3 => hb.block k h3 (by omega)
theorem mono {lo' hi' : Nat} (h : OwnS w lo hi T size v n F) (h1 : lo' ≤ lo) (h2 : hi ≤ hi') : OwnS w lo' hi' T size v n F := by
  obtain ⟨xs, h, hf⟩ := h
  exact ⟨xs, h.mono h1 h2, hf⟩
theorem besides {lo' hi' : Nat} (h : OwnS w lo hi T size v n F) (hf : Frm lo' hi' w w') (hne : ∀ b, v.ownBlock = some b → b < lo' ∨ hi' ≤ b) : OwnS w' lo hi T size v n F := by
  obtain ⟨xs, h, hx⟩ := h
  exact ⟨xs, ⟨ownsRow_of_block h.1 fun b hb => hf.block b (Own.block h hb).2.2 (hne b hb), h.2⟩, hx⟩
theorem blocks (h : OwnS w lo hi T size v n F) : ∀ k, v.ownBlock = some k → lo ≤ k ∧ k < hi := by
  obtain ⟨xs, h, _⟩ := h
  exact fun k hk => ⟨(h.block hk).1, (h.block hk).2.1⟩
theorem kind (h : OwnS w lo hi T size v n F) : ∀ g, v.ownBlock = some g → ∃ c fz, w.heap[g]? = some (.cells c T fz) := by
  obtain ⟨xs, h, _⟩ := h
  exact Lib.ownsRow_kind h.1
theorem setCell (h : OwnS w lo hi T size v n F) {a : Addr} (ho : a.block < lo ∨ hi ≤ a.block) (u : Value) : OwnS (w.setCell a u) lo hi T size v n F := by
  obtain ⟨xs, h, hf⟩ := h
  exact ⟨xs, h.setCell ho u, hf⟩
/-- a field of an element is written -/
theorem set {g n' cap : Nat} (h : OwnS w lo hi T size (.slice (some ⟨g, 0, none⟩) n' cap) n F) {i0 j0 : Nat} (hi0 : i0 < n) (hj0 : j0 < size) (u : Value) :
    OwnS (w.setCell ⟨g, i0 * size + j0, none⟩ u) lo hi T size (.slice (some ⟨g, 0, none⟩) n' cap) n (fun i j => if i = i0 ∧ j = j0 then u else F i j) := by
  obtain ⟨xs, h, hf⟩ := h
  have hle : ∀ i j, i < n → j < size → i * size + j < n * size := fun i j hi hj => by
    have : (i + 1) * size ≤ n * size := Nat.mul_le_mul_right _ hi
    rw [Nat.add_mul] at this; omega
  obtain ⟨q, c, e, _⟩ := (OwnS.shape ⟨xs, h, hf⟩ : _)
  have en : n' = n := by injection e
  subst en
  refine ⟨xs.set (i0 * size + j0) u, ⟨(World.ownsRow.stored h.1 _ u).1, h.2⟩, fun i hi j hj => ?_⟩
  rw [List.getElem?_set]
  by_cases e : i = i0 ∧ j = j0
  · obtain ⟨rfl, rfl⟩ := e
    have hlt : i * size + j < xs.length := by rw [h.len]; exact hle _ _ hi0 hj0
    simp [hlt]
  · show _ = some (if i = i0 ∧ j = j0 then u else F i j)
    rw [if_neg e, if_neg fun c => e ?_]
    · exact hf i hi j hj
    · have h1 := Nat.mul_add_mod' i size j
      have h2 := Nat.mul_add_mod' i0 size j0
      rw [Nat.mod_eq_of_lt hj] at h1
      rw [Nat.mod_eq_of_lt hj0] at h2
      have : j = j0 := by rw [← h1, ← h2, c]
      subst this
      exact ⟨Nat.eq_of_mul_eq_mul_right (by omega) (by omega : i * size = i0 * size), rfl⟩
theorem nil (w : World) (lo hi : Nat) (T : TypeId) (size : Nat) (F : Nat → Nat → Value) : OwnS w lo hi T size (.slice none 0 0) 0 F :=
  ⟨[], ⟨World.ownsRow_nil _ _ _ _, fun k hk => by simp [Value.ownBlock] at hk⟩, fun i hi => absurd hi (Nat.not_lt_zero _)⟩
theorem made0 (w : World) (T : TypeId) (size : Nat) (F : Nat → Nat → Value) : OwnS (w.alloc (.cells #[] T)) w.heap.size (w.heap.size + 1) T size (.slice (some ⟨w.heap.size, 0, none⟩) 0 0) 0 F :=
  ⟨[], ⟨World.ownsRow_made w #[] 0 (Nat.le_refl _) (Nat.zero_le _) (by simp), fun k hk => by simp [Value.ownBlock] at hk; omega⟩, fun i hi => absurd hi (Nat.not_lt_zero _)⟩
/-- behind an append on u: what is owned in other blocks stays -/
theorem grown {u : Value} (h : OwnS w lo hi T size v n F) (hg : w.grownBy w' u.ownBlock) (hne : ∀ k, v.ownBlock = some k → u.ownBlock ≠ some k) : OwnS w' lo hi T size v n F := by
  obtain ⟨xs, h, hf⟩ := h
  exact ⟨xs, ⟨ownsRow_of_block h.1 fun k hk => hg.block k (h.block hk).2.2 fun e => hne k hk e.symm, h.2⟩, hf⟩
end OwnS

theorem ne_of_kinds {w : World} {T U : TypeId} {g : Nat} (h1 : ∃ c fz, w.heap[g]? = some (.cells c T fz)) (h2 : ∃ c fz, w.heap[g]? = some (.cells c U fz)) (hT : T ≠ U) : False := by
  obtain ⟨c, fz, h1⟩ := h1
  obtain ⟨c', fz', h2⟩ := h2
  rw [h1] at h2
  injection h2 with h2
  injection h2 with _ h2
  exact hT h2
theorem OwnI.kind {T : TypeId} {w : World} {lo hi : Nat} {v : Value} {xs : List Int} (h : OwnI T w lo hi v xs) : ∀ g, v.ownBlock = some g → ∃ c fz, w.heap[g]? = some (.cells c T fz) := Lib.ownsRow_kind h.1

/-- append of one struct onto structs of the call's own -/
theorem run_append_S {P : Program} {w : World} {t ty e : TypeId} {i : TypeInfo} {z : Value} {size bytes : Nat} (ht : P.underlying t = some (.slice e)) (hi : P.info? e = some i) (hz : i.zero = some z)
    (hsize : i.size = size) (hby : i.bytes = bytes) (hzs : z.cells.size = size) (h0 : 0 < size)
    (lo hi' : Nat) (v : Value) (n : Nat) (F : Nat → Nat → Value) (hown : OwnS w lo hi' e size v n F) (hlo : lo ≤ w.heap.size)
    (b c : Nat) (G : Nat → Value) (hc : ∀ j, j < size → w.cell? ⟨b, j, none⟩ = some (G j)) (h1 : ∀ j, j < size → (G j).oneCell' = true) (h63 : n + 1 ≤ maxLen) (hbytes : (n + 1) * bytes ≤ 140737488355328) :
    ∃ v' w', (Builtin.append_ #[t, t] ty #[v, .slice (some ⟨b, 0, none⟩) 1 c]).run P w = .ok v' w' ∧ OwnS w' lo w'.heap.size e size v' (n + 1) (fun k => if k < n then F k else G) ∧ w.grownBy w' v.ownBlock := by
  obtain ⟨xs, ho, hf⟩ := hown
  have hG : ∀ (j : Nat) (u : Value), ((List.range size).map G)[j]? = some u → j < size ∧ u = G j := fun j u hj => by
    have hlt : j < size := by
      rcases Nat.lt_or_ge j size with h | h
      · exact h
      · rw [List.getElem?_eq_none (by simpa using h)] at hj; cases hj
    simp [hlt] at hj
    exact ⟨hlt, hj.symm⟩
  obtain ⟨v', w', hr, h2, h3, _⟩ := run_append_own (P := P) w lo t ty e i z size bytes ht hi hz hsize hby hzs h0 v n xs ho.1 ⟨b, 0, none⟩ 1 c ((List.range size).map G) (by simp)
    (fun j u hj => by
      obtain ⟨hlt, rfl⟩ := hG j u hj
      have hadd : (⟨b, 0, none⟩ : Addr).add j = ⟨b, 0 + j, none⟩ := by unfold Addr.add; split <;> simp_all
      rw [hadd, Nat.zero_add]
      exact hc j hlt)
    (fun u hu => by
      simp only [List.mem_map, List.mem_range] at hu
      obtain ⟨j, hj, rfl⟩ := hu
      exact h1 j hj) h63 hbytes hlo
  refine ⟨v', w', hr, ⟨_, Own.of_row h2, fun i hi j hj => ?_⟩, h3⟩
  have hl : xs.length = n * size := ho.len
  by_cases h : i < n
  · have hle : i * size + j < n * size := by
      have : (i + 1) * size ≤ n * size := Nat.mul_le_mul_right _ h
      rw [Nat.add_mul] at this; omega
    simp only [h, if_true]
    rw [List.getElem?_append_left (by omega), hf i h j hj]
  · have : i = n := by omega
    subst this
    simp only [h, if_false]
    rw [List.getElem?_append_right (by omega), hl, Nat.add_sub_cancel_left]
    simp [hj]
theorem info_partsS {P : Program} {t : TypeId} {z : Value} {size bytes : Nat} (h : (P.info? t).map (fun i => (i.zero, i.size, i.bytes)) = some (some z, size, bytes)) : ∃ i, P.info? t = some i ∧ i.zero = some z ∧ i.size = size ∧ i.bytes = bytes := by
  cases hi : P.info? t with
  | none => rw [hi] at h; cases h
  | some i =>
    rw [hi] at h
    simp only [Option.map_some, Option.some.injEq, Prod.mk.injEq] at h
    exact ⟨i, rfl, h.1, h.2.1, h.2.2⟩
/-- .. as a law of the walk -/
theorem wpList_append_S {P : Program} {w : World} {ops : Array Oper} {rest : List Oper} {o : Oper} {a : Act} {Q : Exit → Act → World → Prop} (hgd : o.guard = none) (s x : Operand) (t : TypeId)
    (ho : o.op = .call { callee := .builtin .append, args := #[s, x], argTypes := #[t, t] })
    (e : TypeId) (z : Value) (size bytes : Nat) (ht : P.underlying t = some (.slice e)) (hinfo : (P.info? e).map (fun i => (i.zero, i.size, i.bytes)) = some (some z, size, bytes)) (hzs : z.cells.size = size) (h0 : 0 < size)
    (lo hi' : Nat) (v : Value) (n : Nat) (F : Nat → Nat → Value) (hs : a.eval s = v) (hown : OwnS w lo hi' e size v n F) (hlo : lo ≤ w.heap.size)
    (b c : Nat) (G : Nat → Value) (hxu : a.eval x = .slice (some ⟨b, 0, none⟩) 1 c) (hc : ∀ j, j < size → w.cell? ⟨b, j, none⟩ = some (G j)) (h1 : ∀ j, j < size → (G j).oneCell' = true) (h63 : n + 1 ≤ maxLen) (hbytes : (n + 1) * bytes ≤ 140737488355328)
    (h : ∀ v' w', OwnS w' lo w'.heap.size e size v' (n + 1) (fun k => if k < n then F k else G) → w.grownBy w' v.ownBlock → wpList P ops Q rest (a.put o.dst v') w') :
    wpList P ops Q (o :: rest) a w := by
  refine wpList_plain hgd fun K hK' => ?_
  obtain ⟨i, hi, hz, hsz, hby⟩ := info_partsS hinfo
  obtain ⟨v', w', hr, h2, h3⟩ := run_append_S (P := P) (ty := o.type) ht hi hz hsz hby hzs h0 lo hi' v n F hown hlo b c G hc h1 h63 hbytes
  unfold Oper.wp
  simp [execOp, ho, resolve, invoke, builtin, hs, hxu, hr, Result.andThen]
  exact hK' _ _ (h v' w' h2 h3)
/-- .. as a step of a region that draws -/
theorem step_append_S {P : Program} {w : World} {ops : Array Oper} {o : Oper} {a : Act} {K : Act → World → Prop} {Q : Exit → Act → World → Prop} {E : Prop} (hgd : o.guard = none) (s x : Operand) (t : TypeId)
    (ho : o.op = .call { callee := .builtin .append, args := #[s, x], argTypes := #[t, t] })
    (e : TypeId) (z : Value) (size bytes : Nat) (ht : P.underlying t = some (.slice e)) (hinfo : (P.info? e).map (fun i => (i.zero, i.size, i.bytes)) = some (some z, size, bytes)) (hzs : z.cells.size = size) (h0 : 0 < size)
    (lo hi' : Nat) (v : Value) (n : Nat) (F : Nat → Nat → Value) (hs : a.eval s = v) (hown : OwnS w lo hi' e size v n F) (hlo : lo ≤ w.heap.size)
    (b c : Nat) (G : Nat → Value) (hxu : a.eval x = .slice (some ⟨b, 0, none⟩) 1 c) (hc : ∀ j, j < size → w.cell? ⟨b, j, none⟩ = some (G j)) (h1 : ∀ j, j < size → (G j).oneCell' = true) (h63 : n + 1 ≤ maxLen) (hbytes : (n + 1) * bytes ≤ 140737488355328)
    (h : ∀ v' w', OwnS w' lo w'.heap.size e size v' (n + 1) (fun k => if k < n then F k else G) → w.grownBy w' v.ownBlock → K (a.put o.dst v') w') :
    if Region.wanted o (yielded ops a.tmps) = true then Oper.wp P o a w K Q else E := by
  have hw : Region.wanted o (yielded ops a.tmps) = true := by simp [Region.wanted, hgd]
  rw [if_pos hw]
  obtain ⟨i, hi, hz, hsz, hby⟩ := info_partsS hinfo
  obtain ⟨v', w', hr, h2, h3⟩ := run_append_S (P := P) (ty := o.type) ht hi hz hsz hby hzs h0 lo hi' v n F hown hlo b c G hc h1 h63 hbytes
  unfold Oper.wp
  simp [execOp, ho, resolve, invoke, builtin, hs, hxu, hr, Result.andThen]
  exact h v' w' h2 h3

end Go.Proofs.Ytoodgbflaaabmaa

namespace Go.Proofs.Ytoodgbflaaabmaa
set_option linter.all false
open Go.RowKit

/-- the fields of matrices, the numbers' slices being f -/
def mxF (ms : List Mx) (f : Nat → Value) (i j : Nat) : Value :=
  match j with
  | 0 => .int .i64 (ms.getD i mxZero).P
  | 1 => .int .i64 (ms.getD i mxZero).R
  | 2 => .int .i64 (ms.getD i mxZero).C
  | _ => f i
/-- a slice of matrices that reads as a list -/
def RdMs (w : World) (v : Value) (ms : List Mx) : Prop := ∃ f, RdS w 4 v ms.length (mxF ms f) ∧ ∀ i, i < ms.length → Ints w (f i) (ms.getD i mxZero).D
/-- a slice of matrices that a call made -/
def OwnMs (w : World) (lo hi : Nat) (v : Value) (ms : List Mx) : Prop :=
  ∃ f, OwnS w lo hi 34 4 v ms.length (mxF ms f) ∧ (∀ i, i < ms.length → OwnI 3 w lo hi (f i) (ms.getD i mxZero).D) ∧
    ∀ i j, i < j → j < ms.length → ∀ k, (f i).ownBlock = some k → (f j).ownBlock ≠ some k
theorem RdMs.below {w w' : World} {v : Value} {ms : List Mx} (h : RdMs w v ms) (hb : Below w.heap.size w w') : RdMs w' v ms := by
  obtain ⟨f, h1, h2⟩ := h
  exact ⟨f, h1.below hb, fun i hi => (h2 i hi).below hb⟩
theorem RdMs.qt {w w' : World} {v : Value} {ms : List Mx} (h : RdMs w v ms) (q : Qt w w') : RdMs w' v ms := h.below (q.below _)
namespace OwnMs
variable {w w' : World} {lo hi : Nat} {v : Value} {ms : List Mx}
theorem rd (h : OwnMs w lo hi v ms) : RdMs w v ms := by
  obtain ⟨f, h1, h2, _⟩ := h
  exact ⟨f, h1.rd, fun i hi => (h2 i hi).ints⟩
theorem keep (h : OwnMs w lo hi v ms) (hb : ∀ k, lo ≤ k → k < hi → k < w.heap.size → w'.heap[k]? = w.heap[k]?) : OwnMs w' lo hi v ms := by
  obtain ⟨f, h1, h2, h3⟩ := h
  exact ⟨f, h1.keep hb, fun i hi => Own.keep (h2 i hi) hb, h3⟩
theorem below (h : OwnMs w lo hi v ms) (hb : Below w.heap.size w w') : OwnMs w' lo hi v ms := h.keep fun k _ _ h3 => hb.block k h3
theorem frm {lo' hi' : Nat} (h : OwnMs w lo hi v ms) (hb : Frm lo' hi' w w') (ho : hi ≤ lo' ∨ hi' ≤ lo) : OwnMs w' lo hi v ms := h.keep fun k h1 h2 h3 => hb.block k h3 (by omega)
theorem mono {lo' hi' : Nat} (h : OwnMs w lo hi v ms) (h1 : lo' ≤ lo) (h2 : hi ≤ hi') : OwnMs w lo' hi' v ms := by
  obtain ⟨f, g1, g2, g3⟩ := h
  exact ⟨f, g1.mono h1 h2, fun i hi => (g2 i hi).mono h1 h2, g3⟩
theorem shape (h : OwnMs w lo hi v ms) : ∃ p cap, v = .slice p ms.length cap ∧ ms.length ≤ cap ∧ cap ≤ maxLen := by
  obtain ⟨f, h1, _⟩ := h
  obtain ⟨p, cap, e, h2, h3, _⟩ := h1.shape
  exact ⟨p, cap, e, h2, h3⟩
theorem nil (w : World) (lo hi : Nat) : OwnMs w lo hi (.slice none 0 0) [] := ⟨fun _ => undef, OwnS.nil _ _ _ _ _ _, fun i hi => absurd hi (Nat.not_lt_zero _), fun i j _ hj => absurd hj (Nat.not_lt_zero _)⟩
theorem made0 (w : World) : OwnMs (w.alloc (.cells #[] 34)) w.heap.size (w.heap.size + 1) (.slice (some ⟨w.heap.size, 0, none⟩) 0 0) [] :=
  ⟨fun _ => undef, OwnS.made0 _ _ _ _, fun i hi => absurd hi (Nat.not_lt_zero _), fun i j _ hj => absurd hj (Nat.not_lt_zero _)⟩
theorem getD_snoc {ms : List Mx} {m : Mx} {i : Nat} : (ms ++ [m]).getD i mxZero = if i < ms.length then ms.getD i mxZero else if i = ms.length then m else mxZero := by
  by_cases h : i < ms.length
  · rw [if_pos h]; simp [List.getD_eq_getElem?_getD, List.getElem?_append_left h]
  · rw [if_neg h]
    by_cases e : i = ms.length
    · subst e; simp [List.getD_eq_getElem?_getD]
    · rw [if_neg e]; simp [List.getD_eq_getElem?_getD]; rw [List.getElem?_eq_none (by simp; omega)]; rfl
/-- a matrix of its own is put behind the others -/
theorem snoc {v' x : Value} {m : Mx} {mid : Nat} {f : Nat → Value} (g1 : OwnS w lo mid 34 4 v ms.length (mxF ms f)) (g2 : ∀ i, i < ms.length → OwnI 3 w lo mid (f i) (ms.getD i mxZero).D)
    (g3 : ∀ i j, i < j → j < ms.length → ∀ k, (f i).ownBlock = some k → (f j).ownBlock ≠ some k) (hx : OwnI 3 w mid hi x m.D) (hm : lo ≤ mid) (hmh : mid ≤ hi)
    (hg : w.grownBy w' v.ownBlock) (hsz : hi ≤ w'.heap.size)
    (hv : OwnS w' lo w'.heap.size 34 4 v' (ms.length + 1) (fun i => if i < ms.length then mxF ms f i else fun j => match j with | 0 => .int .i64 m.P | 1 => .int .i64 m.R | 2 => .int .i64 m.C | _ => x)) : OwnMs w' lo w'.heap.size v' (ms ++ [m]) := by
  have hrow : ∀ (y : Value) (ys : List Int) (lo1 hi1 : Nat), OwnI 3 w lo1 hi1 y ys → OwnI 3 w' lo1 hi1 y ys := fun y ys lo1 hi1 hy =>
    ⟨ownsRow_of_block hy.1 fun k hk => hg.block k (Own.block hy hk).2.2 fun e => ne_of_kinds (g1.kind k e.symm) (OwnI.kind hy k hk) (by decide), hy.2⟩
  refine ⟨fun i => if i < ms.length then f i else x, by
    rw [List.length_append]
    refine hv.congr fun i hi j hj => ?_
    by_cases h : i < ms.length
    · simp only [h, if_true]
      unfold mxF
      rw [getD_snoc, if_pos h]
      match j, hj with
      | 0, _ => rfl
      | 1, _ => rfl
      | 2, _ => rfl
      | 3, _ => simp only [h, if_true]
    · have : i = ms.length := by omega
      simp only [h, if_false]
      unfold mxF
      rw [getD_snoc, if_neg h, if_pos this]
      match j, hj with
      | 0, _ => rfl
      | 1, _ => rfl
      | 2, _ => rfl
      | 3, _ => simp only [h, if_false], fun i hi => ?_, fun i j hij hj k hk => ?_⟩
  · rw [List.length_append] at hi
    simp only [List.length_singleton] at hi
    rw [getD_snoc]
    by_cases h : i < ms.length
    · simp only [h, if_true]
      exact (hrow _ _ _ _ (g2 i h)).mono (Nat.le_refl _) (by omega)
    · have : i = ms.length := by omega
      simp only [h, if_false]
      rw [if_pos this]
      exact (hrow _ _ _ _ hx).mono hm hsz
  · rw [List.length_append] at hj
    simp only [List.length_singleton] at hj
    simp only [show i < ms.length by omega, if_true] at hk
    by_cases h : j < ms.length
    · simp only [h, if_true]
      exact g3 i j hij h k hk
    · simp only [h, if_false]
      intro e
      have h5 := (Own.block (g2 i (by omega)) hk).2.1
      have h6 := (Own.block hx e).1
      omega
end OwnMs

/-- where the i-th matrix lies -/
theorem RdS.four {w : World} {v : Value} {ms : List Mx} {f : Nat → Value} (h : RdS w 4 v ms.length (mxF ms f)) : ∃ p cap, v = .slice p ms.length cap ∧ (ms.length ≤ cap ∧ cap ≤ maxLen) ∧
    (0 < ms.length → ∃ b, p = some ⟨b, 0, none⟩ ∧ ∀ i, i < ms.length → w.cell? ⟨b, i * 4, none⟩ = some (.int .i64 (ms.getD i mxZero).P) ∧ w.cell? ⟨b, i * 4 + 1, none⟩ = some (.int .i64 (ms.getD i mxZero).R) ∧ w.cell? ⟨b, i * 4 + 2, none⟩ = some (.int .i64 (ms.getD i mxZero).C) ∧ w.cell? ⟨b, i * 4 + 3, none⟩ = some (f i)) := by
  obtain ⟨p, cap, rfl, hm, h⟩ := h
  refine ⟨p, cap, rfl, hm, fun h0 => ?_⟩
  obtain ⟨b, hp, hx⟩ := h h0
  exact ⟨b, hp, fun i hi => ⟨hx i hi 0 (by omega), hx i hi 1 (by omega), hx i hi 2 (by omega), hx i hi 3 (by omega)⟩⟩

/-- how many numbers the first k matrices have, three besides for each -/
def preM (ms : List Mx) (k : Nat) : Nat := ((ms.take k).map fun m => 3 + m.D.length).sum
theorem preM_zero (ms : List Mx) : preM ms 0 = 0 := by simp [preM]
theorem preM_succ (ms : List Mx) (k : Nat) (h : k < ms.length) : preM ms (k + 1) = preM ms k + (3 + (ms.getD k mxZero).D.length) := by
  have e : ms[k]? = some (ms.getD k mxZero) := by rw [List.getD_eq_getElem?_getD, List.getElem?_eq_getElem h]; rfl
  unfold preM
  rw [List.take_add_one, e, List.map_append, List.sum_append]
  simp
theorem preM_le (ms : List Mx) (k : Nat) : preM ms k ≤ preM ms ms.length := by
  have e : (ms.map fun m => 3 + m.D.length).sum = ((ms.take k).map fun m => 3 + m.D.length).sum + ((ms.drop k).map fun m => 3 + m.D.length).sum := by
    rw [← List.sum_append, ← List.map_append, List.take_append_drop]
  unfold preM
  rw [List.take_of_length_le (Nat.le_refl _)]
  omega
/-- a matrix written over by m, m+1, .. -/
def runMx (m : Int) (n : Nat) : Mx := ⟨m, m + 1, m + 2, runs (m + 3) n⟩
def runsMs (m : Int) (ms : List Mx) : List Mx := (List.range ms.length).map fun i => runMx (m + preM ms i) (ms.getD i mxZero).D.length
theorem length_runsMs (m : Int) (ms : List Mx) : (runsMs m ms).length = ms.length := by simp [runsMs]
theorem getD_runsMs (m : Int) (ms : List Mx) {i : Nat} (h : i < ms.length) : (runsMs m ms).getD i mxZero = runMx (m + preM ms i) (ms.getD i mxZero).D.length := by
  simp [runsMs, List.getD_eq_getElem?_getD, h]
/-- the first k are marked -/
def markF (m : Int) (ms : List Mx) (f : Nat → Value) (k i j : Nat) : Value := if i < k then mxF (runsMs m ms) f i j else mxF ms f i j
theorem markF_next (m : Int) (ms : List Mx) (f : Nat → Value) {k : Nat} (hk : k < ms.length) : ∀ i, i < ms.length → ∀ j, j < 4 →
    (if i = k ∧ j = 2 then Value.int .i64 (m + preM ms k + 1 + 1) else if i = k ∧ j = 1 then .int .i64 (m + preM ms k + 1) else if i = k ∧ j = 0 then .int .i64 (m + preM ms k) else markF m ms f k i j) = markF m ms f (k + 1) i j := by
  intro i hi j hj
  unfold markF
  by_cases e : i = k
  · subst e
    rw [if_pos (show i < i + 1 by omega), if_neg (Nat.lt_irrefl i)]
    unfold mxF
    rw [getD_runsMs m ms hk]
    match j, hj with
    | 0, _ => simp [runMx]
    | 1, _ => simp [runMx]
    | 2, _ => simp [runMx]; omega
    | 3, _ => simp
  · simp only [e, false_and, if_false]
    by_cases h : i < k
    · rw [if_pos h, if_pos (by omega)]
    · rw [if_neg h, if_neg (by omega)]

end Go.Proofs.Ytoodgbflaaabmaa

namespace Go.Proofs.Ytoodgbflaaabmaa
set_option linter.all false
open Go.RowKit

/-- the numbers behind j steps: from the last place down, the digits of x -/
def fillSt (p : Nat) (D : List Int) (free : List Nat) (x : Nat) : Nat → List Int × Nat
  | 0 => (D, x)
  | j + 1 => ((fillSt p D free x j).1.set (free.getD (free.length - 1 - j) 0) (((fillSt p D free x j).2 % p : Nat) : Int), (fillSt p D free x j).2 / p)
theorem fillSt_length (p : Nat) (D : List Int) (free : List Nat) (x : Nat) : ∀ j, (fillSt p D free x j).1.length = D.length
  | 0 => rfl
  | j + 1 => by simp [fillSt, fillSt_length p D free x j]
theorem fillSt_le (p : Nat) (D : List Int) (free : List Nat) (x : Nat) : ∀ j, (fillSt p D free x j).2 ≤ x
  | 0 => Nat.le_refl _
  | j + 1 => Nat.le_trans (Nat.div_le_self _ _) (fillSt_le p D free x j)
/-- the first n matrices -/
def fillMs (p : Nat) (R C : Int) (D : List Int) (free : List Nat) (n : Nat) : List Mx := (List.range n).map fun x => ⟨p, R, C, (fillSt p D free x free.length).1⟩
theorem fillMs_length (p : Nat) (R C : Int) (D : List Int) (free : List Nat) (n : Nat) : (fillMs p R C D free n).length = n := by simp [fillMs]
theorem fillMs_succ (p : Nat) (R C : Int) (D : List Int) (free : List Nat) (n : Nat) : fillMs p R C D free (n + 1) = fillMs p R C D free n ++ [⟨p, R, C, (fillSt p D free n free.length).1⟩] := by
  simp [fillMs, List.range_succ]
/-- places, as numbers -/
def nats (l : List Nat) : List Int := l.map fun (x : Nat) => (x : Int)
theorem nats_length (l : List Nat) : (nats l).length = l.length := by simp [nats]
theorem nats_getD (l : List Nat) {i : Nat} (h : i < l.length) : (nats l).getD i 0 = (l.getD i 0 : Nat) := by simp [nats, List.getD_eq_getElem?_getD, h]
theorem nats_snoc (l : List Nat) (x : Nat) : nats (l ++ [x]) = nats l ++ [(x : Int)] := by simp [nats]

theorem OwnI.setI {T : TypeId} {w : World} {lo hi g n cap t : Nat} {D : List Int} (h : OwnI T w lo hi (.slice (some ⟨g, 0, none⟩) n cap) D) (ht : t < D.length) (x : Int) : OwnI T (w.setCell ⟨g, t, none⟩ (.int .i64 x)) lo hi (.slice (some ⟨g, 0, none⟩) n cap) (D.set t x) := by
  refine OwnF.ints ?_
  rw [List.length_set]
  refine (h.fn.set t _).congr fun j hj => ?_
  unfold iv
  by_cases e : j = t
  · subst e; simp [List.getD_eq_getElem?_getD, ht]
  · simp [e, List.getD_eq_getElem?_getD, List.getElem?_set_ne (fun h => e h.symm)]
theorem mul_hid (a b : Nat) (h : a * b ≤ 1000000000000000000) : ∃ N, N = a * b ∧ Hid (wrap64 ((a : Int) * (b : Int)) = (N : Int)) ∧ Hid (IntKind.i64.wrap ((a : Int) * (b : Int)) = (N : Int)) := mul_named a b h

theorem free_at {D : List Int} {free : List Nat} (hb : ∀ t ∈ free, t < D.length) {i : Nat} (h : i < free.length) : free.getD i 0 < D.length := by
  rw [List.getD_eq_getElem?_getD, List.getElem?_eq_getElem h]
  exact hb _ (List.getElem_mem h)
theorem powE {p k n : Nat} (h2 : 2 ≤ p) (h : p ^ n ≤ 400) (hk : k ≤ n) : p ^ k ≤ 400 := Nat.le_trans (Nat.pow_le_pow_right (by omega) hk) h

set_option maxRecDepth 100000 in
set_option maxHeartbeats 1000000 in
theorem matricesWith_no (p : Nat) (R C : Int) (d fr : Value) (D : List Int) (free : List Nat) (w : World) (hf : Ints w fr (nats free)) (h2 : 2 ≤ p) (h7 : p ≤ 7) (hl : free.length ≤ 49) (hp : 400 < p ^ free.length) :
    Calls Try.prog 37 #[.agg #[.int .i64 (p : Int), .int .i64 R, .int .i64 C, d], fr] w fun e w' => e = .returned (.tuple #[.slice none 0 0, .bool false]) ∧ Below w.heap.size w w' := by
  obtain ⟨q, cap, rfl, ⟨hc1, hc2⟩, _⟩ := hf
  unfold maxLen at hc2
  rw [nats_length] at *
  have Hp := Lib.hid hp
  have Z := Lib.hid (heap_alloc_top w (.cells #[.int .i64 (p : Int), .int .i64 R, .int .i64 C, d] 34))
  clear hp
  go_enter Try.func37, Try.ntmps37
  go_wp2_with fail
  obtain ⟨W0, hW0⟩ : ∃ x, x = w.alloc (.cells #[.int .i64 (p : Int), .int .i64 R, .int .i64 C, d] 34) := ⟨_, rfl⟩
  have Hbl := Lib.hid (show Below w.heap.size w W0 by rw [hW0]; exact below_alloc _ _)
  have Z0 := Z.out
  rw [← hW0] at Z0 ⊢
  obtain ⟨b0, b1, b2, b3, bf, bz⟩ := blk4 Z0
  clear hW0 Z Z0
  go_loop [6, 13] (fun s6 s13 => ∃ i X : Nat, i ≤ free.length ∧ s13 = .int .i64 i ∧ s6 = .int .i64 X ∧ X ≤ 400 ∧ Hid (X = p ^ i)) (fun _ s13 => free.length - (intOf s13).toNat)
  case atStart => exact ⟨0, 1, Nat.zero_le _, rfl, rfl, by omega, by simp [Hid]⟩
  case round =>
    obtain ⟨i, X, hi, rfl, rfl, hX, hpw⟩ := hrel
    by_cases hlt : i < free.length
    · have hlt2 : (i : Int) < (free.length : Int) := by omega
      have hm : X * p ≤ 400 * 7 := Nat.mul_le_mul hX h7
      obtain ⟨N, hN, H3, H4⟩ := mul_hid X p (by omega)
      have HN := Lib.hid (show N = p ^ (i + 1) by rw [hN, hpw.out, Nat.pow_succ])
      have hN2 : N ≤ 2800 := by omega
      clear hN hm
      by_cases hx : N ≤ 400
      · have hx2 : ¬ (400 : Int) < (N : Int) := by omega
        have h3 := H3.out
        have h4 := H4.out
        go_wp2
        clear h3 h4
        go_round
        case rel => exact ⟨i + 1, N, by omega, by go_num, rfl, hx, HN.out⟩
        case measure => simp [intOf]; omega
      · have hx2 : (400 : Int) < (N : Int) := by omega
        have h3 := H3.out
        have h4 := H4.out
        go_wp2
        clear h3 h4
        go_ret2
        exact ⟨rfl, Hbl.out⟩
    · obtain rfl : i = free.length := by omega
      have := Hp.out
      rw [← hpw.out] at this
      omega

set_option maxRecDepth 100000 in
set_option maxHeartbeats 4000000 in
theorem matricesWith_yes (p : Nat) (R C : Int) (d fr : Value) (D : List Int) (free : List Nat) (w : World) (hd : Ints w d D) (hf : Ints w fr (nats free)) (h2 : 2 ≤ p) (h7 : p ≤ 7)
    (hb : ∀ t ∈ free, t < D.length) (hD : D.length ≤ 49) (hl : free.length ≤ 49) (hp : p ^ free.length ≤ 400) :
    Calls Try.prog 37 #[.agg #[.int .i64 (p : Int), .int .i64 R, .int .i64 C, d], fr] w fun e w' =>
      ∃ v, e = .returned (.tuple #[v, .bool true]) ∧ OwnMs w' w.heap.size w'.heap.size v (fillMs p R C D free (p ^ free.length)) ∧ Below w.heap.size w w' := by
  obtain ⟨N, hN⟩ : ∃ N, N = p ^ free.length := ⟨_, rfl⟩
  rw [← hN] at hp ⊢
  have HN := Lib.hid hN
  have Hd := Lib.hid hd
  have Hf := Lib.hid hf
  have Hb := Lib.hid hb
  obtain ⟨q, cap, rfl, ⟨hc1, hc2⟩, hcc⟩ := hf
  obtain ⟨qd, capd, rfl, ⟨hd1, hd2⟩, _⟩ := hd
  unfold maxLen at hc2 hd2
  have Hcc := Lib.hid hcc
  rw [nats_length] at *
  have HlF := Lib.hid (nats_length free)
  have Z := Lib.hid (heap_alloc_top w (.cells #[.int .i64 (p : Int), .int .i64 R, .int .i64 C, .slice qd D.length capd] 34))
  clear hN hb hcc
  go_enter Try.func37, Try.ntmps37
  go_wp2_with fail
  obtain ⟨W0, hW0⟩ : ∃ x, x = w.alloc (.cells #[.int .i64 (p : Int), .int .i64 R, .int .i64 C, .slice qd D.length capd] 34) := ⟨_, rfl⟩
  have Hbl := Lib.hid (show Below w.heap.size w W0 by rw [hW0]; exact below_alloc _ _)
  have hsz : W0.heap.size = w.heap.size + 1 := by rw [hW0]; simp
  have Z0 := Lib.hid Z.out
  have Z1 := Z0.out
  rw [← hW0] at Z1 ⊢
  have ZB := Lib.hid Z1
  obtain ⟨b0, b1, b2, b3, bf, bz⟩ := blk4 Z1
  have Hsz := Lib.hid hsz
  clear hW0 Z Z0 Z1 hsz
  go_loop [6, 13] (fun s6 s13 => ∃ i X : Nat, i ≤ free.length ∧ s13 = .int .i64 i ∧ s6 = .int .i64 X ∧ X ≤ 400 ∧ Hid (X = p ^ i)) (fun _ s13 => free.length - (intOf s13).toNat)
  case atStart => exact ⟨0, 1, Nat.zero_le _, rfl, rfl, by omega, by simp [Hid]⟩
  case round =>
    obtain ⟨i, X, hi, rfl, rfl, hX, hpw⟩ := hrel
    by_cases hlt : i < free.length
    · have hlt2 : (i : Int) < (free.length : Int) := by omega
      have hm : X * p ≤ 400 * 7 := Nat.mul_le_mul hX h7
      obtain ⟨M, hM, H3, H4⟩ := mul_hid X p (by omega)
      have HM := Lib.hid (show M = p ^ (i + 1) by rw [hM, hpw.out, Nat.pow_succ])
      have hx : M ≤ 400 := by rw [HM.out]; exact powE h2 (by rw [← HN.out]; exact hp) (by omega)
      have hx2 : ¬ (400 : Int) < (M : Int) := by omega
      clear hM hm
      have h3 := H3.out
      have h4 := H4.out
      go_wp2
      clear h3 h4
      go_round
      case rel => exact ⟨i + 1, M, by omega, by go_num, rfl, hx, HM.out⟩
      case measure => simp [intOf]; omega
    · obtain rfl : i = free.length := by omega
      have hXN : X = N := by rw [hpw.out, HN.out]
      subst hXN
      clear b0 b1 b2 b3 bf
      have hlt2 : ¬ (free.length : Int) < (free.length : Int) := by omega
      go_wp2_with fail
      go_loopg [7, 24] X (fun gg s7 s24 wr => ∃ k : Nat, k ≤ X ∧ gg = X - k ∧ s24 = .int .i64 k ∧ Below W0.heap.size W0 wr ∧ Hid (OwnMs wr W0.heap.size wr.heap.size s7 (fillMs p R C D free k)))
      case atStart => exact ⟨0, Nat.zero_le _, rfl, rfl, below_alloc _ _, (OwnMs.made0 W0).mono (Nat.le_refl _) (by simp)⟩
      case round =>
        obtain ⟨k, hk, rfl, rfl, hbl, hO⟩ := hrel
        by_cases hkl : k < X
        · have hkl2 : (k : Int) < (X : Int) := by omega
          obtain ⟨wo, rfl⟩ : ∃ x : World, x = wr := ⟨_, rfl⟩
          obtain ⟨z0, z1, z2, z3, zf, zz⟩ := blk4 (blk_later ZB.out hbl)
          have Hdw := Lib.hid (Hd.out.below (Hbl.out.trans (hbl.mono Hbl.out.size)))
          have HO := Lib.hid hO.out
          clear hO
          go_wp2_with fail
          refine (clone_any _ D _ (Hdw.out.below (below_alloc _ _)) (by omega)).mono ?_
          rintro e w2 ⟨u, rfl, ho, hb2⟩
          obtain ⟨pc, kc, rfl, _, _⟩ := ho.shape
          have zx := (hb2.block _ (by simp)).trans (heap_alloc_top wo (.cells #[.int .i64 (p : Int), .int .i64 R, .int .i64 C, .slice qd D.length capd] 34))
          obtain ⟨x0, x1, x2, x3, xf, xz⟩ := blk4 zx
          have Hsx := Lib.hid (show wo.heap.size + 1 ≤ w2.heap.size by have := hb2.size; rwa [size_alloc] at this)
          have Hb2 := Lib.hid ((below_alloc wo (.cells #[.int .i64 (p : Int), .int .i64 R, .int .i64 C, .slice qd D.length capd] 34)).trans (hb2.mono (by simp)))
          have Zx := Lib.hid zx
          have Ho := Lib.hid ho
          clear zx ho hb2
          go_wp2_with fail
          clear x0 x1 x2 x3 xf xz z0 z1 z2 z3 zf
          obtain ⟨w3, hw3⟩ : ∃ x, x = w2.setCell ⟨wo.heap.size, 3, none⟩ (.slice pc D.length kc) := ⟨_, rfl⟩
          have hbs : Below wo.heap.size w2 w3 := by rw [hw3]; exact (Below.refl _ _).setCell (p := ⟨wo.heap.size, 3, none⟩) (Nat.le_refl _) _
          have hzx : w3.heap[wo.heap.size]? = some (.cells #[.int .i64 (p : Int), .int .i64 R, .int .i64 C, .slice pc D.length kc] 34) := by rw [hw3, heap_setCell_at Zx.out]; rfl
          have hod : OwnI 3 w3 (wo.heap.size + 1) w3.heap.size (.slice pc D.length kc) D := by
            rw [hw3]
            refine (OwnI.setCell Ho.out (Or.inl (by rw [size_alloc]; exact Nat.lt_succ_self _)) _).mono (by rw [size_alloc]; exact Nat.le_refl _) (by rw [size_setCell]; exact Nat.le_refl _)
          have hb3 : Below wo.heap.size wo w3 := Hb2.out.trans hbs
          have hs3 : wo.heap.size + 1 ≤ w3.heap.size := by have := Hsx.out; rw [hw3, size_setCell]; exact this
          rw [← hw3]
          clear hw3 hbs
          have ZX := Lib.hid hzx
          have ZB3 := Lib.hid (blk_later (blk_later ZB.out hbl) hb3)
          have HB3 := Lib.hid hb3
          have Hfw := Lib.hid (Hf.out.below (Hbl.out.trans ((hbl.mono Hbl.out.size).trans (hb3.mono (Nat.le_trans Hbl.out.size hbl.size)))))
          obtain ⟨lo', hi', hto, hin⟩ := hod.tight
          have Hin := Lib.hid hin
          have Hto := Lib.hid hto
          have Hod := Lib.hid hod
          clear hod hto hin hzx Hb2 Zx Ho Hsx
          have hlo : (wo.heap.size + 1 ≤ lo' ∧ hi' ≤ w3.heap.size) ∨ hi' ≤ lo' := by
            rcases Nat.lt_or_ge lo' hi' with h | h
            · left
              have h1 := Hin.out lo' (Nat.le_refl _) h
              have h2 := Hin.out (hi' - 1) (by omega) (by omega)
              omega
            · exact Or.inr h
          go_loopg [8, 10] (free.length + 1) (fun gg s8 s10 wq => ∃ (t r : Nat) (D' : List Int), t ≤ free.length ∧ gg = t + 1 ∧ s10 = .int .i64 ((t : Int) - 1) ∧ s8 = .int .i64 (r : Int) ∧ r ≤ k ∧ Frm lo' hi' w3 wq ∧ Hid (OwnI 3 wq lo' hi' (.slice pc D.length kc) D') ∧ Hid (fillSt p D free k (free.length - t) = (D', r)))
          case atStart => exact ⟨free.length, k, D, Nat.le_refl _, rfl, rfl, rfl, Nat.le_refl _, Frm.refl _ _ _, Hto.out, by simp [Hid, fillSt]⟩
          case round =>
            obtain ⟨t, r, D', ht, rfl, rfl, rfl, hr, hF, hO1, hst⟩ := hrel
            have hlD : D'.length = D.length := by have := fillSt_length p D free k (free.length - t); rw [hst.out] at this; exact this
            have HlD := Lib.hid hlD
            have HF := Lib.hid hF
            have HO1 := Lib.hid hO1.out
            have Hst := Lib.hid hst.out
            clear hO1 hst hlD hF
            by_cases ht0 : t = 0
            · subst ht0
              rw [show ((0 : Nat) : Int) - 1 = -1 from rfl]
              obtain ⟨x0, x1, x2, x3, xf, xz⟩ := blk4 (HF.out.blk ZX.out (by omega))
              have hst2 := Hst.out
              rw [Nat.sub_zero] at hst2
              have hlD2 : (fillSt p D free k free.length).1 = D' := by rw [hst2]
              have blx : Below wo.heap.size w3 wr := by
                have hB := HB3.out.size
                refine ⟨HF.out.os, HF.out.tape, HF.out.output, HF.out.size, fun b hb => HF.out.block b (by omega) (by omega)⟩
              have blw : Below wo.heap.size wo wr := HB3.out.trans blx
              obtain ⟨f, g1, g2, g3⟩ := HO.out.below blw
              have hal := below_alloc wr (.cells #[.int .i64 (p : Int), .int .i64 R, .int .i64 C, .slice pc D.length kc] 34)
              have g1a := Lib.hid (g1.below hal)
              have g2a := Lib.hid fun i hi => (g2 i hi).below hal
              have G3 := Lib.hid g3
              have hx : OwnI 3 (wr.alloc (.cells #[.int .i64 (p : Int), .int .i64 R, .int .i64 C, .slice pc D.length kc] 34)) wo.heap.size (wr.alloc (.cells #[.int .i64 (p : Int), .int .i64 R, .int .i64 C, .slice pc D.length kc] 34)).heap.size (.slice pc D.length kc) D' :=
                (HO1.out.below hal).widen fun b hb => by
                  have h1 := Own.block HO1.out hb
                  rw [size_alloc]; omega
              have Hx := Lib.hid hx
              have Hcl := Lib.hid (show ∀ j, j < 4 → (wr.alloc (.cells #[.int .i64 (p : Int), .int .i64 R, .int .i64 C, .slice pc D.length kc] 34)).cell? ⟨wr.heap.size, j, none⟩ = some (match j with | 0 => Value.int .i64 (p : Int) | 1 => .int .i64 R | 2 => .int .i64 C | _ => .slice pc D.length kc) from fun j hj =>
                match j, hj with
                | 0, _ => cell_of_blk (heap_alloc_top wr _) (j := 0) rfl
                | 1, _ => cell_of_blk (heap_alloc_top wr _) (j := 1) rfl
                | 2, _ => cell_of_blk (heap_alloc_top wr _) (j := 2) rfl
                | 3, _ => cell_of_blk (heap_alloc_top wr _) (j := 3) rfl)
              have Hone := Lib.hid (show ∀ j, j < 4 → (match j with | 0 => Value.int .i64 (p : Int) | 1 => .int .i64 R | 2 => .int .i64 C | _ => .slice pc D.length kc).oneCell' = true from fun j hj =>
                match j, hj with
                | 0, _ => rfl
                | 1, _ => rfl
                | 2, _ => rfl
                | 3, _ => rfl)
              have Hn1 := Lib.hid (show (fillMs (p : Nat) R C D free k).length + 1 ≤ maxLen by rw [fillMs_length]; unfold maxLen; omega)
              have Hn2 := Lib.hid (show ((fillMs (p : Nat) R C D free k).length + 1) * 48 ≤ 140737488355328 by rw [fillMs_length]; omega)
              have Hlo := Lib.hid (show W0.heap.size ≤ (wr.alloc (.cells #[.int .i64 (p : Int), .int .i64 R, .int .i64 C, .slice pc D.length kc] 34)).heap.size by rw [size_alloc]; have := hbl.size; have := blw.size; omega)
              have Hblw := Lib.hid blw
              have HD2 := Lib.hid hlD2
              clear g1 g2 g3 hx blx blw hst2 hlD2 hal
              go_wp2_with (at_builtin; go_must (refine wpList_append_S rfl (.tmp 54) (.tmp 56) 28 rfl 34 _ 4 48 Try.underlying28 info_mx rfl (by omega) W0.heap.size wo.heap.size _ (fillMs p R C D free k).length (mxF (fillMs p R C D free k) f) rfl g1a.out Hlo.out _ _ _ rfl Hcl.out Hone.out Hn1.out Hn2.out ?_; intro v' w' hv hg))
              go_roundg (X - (k + 1))
              case measure => omega
              case rel =>
                have hgb := grownBy_below hg g1a.out.blocks (Nat.le_refl _) Hlo.out
                refine ⟨k + 1, by omega, rfl, by go_num, hbl.trans ((Hblw.out.mono hbl.size).trans ((below_alloc wr _).mono (Nat.le_trans hbl.size Hblw.out.size) |>.trans hgb)), ?_⟩
                show OwnMs _ _ _ _ _
                rw [fillMs_succ, HD2.out]
                exact OwnMs.snoc g1a.out g2a.out G3.out Hx.out hbl.size (by rw [size_alloc]; have := Hblw.out.size; omega) hg hg.size hv
            · obtain ⟨i, rfl⟩ : ∃ i, t = i + 1 := ⟨t - 1, by omega⟩
              rw [show ((i + 1 : Nat) : Int) - 1 = (i : Int) by omega]
              obtain ⟨bf, off, rfl, hcell⟩ := Hcc.out (by omega)
              obtain ⟨F, hF⟩ : ∃ F, F = free.getD i 0 := ⟨_, rfl⟩
              have hFD : F < D.length := by rw [hF]; exact free_at Hb.out (by omega)
              have hof := HO1.out.fn
              rw [HlD.out] at hof
              obtain ⟨g, rfl, hg1, hg2, _⟩ := hof.at_ (by omega)
              have e1 := hof.cell hFD
              have e2 := hof.frozen F
              obtain ⟨y, e1⟩ : ∃ y, wr.cell? ⟨g, F, none⟩ = some y := ⟨_, e1⟩
              obtain ⟨b0, b1, b2, b3, bf', bz'⟩ := blk4 (HF.out.blk ZB3.out (by omega))
              obtain ⟨x0, x1, x2, x3, xf, xz⟩ := blk4 (HF.out.blk ZX.out (by omega))
              have c1 : wr.cell? ⟨bf, off + i, none⟩ = some (.int .i64 (F : Int)) := by
                have hcl := hcell i (by omega)
                unfold iv at hcl
                rw [nats_getD free (by omega), ← hF] at hcl
                have hlt1 := World.block_lt_of_cell? w _ hcl
                have hbw : Below w.heap.size w wr := Hbl.out.trans ((hbl.mono Hbl.out.size).trans ((HB3.out.mono (Nat.le_trans Hbl.out.size hbl.size)).trans (HF.out.below (by have := Hbl.out.size; have := hbl.size; have := HB3.out.size; omega) (by have := Hbl.out.size; have := hbl.size; have := HB3.out.size; omega))))
                rw [hbw.cell hlt1]; exact hcl
              have i1 : (0 : Int) ≤ (i : Int) := by omega
              have i2 : (i : Int) < (free.length : Int) := by omega
              have i3 : (0 : Int) ≤ (F : Int) := by omega
              have i4 : (F : Int) < (D.length : Int) := by omega
              have hp0 : ¬ p = 0 := by omega
              have hp1 : ¬ (p : Int) = 0 := by omega
              have HFv := Lib.hid hF
              obtain ⟨r1, hr1⟩ : ∃ x, x = r % p := ⟨_, rfl⟩
              obtain ⟨r2, hr2⟩ : ∃ x, x = r / p := ⟨_, rfl⟩
              have h1 := Lib.hid (show (r : Int) % (p : Int) = (r1 : Int) by rw [hr1]; rfl)
              have h1' := Lib.hid (show (r : Int).tmod (p : Int) = (r1 : Int) by rw [Int.tmod_eq_emod_of_nonneg (by omega)]; exact h1.out)
              have h2' := Lib.hid (show (r : Int) / (p : Int) = (r2 : Int) by rw [hr2]; rfl)
              have h3' := Lib.hid (show (r : Int).tdiv (p : Int) = (r2 : Int) by rw [Int.tdiv_eq_ediv_of_nonneg (by omega)]; exact h2'.out)
              have hr2k : r2 ≤ k := by rw [hr2]; exact Nat.le_trans (Nat.div_le_self _ _) hr
              have Hr1 := Lib.hid hr1
              have Hr2 := Lib.hid hr2
              clear hF hof hcell hr1 hr2
              go_wp2_with fail
              have f1 := h1.out
              have f2 := h1'.out
              go_still_tail 11, (by kernel_rfl)
              change wpList _ _ _ _ _ wr.drew
              clear f1 f2
              have f1 := h2'.out
              have f2 := h3'.out
              go_wp2_with fail
              clear f1 f2 b0 b1 b2 b3 bf' bz' x0 x1 x2 x3 xf xz e1 e2 c1
              go_roundg (i + 1)
              case measure => omega
              case rel =>
                refine ⟨i, r2, D'.set F (r1 : Int), by omega, rfl, rfl, rfl, hr2k, (HF.out.drewN 1).setCell hg1 hg2 _, OwnI.setI (Own.drewN HO1.out 1) (by rw [HlD.out]; exact hFD) _, ?_⟩
                show fillSt p D free k (free.length - i) = _
                rw [show free.length - i = (free.length - (i + 1)) + 1 by omega]
                unfold fillSt
                rw [Hst.out, show free.length - 1 - (free.length - (i + 1)) = i by omega, ← HFv.out, ← Hr1.out, ← Hr2.out]
        · obtain rfl : k = X := by omega
          have hkl2 : ¬ (k : Int) < (k : Int) := by omega
          obtain ⟨pv, kv, rfl, _, _⟩ := hO.out.shape
          go_wp2_with fail
          go_ret2
          exact ⟨_, rfl, hO.out.mono (by rw [Hsz.out]; omega) (Nat.le_refl _), Hbl.out.trans (hbl.mono Hbl.out.size)⟩

end Go.Proofs.Ytoodgbflaaabmaa

namespace Go.Proofs.Ytoodgbflaaabmaa
set_option linter.all false
open Go.RowKit

set_option maxRecDepth 100000 in
set_option maxHeartbeats 1000000 in
theorem index_any (v : Value) (xs : List Int) (x : Int) (w : World) (h : Ints w v xs) :
    Calls Try.prog 67 #[v, .int .i64 x] w fun e w' => ∃ r : Int, e = .returned (.int .i64 r) ∧ (0 ≤ r ↔ x ∈ xs) ∧ -1 ≤ r ∧ Qt w w' := by
  obtain ⟨p, cap, rfl, ⟨hx1, hx⟩, hxc⟩ := h
  unfold maxLen at hx
  go_enter Try.func67, Try.ntmps67
  go_wp2
  go_loopg [8] xs.length (fun g i wr => ∃ k : Nat, k ≤ xs.length ∧ g = xs.length - k ∧ i = .int .i64 k ∧ Qt w wr ∧ Hid (x ∉ xs.take k))
  case atStart => exact ⟨0, Nat.zero_le _, rfl, rfl, Qt.refl _, by simp [Hid]⟩
  case round =>
    obtain ⟨k, hk, rfl, rfl, hq, hp⟩ := hrel
    by_cases hlt : k < xs.length
    · obtain ⟨b, off, rfl, hc⟩ := hxc (by omega)
      have c1 := hq.cell (hc k hlt)
      unfold iv at c1
      have hm := getD_mem hlt
      generalize hy : xs.getD k 0 = y at c1 hm
      have Hy := Lib.hid hy
      have Hm := Lib.hid hm
      clear hxc hc hy hm
      by_cases e : x = y
      · subst e
        go_wp2
        go_ret
        exact ⟨k, rfl, ⟨fun _ => Hm.out, fun _ => by omega⟩, by omega, hq⟩
      · have he : (x == y) = false := by simp [e]
        go_wp2
        go_roundg (xs.length - (k + 1))
        case measure => omega
        case rel =>
          refine ⟨k + 1, by omega, rfl, by go_num, hq, ?_⟩
          unfold Hid
          rw [List.take_add_one, List.getElem?_eq_getElem hlt]
          have h2 := Hy.out
          have h3 := hp.out
          simp only [Option.toList, List.mem_append, List.mem_singleton, not_or]
          exact ⟨h3, by rw [List.getD_eq_getElem?_getD, List.getElem?_eq_getElem hlt, Option.getD_some] at h2; rw [h2]; exact e⟩
    · go_wp2
      go_ret
      obtain rfl : k = xs.length := by omega
      have h3 := hp.out
      rw [List.take_length] at h3
      exact ⟨-1, rfl, ⟨fun h => absurd h (by decide), fun h => absurd h h3⟩, by omega, hq⟩

theorem contains_any (v : Value) (xs : List Int) (x : Int) (w : World) (h : Ints w v xs) :
    Calls Try.prog 36 #[v, .int .i64 x] w fun e w' => e = .returned (.bool (decide (x ∈ xs))) ∧ Qt w w' := by
  have Hh := Lib.hid h
  obtain ⟨p, cap, rfl, _⟩ := h
  go_enter Try.func36, Try.ntmps36
  go_wp2_with fail
  refine (index_any _ xs x _ Hh.out).mono ?_
  rintro e w1 ⟨r, rfl, hr, hr1, hq⟩
  have Hr := Lib.hid hr
  clear hr
  go_wp2_with fail
  go_ret
  exact ⟨ret_bool (by rw [decide_eq_decide]; exact Hr.out), hq⟩

end Go.Proofs.Ytoodgbflaaabmaa
