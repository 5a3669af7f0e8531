/-
  addRow: a multiple of a row is added to another one, in it itself.
  l7At: the number at a place of a matrix.
  slices.IndexFunc for a number other than 0, impl.pivot, impl.scaledTo1.
  For a region that draws its order, loads from the boxes of arguments and calls what makes memory: what is kept from world to world. And facts on numbers.
  More on a region that draws its order and makes a box somewhere in it: where the box lies when it is made first, and what a write into it leaves.
  append on an owned slice, once more: the block of what comes back is the old one, or new.
  l1Ints, l7Copy, l7Inverse, l7Top.
  The law's helpers on slices of slices of ints: compared, written over, read again.
  Many rows put behind others.
  For regions that draw their order: append as a step; what is kept of two boxes and the result's cell.
-/
import Derived.Test.YtgebjjpcgakjgaaGreatJ2
import Derived.StillTailTactics
import Derived.Deep.RegionHeld3
import Derived.Deep.DeepCutAuto
import Derived.Test.YtgebjjpcgakjgaaGreatJ1
namespace Go.Proofs.YtgebjjpcgakjgaaGreat
set_option linter.all false
open Go.RowKit

/-- a multiple of a row added to another one, number by number, modulo p -/
def addRowL (p k : Int) (xs ys : List Int) : List Int := (List.range xs.length).map fun (j : Nat) => (xs.getD j 0 + k * ys.getD j 0) % p
theorem addRowL_length (p k : Int) (xs ys : List Int) : (addRowL p k xs ys).length = xs.length := by simp [addRowL]
theorem addRowL_getD {p k : Int} {xs ys : List Int} {j : Nat} (h : j < xs.length) : (addRowL p k xs ys).getD j 0 = (xs.getD j 0 + k * ys.getD j 0) % p := by
  simp [addRowL, List.getD_eq_getElem?_getD, h]

/-- all numbers small, none below 0 -/
def Small (xs : List Int) : Prop := ∀ x ∈ xs, 0 ≤ x ∧ x ≤ 1000
theorem Small.at_ {xs : List Int} (h : Small xs) (j : Nat) : 0 ≤ xs.getD j 0 ∧ xs.getD j 0 ≤ 1000 := by
  by_cases hj : j < xs.length
  · exact h _ (getD_mem hj)
  · simp [List.getD_eq_getElem?_getD, show xs[j]? = none by simp; omega]

theorem grownBy_frm {w w' : World} {v : Value} {lo hi : Nat} (h : w.grownBy w' v.ownBlock) (hlo : ∀ k, v.ownBlock = some k → lo ≤ k ∧ k < hi) : Frm lo hi w w' :=
  ⟨h.os, h.tape, h.output, h.size, fun k hk ho => h.block k hk fun e => by have := hlo k e.symm; omega⟩

end Go.Proofs.YtgebjjpcgakjgaaGreat

namespace Go.Proofs.YtgebjjpcgakjgaaGreat
set_option linter.all false
open Go.RowKit

end Go.Proofs.YtgebjjpcgakjgaaGreat

namespace Go.Proofs.YtgebjjpcgakjgaaGreat
set_option linter.all false
open Go.RowKit

/-- the first place with a number other than 0; -1: none -/
def pivL (xs : List Int) : Int := if xs.findIdx (fun x => x != 0) < xs.length then (xs.findIdx (fun x => x != 0) : Nat) else -1
theorem pivL_at {xs : List Int} {k : Nat} (hk : k < xs.length) (h1 : xs.getD k 0 ≠ 0) (h0 : ∀ j, j < k → xs.getD j 0 = 0) : pivL xs = k := by
  have e : xs.findIdx (fun x => x != 0) = k := by
    rw [List.findIdx_eq hk]
    refine ⟨?_, fun j hj => ?_⟩
    · rw [List.getD_eq_getElem?_getD, List.getElem?_eq_getElem hk, Option.getD_some] at h1
      simpa using h1
    · have := h0 j hj
      rw [List.getD_eq_getElem?_getD, List.getElem?_eq_getElem (by omega), Option.getD_some] at this
      simpa using this
  unfold pivL
  rw [e, if_pos hk]
theorem pivL_none {xs : List Int} (h0 : ∀ j, j < xs.length → xs.getD j 0 = 0) : pivL xs = -1 := by
  have e : xs.findIdx (fun x => x != 0) = xs.length := by
    rw [List.findIdx_eq_length]
    intro x hx
    obtain ⟨j, hj, rfl⟩ := List.mem_iff_getElem.1 hx
    have := h0 j hj
    rw [List.getD_eq_getElem?_getD, List.getElem?_eq_getElem hj, Option.getD_some] at this
    simpa using this
  unfold pivL
  rw [e, if_neg (by omega)]
theorem pivL_cases (xs : List Int) : (pivL xs = -1 ∧ ∀ j, j < xs.length → xs.getD j 0 = 0) ∨ ∃ k, pivL xs = (k : Nat) ∧ k < xs.length ∧ xs.getD k 0 ≠ 0 ∧ ∀ j, j < k → xs.getD j 0 = 0 := by
  by_cases h : ∃ k, k < xs.length ∧ xs.getD k 0 ≠ 0
  · have : ∃ k, k < xs.length ∧ xs.getD k 0 ≠ 0 ∧ ∀ j, j < k → xs.getD j 0 = 0 := by
      obtain ⟨k, hk, h1⟩ := h
      induction k using Nat.strongRecOn with
      | _ k ih =>
        by_cases h2 : ∃ j, j < k ∧ xs.getD j 0 ≠ 0
        · obtain ⟨j, hj, h3⟩ := h2
          exact ih j hj (by omega) h3
        · exact ⟨k, hk, h1, fun j hj => Classical.byContradiction fun h3 => h2 ⟨j, hj, h3⟩⟩
    obtain ⟨k, hk, h1, h2⟩ := this
    exact .inr ⟨k, pivL_at hk h1 h2, hk, h1, h2⟩
  · have h0 : ∀ j, j < xs.length → xs.getD j 0 = 0 := fun j hj => Classical.byContradiction fun h3 => h ⟨j, hj, h3⟩
    exact .inl ⟨pivL_none h0, h0⟩

theorem inv_ex {p x : Int} (hp : primeOk p = true) (h0 : 0 < x) (h1 : x < p) : ∃ k : Int, 1 ≤ k ∧ k < p ∧ k * x % p = 1 := by
  rcases of_decide_eq_true hp with rfl | rfl | rfl | rfl
  · obtain rfl : x = 1 := by omega
    exact ⟨1, by decide⟩
  · rcases (show x = 1 ∨ x = 2 by omega) with rfl | rfl
    · exact ⟨1, by decide⟩
    · exact ⟨2, by decide⟩
  · rcases (show x = 1 ∨ x = 2 ∨ x = 3 ∨ x = 4 by omega) with rfl | rfl | rfl | rfl
    · exact ⟨1, by decide⟩
    · exact ⟨3, by decide⟩
    · exact ⟨2, by decide⟩
    · exact ⟨4, by decide⟩
  · rcases (show x = 1 ∨ x = 2 ∨ x = 3 ∨ x = 4 ∨ x = 5 ∨ x = 6 by omega) with rfl | rfl | rfl | rfl | rfl | rfl
    · exact ⟨1, by decide⟩
    · exact ⟨4, by decide⟩
    · exact ⟨5, by decide⟩
    · exact ⟨2, by decide⟩
    · exact ⟨3, by decide⟩
    · exact ⟨6, by decide⟩

/-- reads, then changes of one block -/
theorem grown_qt {w w1 w2 : World} {o : Option Nat} (hq : Qt w w1) (hg : w1.grownBy w2 o) : w.grownBy w2 o := by
  have hb := hq.below 0
  have hs := hq.size
  have hh := hq.heap
  exact ⟨hg.os.trans hb.os, hg.tape.trans hb.tape, hg.output.trans hb.output, by have := hg.size; omega, fun k hk hne => by rw [hg.block k (by omega) hne, hh]⟩

def scaleL (p k : Int) (xs : List Int) : List Int := (List.range xs.length).map fun (j : Nat) => (k * xs.getD j 0) % p
theorem scaleL_length (p k : Int) (xs : List Int) : (scaleL p k xs).length = xs.length := by simp [scaleL]
theorem scaleL_getD {p k : Int} {xs : List Int} {j : Nat} (h : j < xs.length) : (scaleL p k xs).getD j 0 = (k * xs.getD j 0) % p := by
  simp [scaleL, List.getD_eq_getElem?_getD, h]

end Go.Proofs.YtgebjjpcgakjgaaGreat

namespace Go.Proofs.YtgebjjpcgakjgaaGreat
set_option linter.all false
open Go.RowKit

theorem cell_below {w w' : World} {a : Addr} {v : Value} (hb : Below w.heap.size w w') (h : w.cell? a = some v) : w'.cell? a = some v := by
  rw [hb.cell (World.block_lt_of_cell? _ _ h)]; exact h
theorem held_ints {c : Prop} {wr W : World} {v : Value} {xs : List Int} (h : Ints wr v xs) (hS : c ∧ Below wr.heap.size wr W) : Ints W v xs := h.below hS.2
theorem held_below {c : Prop} {wr W : World} (hS : c ∧ Below wr.heap.size wr W) : Below wr.heap.size wr W := hS.2
theorem keep4 {wr W W' : World} {a0 a1 a2 a3 : Addr} {v0 v1 v2 v3 : Value} (hb : Below W.heap.size W W')
    (h : (W.cell? a0 = some v0 ∧ W.cell? a1 = some v1 ∧ W.cell? a2 = some v2 ∧ W.cell? a3 = some v3) ∧ Below wr.heap.size wr W) :
    (W'.cell? a0 = some v0 ∧ W'.cell? a1 = some v1 ∧ W'.cell? a2 = some v2 ∧ W'.cell? a3 = some v3) ∧ Below wr.heap.size wr W' :=
  ⟨⟨cell_below hb h.1.1, cell_below hb h.1.2.1, cell_below hb h.1.2.2.1, cell_below hb h.1.2.2.2⟩, below_trans h.2 hb⟩
theorem keep8 {wr W W' : World} {a0 a1 a2 a3 a4 a5 a6 a7 : Addr} {v0 v1 v2 v3 v4 v5 v6 v7 : Value} (hb : Below W.heap.size W W')
    (h : (W.cell? a0 = some v0 ∧ W.cell? a1 = some v1 ∧ W.cell? a2 = some v2 ∧ W.cell? a3 = some v3 ∧ W.cell? a4 = some v4 ∧ W.cell? a5 = some v5 ∧ W.cell? a6 = some v6 ∧ W.cell? a7 = some v7) ∧ Below wr.heap.size wr W) :
    (W'.cell? a0 = some v0 ∧ W'.cell? a1 = some v1 ∧ W'.cell? a2 = some v2 ∧ W'.cell? a3 = some v3 ∧ W'.cell? a4 = some v4 ∧ W'.cell? a5 = some v5 ∧ W'.cell? a6 = some v6 ∧ W'.cell? a7 = some v7) ∧ Below wr.heap.size wr W' :=
  ⟨⟨cell_below hb h.1.1, cell_below hb h.1.2.1, cell_below hb h.1.2.2.1, cell_below hb h.1.2.2.2.1, cell_below hb h.1.2.2.2.2.1, cell_below hb h.1.2.2.2.2.2.1, cell_below hb h.1.2.2.2.2.2.2.1, cell_below hb h.1.2.2.2.2.2.2.2⟩, below_trans h.2 hb⟩

/-- numbers of a matrix that is right, at a place or behind the end -/
theorem getD_range {D : List Int} {P : Int} (h : ∀ x ∈ D, 0 ≤ x ∧ x < P) (hP : 0 < P) (j : Nat) : 0 ≤ D.getD j 0 ∧ D.getD j 0 < P := by
  by_cases hj : j < D.length
  · exact h _ (getD_mem hj)
  · simp [List.getD_eq_getElem?_getD, show D[j]? = none by simp; omega, hP]
theorem mul_range {x y a b : Int} (h1 : 0 ≤ x) (h2 : x ≤ a) (h3 : 0 ≤ y) (h4 : y ≤ b) : 0 ≤ x * y ∧ x * y ≤ a * b :=
  ⟨Int.mul_nonneg h1 h3, Int.mul_le_mul h2 h4 h3 (by omega)⟩

end Go.Proofs.YtgebjjpcgakjgaaGreat

namespace Go.Proofs.YtgebjjpcgakjgaaGreat
set_option linter.all false
open Go.RowKit

theorem alloc_drew_top (w : World) (o : Obj) : (w.alloc o).drew.heap[w.heap.size]? = some o := heap_alloc_top w o
theorem set4_all {w : World} {b : Nat} {x0 x1 x2 x3 : Value} {T : TypeId} (h : w.heap[b]? = some (.cells #[x0, x1, x2, x3] T (0, 0))) (y0 y1 y2 y3 : Value) :
    ((((w.setCell ⟨b, 0, none⟩ y0).setCell ⟨b, 1, none⟩ y1).setCell ⟨b, 2, none⟩ y2).setCell ⟨b, 3, none⟩ y3).heap[b]? = some (.cells #[y0, y1, y2, y3] T (0, 0)) := by
  have e := heap_setCell_at (heap_setCell_at (heap_setCell_at (heap_setCell_at h 0 y0) 1 y1) 2 y2) 3 y3
  simpa using e

/-- a pointer to a box that was made after wr, with the matrix M in it, whose numbers lie in blocks made after wr -/
def CutBox (T TM : TypeId) (wr wc : World) (M : Mx) (s : Value) : Prop :=
  ∃ q p k lo hi, s = .pointer (some ⟨q, 0, none⟩) ∧ wr.heap.size ≤ q ∧ wc.heap[q]? = some (.cells #[.int .i64 M.P, .int .i64 M.R, .int .i64 M.C, .slice p M.D.length k] TM) ∧
    OwnI T wc lo hi (.slice p M.D.length k) M.D ∧ (q < lo ∨ hi ≤ q) ∧ wr.heap.size ≤ lo ∧ hi ≤ wc.heap.size ∧ q < wc.heap.size ∧ Below wr.heap.size wr wc
theorem cutBox_alloc {T TM : TypeId} {wr w : World} {M : Mx} {p : Option Addr} {k lo : Nat} (hB : Below wr.heap.size wr w)
    (ho : OwnI T w lo w.heap.size (.slice p M.D.length k) M.D) (hlo : wr.heap.size ≤ lo) :
    CutBox T TM wr (w.alloc (.cells #[.int .i64 M.P, .int .i64 M.R, .int .i64 M.C, .slice p M.D.length k] TM)) M (.pointer (some ⟨w.heap.size, 0, none⟩)) :=
  ⟨_, _, _, _, _, rfl, hB.size, heap_alloc_top _ _, OwnI.below ho (below_alloc _ _), Or.inr (Nat.le_refl _), hlo, by simp, by simp, hB.alloc hB.size _⟩
theorem cutBox_set {T TM : TypeId} {wr w : World} {M : Mx} {p : Option Addr} {k lo q : Nat} {x0 x1 x2 x3 : Value} (hB : Below wr.heap.size wr w)
    (hz : w.heap[q]? = some (.cells #[x0, x1, x2, x3] TM)) (ho : OwnI T w lo w.heap.size (.slice p M.D.length k) M.D) (hlo : wr.heap.size ≤ lo) (hq : q < lo) (hr : wr.heap.size ≤ q) :
    CutBox T TM wr ((((w.setCell ⟨q, 0, none⟩ (.int .i64 M.P)).setCell ⟨q, 1, none⟩ (.int .i64 M.R)).setCell ⟨q, 2, none⟩ (.int .i64 M.C)).setCell ⟨q, 3, none⟩ (.slice p M.D.length k)) M (.pointer (some ⟨q, 0, none⟩)) :=
  ⟨_, _, _, _, _, rfl, hr, set4_all hz _ _ _ _, own_set4 ho (Or.inl hq) _ _ _ _, Or.inl hq, hlo, by simp, by have := blk_lt hz; simpa using this, below_set4 hB hr _ _ _ _⟩

end Go.Proofs.YtgebjjpcgakjgaaGreat

namespace Go.Proofs.YtgebjjpcgakjgaaGreat
set_option linter.all false
open Go.RowKit

theorem run_append_where {P : Program} (w : World) (t ty e : TypeId) (i : TypeInfo) (z : Value) (bytes : Nat) (ht : P.underlying t = some (.slice e)) (hi : P.info? e = some i) (hz : i.zero = some z)
    (hsize : i.size = 1) (hby : i.bytes = bytes) (hzs : z.cells.size = 1)
    (lo hi' : Nat) (v : Value) (n : Nat) (f : Nat → Value) (hown : OwnF w lo hi' e v n f)
    (u : Value) (m : Nat) (g : Nat → Value) (hx : Rd w u m g) (h1 : ∀ j, j < m → (g j).oneCell' = true) (h63 : n + m ≤ maxLen) (hbytes : (n + m) * bytes ≤ 140737488355328) {v' : Value} {w' : World}
    (hr : (Builtin.append_ #[t, t] ty #[v, u]).run P w = .ok v' w') : ∀ b, v'.ownBlock = some b → v.ownBlock = some b ∨ w.heap.size ≤ b := by
  obtain ⟨q, c, rfl, ⟨hmc, hcm⟩, hxc⟩ := hx
  have hsm : n + m ≤ 9223372036854775807 := by unfold maxLen at h63; omega
  by_cases hm : m = 0
  · subst hm
    obtain ⟨p, cap, rfl, hnc, _, _⟩ := hown.shape
    rw [run_append_none w t ty e i ht hi p q n cap c hnc] at hr
    injection hr with e1 e2
    subst e1
    exact fun b hb => .inl hb
  · obtain ⟨b, off, rfl, hc⟩ := hxc (by omega)
    have hnews : ∀ (j : Nat) (v : Value), ((List.range m).map g)[j]? = some v → w.cell? ((⟨b, off, none⟩ : Addr).add j) = some v := fun j x hx => by
      have hj : j < m := by
        rcases Nat.lt_or_ge j m with h | h
        · exact h
        · rw [List.getElem?_eq_none (by simpa using h)] at hx; cases hx
      simp [hj] at hx
      subst hx
      have hadd : (⟨b, off, none⟩ : Addr).add j = ⟨b, off + j, none⟩ := by unfold Addr.add; split <;> simp_all
      rw [hadd]
      exact hc j hj
    obtain ⟨xs, ho, hf⟩ := hown
    rcases ho.1.2 with ⟨rfl, rfl⟩ | ⟨gg, cap, cur, rfl, hbg, hg, hnc, hcm2, hcs, htake⟩
    · have hr2 := run_append_nil (P := P) w t ty e i z ht hi hz ⟨b, off, none⟩ m c ((List.range m).map g) (by simp [hsize]) hnews (by omega) (by omega) (by rw [hby]; simp only [Nat.zero_add] at hbytes; omega)
      rw [hr2] at hr
      injection hr with e1 e2
      subst e1
      intro b hb
      simp [Value.ownBlock] at hb
      exact .inr (by omega)
    · by_cases hroom : n + m ≤ cap
      · have hr2 := run_append_room (P := P) w t ty e i ht hi gg n cap cur hg ⟨b, off, none⟩ m c ((List.range m).map g) (by simp [hsize]) hnews (fun x hx => by
            simp only [List.mem_map, List.mem_range] at hx
            obtain ⟨j, hj, rfl⟩ := hx
            exact h1 j hj) hroom (by simp [hsize, hcs]; omega)
        rw [hr2] at hr
        injection hr with e1 e2
        subst e1
        exact fun b hb => .inl hb
      · have hr2 := run_append_grow (P := P) w t ty e i z ht hi hz ⟨gg, 0, none⟩ n cap xs (by rw [ho.len, hsize]) (ho.1.cells (g := gg) rfl) ⟨b, off, none⟩ m c ((List.range m).map g) (by simp [hsize]) hnews (by omega) (by omega) (growslice_fits (by omega) (by rw [hby]; exact hbytes))
        rw [hr2] at hr
        injection hr with e1 e2
        subst e1
        intro b hb
        simp [Value.ownBlock] at hb
        exact .inr (by omega)

/-- as wpList_append_F, with one fact more: where the block lies -/
theorem wpList_append_G {P : Program} {w : World} {ops : Array Oper} {rest : List Oper} {o : Oper} {a : Act} {Q : Exit → Act → World → Prop} (hgd : o.guard = none) (s x : Operand) (t : TypeId)
    (ho : o.op = .call { callee := .builtin .append, args := #[s, x], argTypes := #[t, t] })
    (e : TypeId) (z : Value) (bytes : Nat) (ht : P.underlying t = some (.slice e)) (hinfo : (P.info? e).map (fun i => (i.zero, i.size, i.bytes)) = some (some z, 1, bytes)) (hzs : z.cells.size = 1)
    (lo hi' : Nat) (v : Value) (n : Nat) (f : Nat → Value) (hs : a.eval s = v) (hown : OwnF w lo hi' e v n f) (hlo : lo ≤ w.heap.size) (hhi : hi' ≤ w.heap.size)
    (u : Value) (m : Nat) (g : Nat → Value) (hxu : a.eval x = u) (hx : Rd w u m g) (h1 : ∀ j, j < m → (g j).oneCell' = true) (h63 : n + m ≤ maxLen) (hbytes : (n + m) * bytes ≤ 140737488355328)
    (h : ∀ v' w', OwnF w' lo w'.heap.size e v' (n + m) (fun j => if j < n then f j else g (j - n)) → w.grownBy w' v.ownBlock → (∀ b, v'.ownBlock = some b → v.ownBlock = some b ∨ w.heap.size ≤ b) → wpList P ops Q rest (a.put o.dst v') w') :
    wpList P ops Q (o :: rest) a w := by
  refine wpList_plain hgd fun K hK' => ?_
  obtain ⟨i, hi, hz, hsz, hby⟩ := info_parts hinfo
  obtain ⟨v', w', hr, h2, h3⟩ := run_append_F (P := P) w t o.type e i z bytes ht hi hz hsz hby hzs lo hi' v n f hown hlo hhi u m g hx h1 h63 hbytes
  have h4 := run_append_where (P := P) w t o.type e i z bytes ht hi hz hsz hby hzs lo hi' v n f hown u m g hx h1 h63 hbytes hr
  unfold Oper.wp
  simp [execOp, ho, resolve, invoke, builtin, hs, hxu, hr, Result.andThen]
  exact hK' _ _ (h v' w' h2 h3 h4)

theorem Frm.of_drew {lo hi : Nat} {w w' : World} (h : Frm lo hi w.drew w') : Frm lo hi w w' := ⟨h.os, h.tape, h.output, h.size, h.block⟩
theorem below_of_drew {B : Nat} {w w' : World} (h : Below B w.drew w') : Below B w w' := ⟨h.os, h.tape, h.output, h.size, h.block⟩
/-- behind an append: a list of lists whose blocks are others stays -/
theorem OwnII.grown {Ts Ti : TypeId} {w w' : World} {lo hi : Nat} {v u : Value} {rows : List (List Int)} (h : OwnII Ts Ti w lo hi v rows) (hg : w.grownBy w' u.ownBlock) (hne : ∀ b, u.ownBlock = some b → b < lo ∨ hi ≤ b) : OwnII Ts Ti w' lo hi v rows :=
  h.keep fun k h1 h2 h3 => hg.block k h3 fun e => by have := hne k e.symm; omega

end Go.Proofs.YtgebjjpcgakjgaaGreat

namespace Go.Proofs.YtgebjjpcgakjgaaGreat
set_option linter.all false
open Go.RowKit

set_option maxRecDepth 100000 in
set_option maxHeartbeats 400000 in
theorem l1Ints_any (v : Value) (xs : List Int) (w : World) (h : Ints w v xs) (hl : xs.length ≤ 1000000) :
    Calls Tryz.prog 32 #[v] w (RetI w xs) := by
  have hI := Lib.hid h
  obtain ⟨p, cap, rfl, ⟨hx1, hx2⟩, hxc⟩ := h
  have Hb1 := Lib.hid (show 0 + xs.length ≤ maxLen by unfold maxLen; omega)
  have Hb2 := Lib.hid (show (0 + xs.length) * 8 ≤ 140737488355328 by omega)
  clear hxc
  go_enter Tryz.func32, Tryz.ntmps32
  go_wp2_with (at_builtin; go_must (refine wpList_append_F rfl (.tmp 3) (.tmp 4) 24 rfl 3 (.int .i64 0) 8 Tryz.underlying24 info_int rfl w.heap.size (w.heap.size + 1) _ 0 (fun _ => undef) rfl (OwnF.made0 w _ _) (by simp) (by simp) _ _ _ rfl (hI.out.below (below_alloc w _)) (fun j _ => iv_one _ j) Hb1.out Hb2.out ?_; intro v' w' ho' hg'))
  go_ret
  refine ⟨_, rfl, OwnF.ints ?_, (below_alloc w _).trans (grownBy_below hg' (OwnF.made0 w 3 (fun _ => undef)).blocks (Nat.le_refl _) (by simp))⟩
  rw [Nat.zero_add] at ho'
  exact ho'.congr fun j _ => by simp

/-- the argument's box, and a block for the result, whatever it holds -/
theorem keep5 {w W W' : World} {a0 a1 a2 a3 : Addr} {v0 v1 v2 v3 : Value} {b : Nat} {T : TypeId} (hb : Below W.heap.size W W')
    (h : ((W.cell? a0 = some v0 ∧ W.cell? a1 = some v1 ∧ W.cell? a2 = some v2 ∧ W.cell? a3 = some v3) ∧ ∃ y0 y1 y2 y3, W.heap[b]? = some (.cells #[y0, y1, y2, y3] T (0, 0))) ∧ Below w.heap.size w W) :
    ((W'.cell? a0 = some v0 ∧ W'.cell? a1 = some v1 ∧ W'.cell? a2 = some v2 ∧ W'.cell? a3 = some v3) ∧ ∃ y0 y1 y2 y3, W'.heap[b]? = some (.cells #[y0, y1, y2, y3] T (0, 0))) ∧ Below w.heap.size w W' := by
  obtain ⟨⟨⟨h0, h1, h2, h3⟩, y0, y1, y2, y3, hy⟩, hB⟩ := h
  exact ⟨⟨⟨cell_below hb h0, cell_below hb h1, cell_below hb h2, cell_below hb h3⟩, y0, y1, y2, y3, blk_later hy hb⟩, hB.trans (hb.mono hB.size)⟩
theorem keep5_gen {w W W' : World} {b1 o0 o1 o2 o3 : Nat} {v0 v1 v2 v3 z0 z1 z2 z3 : Value} {b : Nat} {T : TypeId} (hh : W'.heap[b1]? = W.heap[b1]?) (hy : W'.heap[b]? = some (.cells #[z0, z1, z2, z3] T (0, 0))) (hB : Below w.heap.size w W')
    (h : W.cell? ⟨b1, o0, none⟩ = some v0 ∧ W.cell? ⟨b1, o1, none⟩ = some v1 ∧ W.cell? ⟨b1, o2, none⟩ = some v2 ∧ W.cell? ⟨b1, o3, none⟩ = some v3) :
    ((W'.cell? ⟨b1, o0, none⟩ = some v0 ∧ W'.cell? ⟨b1, o1, none⟩ = some v1 ∧ W'.cell? ⟨b1, o2, none⟩ = some v2 ∧ W'.cell? ⟨b1, o3, none⟩ = some v3) ∧ ∃ y0 y1 y2 y3, W'.heap[b]? = some (.cells #[y0, y1, y2, y3] T (0, 0))) ∧ Below w.heap.size w W' := by
  obtain ⟨h0, h1, h2, h3⟩ := h
  refine ⟨⟨⟨?_, ?_, ?_, ?_⟩, z0, z1, z2, z3, hy⟩, hB⟩
  · rw [World.cell?_of_block (w := W) hh]; exact h0
  · rw [World.cell?_of_block (w := W) hh]; exact h1
  · rw [World.cell?_of_block (w := W) hh]; exact h2
  · rw [World.cell?_of_block (w := W) hh]; exact h3
theorem keep5_set {w W : World} {b1 o0 o1 o2 o3 : Nat} {v0 v1 v2 v3 : Value} {b : Nat} {T : TypeId} (hne : b1 ≠ b) (hbw : w.heap.size ≤ b) (x0 x1 x2 x3 : Value)
    (h : ((W.cell? ⟨b1, o0, none⟩ = some v0 ∧ W.cell? ⟨b1, o1, none⟩ = some v1 ∧ W.cell? ⟨b1, o2, none⟩ = some v2 ∧ W.cell? ⟨b1, o3, none⟩ = some v3) ∧ ∃ y0 y1 y2 y3, W.heap[b]? = some (.cells #[y0, y1, y2, y3] T (0, 0))) ∧ Below w.heap.size w W) :
    ((((((W.setCell ⟨b, 0, none⟩ x0).setCell ⟨b, 1, none⟩ x1).setCell ⟨b, 2, none⟩ x2).setCell ⟨b, 3, none⟩ x3).cell? ⟨b1, o0, none⟩ = some v0 ∧ ((((W.setCell ⟨b, 0, none⟩ x0).setCell ⟨b, 1, none⟩ x1).setCell ⟨b, 2, none⟩ x2).setCell ⟨b, 3, none⟩ x3).cell? ⟨b1, o1, none⟩ = some v1 ∧
      ((((W.setCell ⟨b, 0, none⟩ x0).setCell ⟨b, 1, none⟩ x1).setCell ⟨b, 2, none⟩ x2).setCell ⟨b, 3, none⟩ x3).cell? ⟨b1, o2, none⟩ = some v2 ∧ ((((W.setCell ⟨b, 0, none⟩ x0).setCell ⟨b, 1, none⟩ x1).setCell ⟨b, 2, none⟩ x2).setCell ⟨b, 3, none⟩ x3).cell? ⟨b1, o3, none⟩ = some v3) ∧
      ∃ y0 y1 y2 y3, ((((W.setCell ⟨b, 0, none⟩ x0).setCell ⟨b, 1, none⟩ x1).setCell ⟨b, 2, none⟩ x2).setCell ⟨b, 3, none⟩ x3).heap[b]? = some (.cells #[y0, y1, y2, y3] T (0, 0))) ∧
      Below w.heap.size w ((((W.setCell ⟨b, 0, none⟩ x0).setCell ⟨b, 1, none⟩ x1).setCell ⟨b, 2, none⟩ x2).setCell ⟨b, 3, none⟩ x3) := by
  obtain ⟨⟨hc, y0, y1, y2, y3, hy⟩, hB⟩ := h
  have hh : ((((W.setCell ⟨b, 0, none⟩ x0).setCell ⟨b, 1, none⟩ x1).setCell ⟨b, 2, none⟩ x2).setCell ⟨b, 3, none⟩ x3).heap[b1]? = W.heap[b1]? := by
    rw [Below.heap_setCell _ _ _ _ (show b1 ≠ (⟨b, 3, none⟩ : Addr).block from hne), Below.heap_setCell _ _ _ _ (show b1 ≠ (⟨b, 2, none⟩ : Addr).block from hne), Below.heap_setCell _ _ _ _ (show b1 ≠ (⟨b, 1, none⟩ : Addr).block from hne), Below.heap_setCell _ _ _ _ (show b1 ≠ (⟨b, 0, none⟩ : Addr).block from hne)]
  have hy4 := set4_all hy x0 x1 x2 x3
  have hB4 := below_set4 hB hbw x0 x1 x2 x3
  exact keep5_gen hh hy4 hB4 hc
theorem s5_blk {w W : World} {a0 a1 a2 a3 : Addr} {v0 v1 v2 v3 : Value} {b : Nat} {T : TypeId}
    (h : ((W.cell? a0 = some v0 ∧ W.cell? a1 = some v1 ∧ W.cell? a2 = some v2 ∧ W.cell? a3 = some v3) ∧ ∃ y0 y1 y2 y3, W.heap[b]? = some (.cells #[y0, y1, y2, y3] T (0, 0))) ∧ Below w.heap.size w W) :
    ∃ y0 y1 y2 y3, W.heap[b]? = some (.cells #[y0, y1, y2, y3] T (0, 0)) := h.1.2

/-- the box of a matrix argument and the result's cell -/
theorem box2_start (w : World) (T T2 : TypeId) (P R C : Int) (d : Value) :
    ((w.alloc (.cells #[.int .i64 P, .int .i64 R, .int .i64 C, d] T)).alloc (.cells #[.int .i64 0, .int .i64 0, .int .i64 0, .slice none 0 0] T2)).heap[w.heap.size]? = some (.cells #[.int .i64 P, .int .i64 R, .int .i64 C, d] T (0, 0)) ∧
    ((w.alloc (.cells #[.int .i64 P, .int .i64 R, .int .i64 C, d] T)).alloc (.cells #[.int .i64 0, .int .i64 0, .int .i64 0, .slice none 0 0] T2)).heap[w.heap.size + 1]? = some (.cells #[.int .i64 0, .int .i64 0, .int .i64 0, .slice none 0 0] T2 (0, 0)) := by
  refine ⟨?_, heap_alloc_at _ _ (by simp)⟩
  rw [heap_alloc_low _ _ (by simp)]; exact heap_alloc_top _ _

end Go.Proofs.YtgebjjpcgakjgaaGreat

namespace Go.Proofs.YtgebjjpcgakjgaaGreat
set_option linter.all false
open Go.RowKit

theorem ints_at {w : World} {v : Value} {rows : List (List Int)} {f : Nat → Value} (h : ∀ i, i < rows.length → Ints w (f i) (rows.getD i [])) {i : Nat} (hi : i < rows.length) :
    ∃ p cap, f i = .slice p (rows.getD i []).length cap ∧ (rows.getD i []).length ≤ cap ∧ cap ≤ maxLen := by
  obtain ⟨p, cap, e, ⟨h1, h2⟩, _⟩ := h i hi
  exact ⟨p, cap, e, h1, h2⟩

theorem keep2 {wr W W' : World} {a0 a1 : Addr} {v0 v1 : Value} (hb : Below W.heap.size W W') (h : (W.cell? a0 = some v0 ∧ W.cell? a1 = some v1) ∧ Below wr.heap.size wr W) :
    (W'.cell? a0 = some v0 ∧ W'.cell? a1 = some v1) ∧ Below wr.heap.size wr W' := ⟨⟨cell_below hb h.1.1, cell_below hb h.1.2⟩, below_trans h.2 hb⟩

/-- two lists of lists are the same row by row -/
theorem rows_eq {xs ys : List (List Int)} (hl : xs.length = ys.length) (h : ∀ j, j < xs.length → xs.getD j [] = ys.getD j []) : xs = ys := by
  apply List.ext_getElem hl
  intro i h1 h2
  have := h i h1
  simpa [List.getD_eq_getElem?_getD, h1, h2] using this

/-- slices of different types lie in different blocks -/
theorem own_types {Ts Ti : TypeId} {w : World} {lo hi lo1 hi1 n : Nat} {v y : Value} {f : Nat → Value} {ys : List Int} (g1 : OwnF w lo hi Ts v n f) (hy : OwnI Ti w lo1 hi1 y ys) (hT : Ts ≠ Ti)
    {k : Nat} (hv : v.ownBlock = some k) (hk : y.ownBlock = some k) : False := by
  obtain ⟨zs, hz, _⟩ := g1
  rcases Own.row hz with ⟨e1, _⟩ | ⟨g, cap', F, e1, _, _, _, _, hr, _⟩
  · rw [e1] at hv; simp [Value.ownBlock] at hv
  · rw [e1] at hv
    simp only [Value.ownBlock, Option.some.injEq] at hv
    subst hv
    rcases Own.row hy with ⟨e2, _⟩ | ⟨g', cap2, F2, e2, _, _, _, _, hr2, _⟩
    · rw [e2] at hk; simp [Value.ownBlock] at hk
    · rw [e2] at hk
      simp only [Value.ownBlock, Option.some.injEq] at hk
      subst hk
      obtain ⟨c, hc, _⟩ := hr
      obtain ⟨c2, hc2, _⟩ := hr2
      rw [hc] at hc2
      injection hc2 with hc2
      injection hc2 with _ hc2
      exact hT hc2
/-- an owned slice lies in its own block, or in none -/
theorem OwnI.tight {T : TypeId} {w : World} {lo hi : Nat} {v : Value} {xs : List Int} (h : OwnI T w lo hi v xs) :
    ∃ lo' hi', OwnI T w lo' hi' v xs ∧ (∀ k, lo' ≤ k → k < hi' → v.ownBlock = some k ∧ lo ≤ k ∧ k < hi) := by
  obtain ⟨⟨hl, hr⟩, hh⟩ := h
  rcases hr with ⟨rfl, h0⟩ | ⟨g, cap, cur, rfl, hg, r⟩
  · exact ⟨0, 0, ⟨⟨hl, .inl ⟨rfl, h0⟩⟩, fun k hk => by simp [Value.ownBlock] at hk⟩, fun k h1 h2 => absurd h2 (Nat.not_lt_zero _)⟩
  · refine ⟨g, g + 1, ⟨⟨hl, .inr ⟨g, cap, cur, rfl, Nat.le_refl _, r⟩⟩, fun k hk => by simp [Value.ownBlock] at hk; omega⟩, fun k h1 h2 => ?_⟩
    obtain rfl : k = g := by omega
    exact ⟨rfl, hg, hh k rfl⟩

theorem OwnI.widen {T : TypeId} {w : World} {lo hi lo' hi' : Nat} {v : Value} {xs : List Int} (h : OwnI T w lo' hi' v xs) (hin : ∀ k, v.ownBlock = some k → lo ≤ k ∧ k < hi) : OwnI T w lo hi v xs := by
  obtain ⟨⟨hl, hr⟩, hh⟩ := h
  rcases hr with ⟨rfl, h0⟩ | ⟨g, cap, cur, rfl, hg, r⟩
  · exact ⟨⟨hl, .inl ⟨rfl, h0⟩⟩, fun k hk => by simp [Value.ownBlock] at hk⟩
  · exact ⟨⟨hl, .inr ⟨g, cap, cur, rfl, (hin g rfl).1, r⟩⟩, fun k hk => (hin k hk).2⟩
theorem OwnI.besides {T : TypeId} {w w' : World} {lo hi lo' hi' : Nat} {v : Value} {xs : List Int} (h : OwnI T w lo hi v xs) (hf : Frm lo' hi' w w') (hne : ∀ b, v.ownBlock = some b → b < lo' ∨ hi' ≤ b) : OwnI T w' lo hi v xs :=
  ⟨ownsRow_of_block h.1 fun b hb => hf.block b (Own.block h hb).2.2 (hne b hb), h.2⟩
theorem OwnF.besides {T : TypeId} {w w' : World} {lo hi lo' hi' n : Nat} {v : Value} {f : Nat → Value} (h : OwnF w lo hi T v n f) (hf : Frm lo' hi' w w') (hne : ∀ b, v.ownBlock = some b → b < lo' ∨ hi' ≤ b) : OwnF w' lo hi T v n f := by
  obtain ⟨xs, h, hx⟩ := h
  exact ⟨xs, ⟨ownsRow_of_block h.1 fun b hb => hf.block b (Own.block h hb).2.2 (hne b hb), h.2⟩, hx⟩

/-- how many numbers the first k rows have -/
def pre (rows : List (List Int)) (k : Nat) : Nat := (rows.take k).flatten.length
theorem pre_zero (rows : List (List Int)) : pre rows 0 = 0 := by simp [pre]
theorem pre_succ (rows : List (List Int)) (k : Nat) (h : k < rows.length) : pre rows (k + 1) = pre rows k + (rows.getD k []).length := by
  have e : rows[k]? = some (rows.getD k []) := by rw [List.getD_eq_getElem?_getD, List.getElem?_eq_getElem h]; rfl
  unfold pre
  rw [List.take_add_one, List.flatten_append, List.length_append, e]
  simp only [Option.toList, List.flatten_cons, List.flatten_nil, List.append_nil]
theorem pre_le (rows : List (List Int)) (k : Nat) : pre rows k ≤ rows.flatten.length := by
  have e : rows.flatten.length = (rows.take k).flatten.length + (rows.drop k).flatten.length := by
    rw [← List.length_append, ← List.flatten_append, List.take_append_drop]
  unfold pre; omega
theorem pre_all (rows : List (List Int)) : pre rows rows.length = rows.flatten.length := by simp [pre]
/-- the rows, written over by m, m+1, .. -/
def runsII (m : Int) (rows : List (List Int)) : List (List Int) := (List.range rows.length).map fun i => runs (m + pre rows i) (rows.getD i []).length
theorem length_runsII (m : Int) (rows : List (List Int)) : (runsII m rows).length = rows.length := by simp [runsII]
theorem getD_runsII (m : Int) (rows : List (List Int)) {i : Nat} (h : i < rows.length) : (runsII m rows).getD i [] = runs (m + pre rows i) (rows.getD i []).length := by
  simp [runsII, List.getD_eq_getElem?_getD, h]

end Go.Proofs.YtgebjjpcgakjgaaGreat

namespace Go.Proofs.YtgebjjpcgakjgaaGreat
set_option linter.all false
open Go.RowKit

/-- rows of their own (lo .. mid-1, then mid .. hi-1) stand one behind the other in a slice that an append made -/
theorem OwnII.join {Ts Ti : TypeId} {w w' : World} {lo mid hi : Nat} {v v' : Value} {rows rows2 : List (List Int)} {f g : Nat → Value}
    (g1 : OwnF w lo mid Ts v rows.length f) (g2 : ∀ i, i < rows.length → OwnI Ti w lo mid (f i) (rows.getD i []))
    (g3 : ∀ i j, i < j → j < rows.length → ∀ k, (f i).ownBlock = some k → (f j).ownBlock ≠ some k)
    (h2 : ∀ i, i < rows2.length → OwnI Ti w mid hi (g i) (rows2.getD i []))
    (h3 : ∀ i j, i < j → j < rows2.length → ∀ k, (g i).ownBlock = some k → (g j).ownBlock ≠ some k)
    (hm : lo ≤ mid) (hmh : mid ≤ hi) (hT : Ts ≠ Ti) (hg : w.grownBy w' v.ownBlock) (hsz : hi ≤ w'.heap.size)
    (hv : OwnF w' lo w'.heap.size Ts v' (rows.length + rows2.length) (fun j => if j < rows.length then f j else g (j - rows.length))) :
    OwnII Ts Ti w' lo w'.heap.size v' (rows ++ rows2) := by
  have hrow : ∀ (y : Value) (ys : List Int) (lo1 hi1 : Nat), OwnI Ti w lo1 hi1 y ys → OwnI Ti w' lo1 hi1 y ys := fun y ys lo1 hi1 hy =>
    ⟨ownsRow_of_block hy.1 fun k hk => hg.block k (Own.block hy hk).2.2 fun e => own_types g1 hy hT e.symm hk, hy.2⟩
  refine ⟨_, by rw [List.length_append]; exact hv, fun i hi => ?_, fun i j hij hj k hk => ?_⟩
  · rw [List.length_append] at hi
    by_cases hlt : i < rows.length
    · have e : (rows ++ rows2).getD i [] = rows.getD i [] := by simp [List.getD_eq_getElem?_getD, List.getElem?_append_left hlt]
      simp only [hlt, if_true]
      rw [e]
      exact (hrow _ _ _ _ (g2 i hlt)).mono (Nat.le_refl _) (by omega)
    · have e : (rows ++ rows2).getD i [] = rows2.getD (i - rows.length) [] := by
        simp [List.getD_eq_getElem?_getD, List.getElem?_append_right (Nat.le_of_not_lt hlt)]
      simp only [hlt, if_false]
      rw [e]
      exact (hrow _ _ _ _ (h2 _ (by omega))).mono hm hsz
  · rw [List.length_append] at hj
    by_cases hlt : j < rows.length
    · simp only [hlt, if_true]
      simp only [show i < rows.length by omega, if_true] at hk
      exact g3 i j hij hlt k hk
    · simp only [hlt, if_false]
      by_cases hil : i < rows.length
      · simp only [hil, if_true] at hk
        intro e
        have h5 := (Own.block (g2 i hil) hk).2.1
        have h6 := (Own.block (h2 _ (by omega)) e).1
        omega
      · simp only [hil, if_false] at hk
        exact h3 _ _ (by omega) (by omega) k hk

theorem OwnI.snoc1 {T : TypeId} {w : World} {lo hi : Nat} {v : Value} {out : List Int} {x : Int} (h : OwnF w lo hi T v (out.length + 1) (fun j => if j < out.length then iv out j else .int .i64 x)) : OwnI T w lo hi v (out ++ [x]) := by
  refine OwnF.ints ?_
  rw [List.length_append]
  exact h.congr fun j hj => by
    by_cases h : j < out.length
    · simp [h, iv, List.getD_eq_getElem?_getD, List.getElem?_append_left h]
    · have : j = out.length := by omega
      subst this
      simp [iv, List.getD_eq_getElem?_getD]

theorem flatMap_len {α : Type} (g : Nat → List α) (b : Nat) (h : ∀ x, (g x).length ≤ b) : ∀ n, ((List.range n).flatMap g).length ≤ n * b
  | 0 => by simp
  | n + 1 => by
    rw [List.range_succ, List.flatMap_append, List.length_append, Nat.succ_mul]
    have := flatMap_len g b h n
    have h2 := h n
    simp only [List.flatMap_cons, List.flatMap_nil, List.append_nil]
    omega

theorem flatMap_snoc {α : Type} (g : Nat → List α) (n : Nat) : (List.range (n + 1)).flatMap g = (List.range n).flatMap g ++ g n := by
  rw [List.range_succ, List.flatMap_append]
  simp

end Go.Proofs.YtgebjjpcgakjgaaGreat

namespace Go.Proofs.YtgebjjpcgakjgaaGreat
set_option linter.all false
open Go.RowKit

/-- append, as a step of a region that draws -/
theorem step_append_F {P : Program} {w : World} {ops : Array Oper} {o : Oper} {a : Act} {K : Act → World → Prop} {Q : Exit → Act → World → Prop} {E : Prop} (hgd : o.guard = none) (s x : Operand) (t : TypeId)
    (ho : o.op = .call { callee := .builtin .append, args := #[s, x], argTypes := #[t, t] })
    (e : TypeId) (z : Value) (bytes : Nat) (ht : P.underlying t = some (.slice e)) (hinfo : (P.info? e).map (fun i => (i.zero, i.size, i.bytes)) = some (some z, 1, bytes)) (hzs : z.cells.size = 1)
    (lo hi' : Nat) (v : Value) (n : Nat) (f : Nat → Value) (hs : a.eval s = v) (hown : OwnF w lo hi' e v n f) (hlo : lo ≤ w.heap.size) (hhi : hi' ≤ w.heap.size)
    (u : Value) (m : Nat) (g : Nat → Value) (hxu : a.eval x = u) (hx : Rd w u m g) (h1 : ∀ j, j < m → (g j).oneCell' = true) (h63 : n + m ≤ maxLen) (hbytes : (n + m) * bytes ≤ 140737488355328)
    (h : ∀ v' w', OwnF w' lo w'.heap.size e v' (n + m) (fun j => if j < n then f j else g (j - n)) → w.grownBy w' v.ownBlock → K (a.put o.dst v') w') :
    if Region.wanted o (yielded ops a.tmps) = true then Oper.wp P o a w K Q else E := by
  have hw : Region.wanted o (yielded ops a.tmps) = true := by simp [Region.wanted, hgd]
  rw [if_pos hw]
  obtain ⟨i, hi, hz, hsz, hby⟩ := info_parts hinfo
  obtain ⟨v', w', hr, h2, h3⟩ := run_append_F (P := P) w t o.type e i z bytes ht hi hz hsz hby hzs lo hi' v n f hown hlo hhi u m g hx h1 h63 hbytes
  unfold Oper.wp
  simp [execOp, ho, resolve, invoke, builtin, hs, hxu, hr, Result.andThen]
  exact h v' w' h2 h3

theorem grownBy_below2 {w w' : World} {v : Value} {lo hi : Nat} {T : TypeId} {n : Nat} {f : Nat → Value} (h : w.grownBy w' v.ownBlock) (ho : OwnF w lo hi T v n f) {B : Nat} (h1 : B ≤ lo) (h2 : B ≤ w.heap.size) : Below B w w' :=
  grownBy_below h ho.blocks h1 h2

/-- eight cells that are read, and a block for the result -/
theorem keep9 {w W W' : World} {a0 a1 a2 a3 a4 a5 a6 a7 : Addr} {v0 v1 v2 v3 v4 v5 v6 v7 : Value} {b : Nat} {T : TypeId} (hb : Below W.heap.size W W')
    (h : ((W.cell? a0 = some v0 ∧ W.cell? a1 = some v1 ∧ W.cell? a2 = some v2 ∧ W.cell? a3 = some v3 ∧ W.cell? a4 = some v4 ∧ W.cell? a5 = some v5 ∧ W.cell? a6 = some v6 ∧ W.cell? a7 = some v7) ∧ ∃ y0 y1 y2 y3, W.heap[b]? = some (.cells #[y0, y1, y2, y3] T (0, 0))) ∧ Below w.heap.size w W) :
    ((W'.cell? a0 = some v0 ∧ W'.cell? a1 = some v1 ∧ W'.cell? a2 = some v2 ∧ W'.cell? a3 = some v3 ∧ W'.cell? a4 = some v4 ∧ W'.cell? a5 = some v5 ∧ W'.cell? a6 = some v6 ∧ W'.cell? a7 = some v7) ∧ ∃ y0 y1 y2 y3, W'.heap[b]? = some (.cells #[y0, y1, y2, y3] T (0, 0))) ∧ Below w.heap.size w W' := by
  obtain ⟨⟨⟨h0, h1, h2, h3, h4, h5, h6, h7⟩, y0, y1, y2, y3, hy⟩, hB⟩ := h
  exact ⟨⟨⟨cell_below hb h0, cell_below hb h1, cell_below hb h2, cell_below hb h3, cell_below hb h4, cell_below hb h5, cell_below hb h6, cell_below hb h7⟩, y0, y1, y2, y3, blk_later hy hb⟩, hB.trans (hb.mono hB.size)⟩
theorem keep9_gen {w W W' : World} {b1 b2 o0 o1 o2 o3 o4 o5 o6 o7 : Nat} {v0 v1 v2 v3 v4 v5 v6 v7 z0 z1 z2 z3 : Value} {b : Nat} {T : TypeId} (hh : W'.heap[b1]? = W.heap[b1]?) (hh2 : W'.heap[b2]? = W.heap[b2]?) (hy : W'.heap[b]? = some (.cells #[z0, z1, z2, z3] T (0, 0))) (hB : Below w.heap.size w W')
    (h : W.cell? ⟨b1, o0, none⟩ = some v0 ∧ W.cell? ⟨b1, o1, none⟩ = some v1 ∧ W.cell? ⟨b1, o2, none⟩ = some v2 ∧ W.cell? ⟨b1, o3, none⟩ = some v3 ∧ W.cell? ⟨b2, o4, none⟩ = some v4 ∧ W.cell? ⟨b2, o5, none⟩ = some v5 ∧ W.cell? ⟨b2, o6, none⟩ = some v6 ∧ W.cell? ⟨b2, o7, none⟩ = some v7) :
    ((W'.cell? ⟨b1, o0, none⟩ = some v0 ∧ W'.cell? ⟨b1, o1, none⟩ = some v1 ∧ W'.cell? ⟨b1, o2, none⟩ = some v2 ∧ W'.cell? ⟨b1, o3, none⟩ = some v3 ∧ W'.cell? ⟨b2, o4, none⟩ = some v4 ∧ W'.cell? ⟨b2, o5, none⟩ = some v5 ∧ W'.cell? ⟨b2, o6, none⟩ = some v6 ∧ W'.cell? ⟨b2, o7, none⟩ = some v7) ∧ ∃ y0 y1 y2 y3, W'.heap[b]? = some (.cells #[y0, y1, y2, y3] T (0, 0))) ∧ Below w.heap.size w W' := by
  obtain ⟨h0, h1, h2, h3, h4, h5, h6, h7⟩ := h
  refine ⟨⟨⟨?_, ?_, ?_, ?_, ?_, ?_, ?_, ?_⟩, z0, z1, z2, z3, hy⟩, hB⟩
  · rw [World.cell?_of_block (w := W) hh]; exact h0
  · rw [World.cell?_of_block (w := W) hh]; exact h1
  · rw [World.cell?_of_block (w := W) hh]; exact h2
  · rw [World.cell?_of_block (w := W) hh]; exact h3
  · rw [World.cell?_of_block (w := W) hh2]; exact h4
  · rw [World.cell?_of_block (w := W) hh2]; exact h5
  · rw [World.cell?_of_block (w := W) hh2]; exact h6
  · rw [World.cell?_of_block (w := W) hh2]; exact h7
theorem heap_set4 {W : World} {b1 b : Nat} (hne : b1 ≠ b) (x0 x1 x2 x3 : Value) : ((((W.setCell ⟨b, 0, none⟩ x0).setCell ⟨b, 1, none⟩ x1).setCell ⟨b, 2, none⟩ x2).setCell ⟨b, 3, none⟩ x3).heap[b1]? = W.heap[b1]? := by
  rw [Below.heap_setCell _ _ _ _ (show b1 ≠ (⟨b, 3, none⟩ : Addr).block from hne), Below.heap_setCell _ _ _ _ (show b1 ≠ (⟨b, 2, none⟩ : Addr).block from hne), Below.heap_setCell _ _ _ _ (show b1 ≠ (⟨b, 1, none⟩ : Addr).block from hne), Below.heap_setCell _ _ _ _ (show b1 ≠ (⟨b, 0, none⟩ : Addr).block from hne)]
theorem keep9_set {w W : World} {b1 b2 o0 o1 o2 o3 o4 o5 o6 o7 : Nat} {v0 v1 v2 v3 v4 v5 v6 v7 : Value} {b : Nat} {T : TypeId} (hne : b1 ≠ b) (hne2 : b2 ≠ b) (hbw : w.heap.size ≤ b) (x0 x1 x2 x3 : Value)
    (h : ((W.cell? ⟨b1, o0, none⟩ = some v0 ∧ W.cell? ⟨b1, o1, none⟩ = some v1 ∧ W.cell? ⟨b1, o2, none⟩ = some v2 ∧ W.cell? ⟨b1, o3, none⟩ = some v3 ∧ W.cell? ⟨b2, o4, none⟩ = some v4 ∧ W.cell? ⟨b2, o5, none⟩ = some v5 ∧ W.cell? ⟨b2, o6, none⟩ = some v6 ∧ W.cell? ⟨b2, o7, none⟩ = some v7) ∧ ∃ y0 y1 y2 y3, W.heap[b]? = some (.cells #[y0, y1, y2, y3] T (0, 0))) ∧ Below w.heap.size w W) :
    ((((((W.setCell ⟨b, 0, none⟩ x0).setCell ⟨b, 1, none⟩ x1).setCell ⟨b, 2, none⟩ x2).setCell ⟨b, 3, none⟩ x3).cell? ⟨b1, o0, none⟩ = some v0 ∧ ((((W.setCell ⟨b, 0, none⟩ x0).setCell ⟨b, 1, none⟩ x1).setCell ⟨b, 2, none⟩ x2).setCell ⟨b, 3, none⟩ x3).cell? ⟨b1, o1, none⟩ = some v1 ∧
      ((((W.setCell ⟨b, 0, none⟩ x0).setCell ⟨b, 1, none⟩ x1).setCell ⟨b, 2, none⟩ x2).setCell ⟨b, 3, none⟩ x3).cell? ⟨b1, o2, none⟩ = some v2 ∧ ((((W.setCell ⟨b, 0, none⟩ x0).setCell ⟨b, 1, none⟩ x1).setCell ⟨b, 2, none⟩ x2).setCell ⟨b, 3, none⟩ x3).cell? ⟨b1, o3, none⟩ = some v3 ∧
      ((((W.setCell ⟨b, 0, none⟩ x0).setCell ⟨b, 1, none⟩ x1).setCell ⟨b, 2, none⟩ x2).setCell ⟨b, 3, none⟩ x3).cell? ⟨b2, o4, none⟩ = some v4 ∧ ((((W.setCell ⟨b, 0, none⟩ x0).setCell ⟨b, 1, none⟩ x1).setCell ⟨b, 2, none⟩ x2).setCell ⟨b, 3, none⟩ x3).cell? ⟨b2, o5, none⟩ = some v5 ∧
      ((((W.setCell ⟨b, 0, none⟩ x0).setCell ⟨b, 1, none⟩ x1).setCell ⟨b, 2, none⟩ x2).setCell ⟨b, 3, none⟩ x3).cell? ⟨b2, o6, none⟩ = some v6 ∧ ((((W.setCell ⟨b, 0, none⟩ x0).setCell ⟨b, 1, none⟩ x1).setCell ⟨b, 2, none⟩ x2).setCell ⟨b, 3, none⟩ x3).cell? ⟨b2, o7, none⟩ = some v7) ∧
      ∃ y0 y1 y2 y3, ((((W.setCell ⟨b, 0, none⟩ x0).setCell ⟨b, 1, none⟩ x1).setCell ⟨b, 2, none⟩ x2).setCell ⟨b, 3, none⟩ x3).heap[b]? = some (.cells #[y0, y1, y2, y3] T (0, 0))) ∧
      Below w.heap.size w ((((W.setCell ⟨b, 0, none⟩ x0).setCell ⟨b, 1, none⟩ x1).setCell ⟨b, 2, none⟩ x2).setCell ⟨b, 3, none⟩ x3) := by
  obtain ⟨⟨hc, y0, y1, y2, y3, hy⟩, hB⟩ := h
  have hy4 := set4_all hy x0 x1 x2 x3
  have hB4 := below_set4 hB hbw x0 x1 x2 x3
  exact keep9_gen (heap_set4 hne x0 x1 x2 x3) (heap_set4 hne2 x0 x1 x2 x3) hy4 hB4 hc
theorem s9_blk {w W : World} {c : Prop} {b : Nat} {T : TypeId}
    (h : (c ∧ ∃ y0 y1 y2 y3, W.heap[b]? = some (.cells #[y0, y1, y2, y3] T (0, 0))) ∧ Below w.heap.size w W) :
    ∃ y0 y1 y2 y3, W.heap[b]? = some (.cells #[y0, y1, y2, y3] T (0, 0)) := h.1.2

/-- .. where what changed lies from B on -/
theorem keep9B {w W W' : World} {B b1 b2 o0 o1 o2 o3 o4 o5 o6 o7 : Nat} {v0 v1 v2 v3 v4 v5 v6 v7 : Value} {b : Nat} {T : TypeId} (hb : Below B W W') (hB1 : b1 < B) (hB2 : b2 < B) (hB3 : b < B) (hw : w.heap.size ≤ B)
    (h : ((W.cell? ⟨b1, o0, none⟩ = some v0 ∧ W.cell? ⟨b1, o1, none⟩ = some v1 ∧ W.cell? ⟨b1, o2, none⟩ = some v2 ∧ W.cell? ⟨b1, o3, none⟩ = some v3 ∧ W.cell? ⟨b2, o4, none⟩ = some v4 ∧ W.cell? ⟨b2, o5, none⟩ = some v5 ∧ W.cell? ⟨b2, o6, none⟩ = some v6 ∧ W.cell? ⟨b2, o7, none⟩ = some v7) ∧ ∃ y0 y1 y2 y3, W.heap[b]? = some (.cells #[y0, y1, y2, y3] T (0, 0))) ∧ Below w.heap.size w W) :
    ((W'.cell? ⟨b1, o0, none⟩ = some v0 ∧ W'.cell? ⟨b1, o1, none⟩ = some v1 ∧ W'.cell? ⟨b1, o2, none⟩ = some v2 ∧ W'.cell? ⟨b1, o3, none⟩ = some v3 ∧ W'.cell? ⟨b2, o4, none⟩ = some v4 ∧ W'.cell? ⟨b2, o5, none⟩ = some v5 ∧ W'.cell? ⟨b2, o6, none⟩ = some v6 ∧ W'.cell? ⟨b2, o7, none⟩ = some v7) ∧ ∃ y0 y1 y2 y3, W'.heap[b]? = some (.cells #[y0, y1, y2, y3] T (0, 0))) ∧ Below w.heap.size w W' := by
  obtain ⟨⟨hc, y0, y1, y2, y3, hy⟩, hB⟩ := h
  exact keep9_gen (hb.block _ hB1) (hb.block _ hB2) ((hb.block _ hB3).trans hy) (hB.trans (hb.mono hw)) hc
theorem held_lt {w W : World} {c : Prop} {b : Nat} {T : TypeId} (h : (c ∧ ∃ y0 y1 y2 y3, W.heap[b]? = some (.cells #[y0, y1, y2, y3] T (0, 0))) ∧ Below w.heap.size w W) : b + 1 ≤ W.heap.size := by
  obtain ⟨y0, y1, y2, y3, hy⟩ := h.1.2
  exact blk_lt hy

/-- one list behind another one -/
theorem own_join {T : TypeId} {w : World} {lo hi : Nat} {v : Value} {xs ys : List Int} (h : OwnF w lo hi T v (xs.length + ys.length) (fun j => if j < xs.length then iv xs j else iv ys (j - xs.length))) : OwnI T w lo hi v (xs ++ ys) := by
  refine OwnF.ints ?_
  rw [List.length_append]
  exact h.congr fun j _ => iv_append rfl j

theorem OwnI.one {T : TypeId} {w : World} {lo hi : Nat} {v : Value} {xs : List Int} (h : OwnI T w lo hi v xs) : v.oneCell' = true := by
  obtain ⟨p, cap, rfl, _, _⟩ := h.shape
  rfl
/-- rows of the call's own, put behind others, as a step of a region that draws -/
theorem step_append_II {w : World} {ops : Array Oper} {o : Oper} {a : Act} {K : Act → World → Prop} {Q : Exit → Act → World → Prop} {E : Prop} (hgd : o.guard = none) (s x : Operand)
    (ho : o.op = .call { callee := .builtin .append, args := #[s, x], argTypes := #[63, 63] })
    (lo mid hi : Nat) (v u : Value) (rows rows2 : List (List Int)) (hs : a.eval s = v) (hxu : a.eval x = u)
    (h1 : OwnII 24 3 w lo mid v rows) (h2 : OwnII 24 3 w mid hi u rows2) (hm : lo ≤ mid) (hmh : mid ≤ hi) (hhi : hi ≤ w.heap.size) (hl : rows.length + rows2.length ≤ 1000)
    (h : ∀ v' w', OwnII 24 3 w' lo w'.heap.size v' (rows ++ rows2) → Below lo w w' → K (a.put o.dst v') w') :
    if Region.wanted o (yielded ops a.tmps) = true then Oper.wp Tryz.prog o a w K Q else E := by
  obtain ⟨f, g1, g2, g3⟩ := h1
  obtain ⟨g, k1, k2, k3⟩ := h2
  refine step_append_F hgd s x 63 ho 24 (.slice none 0 0) 24 Tryz.underlying63 info_sl rfl lo mid v rows.length f hs g1 (by omega) (by omega) u rows2.length g hxu k1.rd (fun j hj => (k2 j hj).one) (by unfold maxLen; omega) (by omega) ?_
  intro v' w' ho' hg'
  exact h v' w' (OwnII.join g1 g2 g3 k2 k3 hm hmh (by decide) hg' (Nat.le_trans hhi hg'.size) ho') (grownBy_below2 hg' g1 (Nat.le_refl _) (by omega))

/-- the boxes of two arguments -/
theorem boxes_ab (w : World) (A B : Obj) : ((w.alloc A).alloc B).heap[w.heap.size]? = some A ∧ ((w.alloc A).alloc B).heap[w.heap.size + 1]? = some B := by
  refine ⟨?_, heap_alloc_at _ _ (by simp)⟩
  rw [heap_alloc_low _ _ (by simp)]; exact heap_alloc_top _ _
/-- .. and the result's cell -/
theorem boxes_abz (w : World) (A B Z : Obj) : (((w.alloc A).alloc B).alloc Z).heap[w.heap.size]? = some A ∧ (((w.alloc A).alloc B).alloc Z).heap[w.heap.size + 1]? = some B ∧ (((w.alloc A).alloc B).alloc Z).heap[w.heap.size + 1 + 1]? = some Z := by
  refine ⟨?_, ?_, heap_alloc_at _ _ (by simp)⟩
  · rw [heap_alloc_low _ _ (by simp; omega)]; exact (boxes_ab w A B).1
  · rw [heap_alloc_low _ _ (by simp)]; exact (boxes_ab w A B).2
theorem size_ab (w : World) (A B : Obj) : ((w.alloc A).alloc B).heap.size = w.heap.size + 1 + 1 := by simp
theorem size_abz (w : World) (A B Z : Obj) : (((w.alloc A).alloc B).alloc Z).heap.size = w.heap.size + 1 + 1 + 1 := by simp

end Go.Proofs.YtgebjjpcgakjgaaGreat
