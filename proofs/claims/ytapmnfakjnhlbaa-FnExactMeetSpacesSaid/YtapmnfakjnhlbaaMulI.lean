/-
  The program's product of matrices.
-/
import Derived.Test.YtapmnfakjnhlbaaMulS
import Derived.Test.YtapmnfakjnhlbaaApp2
namespace Go.Proofs.Ytapmnfakjnhlbaa
set_option linter.all false
open Go.RowKit

/-- row i of the product, the first k products added -/
def partRow (P : Int) (ca cb : Nat) (A B : List Int) (i k : Nat) : List Int := (List.range cb).map fun (j : Nat) => (sumTo k fun k => A.getD (i * ca + k) 0 * B.getD (k * cb + j) 0) % P
theorem partRow_length (P : Int) (ca cb : Nat) (A B : List Int) (i k : Nat) : (partRow P ca cb A B i k).length = cb := by simp [partRow]
theorem partRow_getD {P : Int} {ca cb : Nat} {A B : List Int} {i k j : Nat} (h : j < cb) : (partRow P ca cb A B i k).getD j 0 = (sumTo k fun k => A.getD (i * ca + k) 0 * B.getD (k * cb + j) 0) % P := by
  simp [partRow, List.getD_eq_getElem?_getD, h]
theorem partRow_succ {P : Int} {ca cb : Nat} {A B : List Int} {i k : Nat} : addRowL P (A.getD (i * ca + k) 0) (partRow P ca cb A B i k) (rowAt cb B k) = partRow P ca cb A B i (k + 1) := by
  apply getD_eq_list (by rw [addRowL_length, partRow_length, partRow_length])
  intro j hj
  rw [addRowL_length, partRow_length] at hj
  rw [addRowL_getD (by rw [partRow_length]; exact hj), partRow_getD hj, partRow_getD hj, rowAt_getD hj]
  simp only [sumTo, Int.emod_add_emod]
theorem partRow_small {P : Int} (h0 : 0 < P) (h1 : P ≤ 1000) (ca cb : Nat) (A B : List Int) (i k : Nat) : Small (partRow P ca cb A B i k) := by
  intro x hx
  simp only [partRow, List.mem_map, List.mem_range] at hx
  obtain ⟨j, _, rfl⟩ := hx
  have := Int.emod_nonneg (sumTo k fun k => A.getD (i * ca + k) 0 * B.getD (k * cb + j) 0) (show P ≠ 0 by omega)
  have := Int.emod_lt_of_pos (sumTo k fun k => A.getD (i * ca + k) 0 * B.getD (k * cb + j) 0) h0
  omega
theorem Boxes3.later_low {w : World} {T Tz : TypeId} {a b : Mx} {da db : Value} {wr wx : World} (h : Boxes3 w T Tz a b da db wr) {B : Nat} (hb : Below B wr wx) (hB : w.heap.size + 1 + 1 < B) : Boxes3 w T Tz a b da db wx :=
  ⟨by rw [hb.block _ (by omega)]; exact h.1, by rw [hb.block _ (by omega)]; exact h.2.1, by rw [hb.block _ hB]; exact h.2.2.1, h.2.2.2.trans (hb.mono (by omega))⟩
theorem mulRows_eq (P : Int) (ra ca cb : Nat) (A B : List Int) : mulRows P ra ca cb A B = (List.range ra).map fun i => partRow P ca cb A B i ca := rfl
theorem small_of_range {D : List Int} {P : Int} (h : ∀ x ∈ D, 0 ≤ x ∧ x < P) (hP : P ≤ 1000) : Small D := fun x hx => by have := h x hx; omega
theorem rowAt_small {D : List Int} (h : Small D) (C i : Nat) : Small (rowAt C D i) := fun x hx => h x (List.mem_of_mem_drop (List.mem_of_mem_take hx))

end Go.Proofs.Ytapmnfakjnhlbaa
