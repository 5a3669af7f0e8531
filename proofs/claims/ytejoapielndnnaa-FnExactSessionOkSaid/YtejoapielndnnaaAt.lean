/-
  l7At: the number at a place of a matrix.
-/
import Derived.Test.YtejoapielndnnaaAddRow
namespace Go.Proofs.Ytejoapielndnnaa
set_option linter.all false
open Go.RowKit

set_option maxRecDepth 100000 in
set_option maxHeartbeats 1000000 in
theorem l7At_any (P R : Int) (C i j : Nat) (d : Value) (D : List Int) (w : World) (h : Ints w d D) (hC : i * C + j < D.length) (hD : D.length ≤ 1000000) :
    Calls Try.prog 98 #[.agg #[.int .i64 P, .int .i64 R, .int .i64 (C : Int), d], .int .i64 (i : Int), .int .i64 (j : Int)] w fun e w' =>
      e = .returned (.int .i64 (D.getD (i * C + j) 0)) ∧ Below w.heap.size w w' := by
  obtain ⟨q, capu, rfl, ⟨hu1, hu2⟩, huc⟩ := h
  unfold maxLen at hu2
  obtain ⟨b, off, rfl, hc⟩ := huc (by omega)
  have c1 : w.cell? ⟨b, off + (i * C + j), none⟩ = some (.int .i64 (D.getD (i * C + j) 0)) := by rw [hc _ hC, iv]
  have hb := World.block_lt_of_cell? _ _ c1
  obtain ⟨z, hz⟩ : ∃ z, z = D.getD (i * C + j) 0 := ⟨_, rfl⟩
  rw [← hz] at c1 ⊢
  clear huc hc hz
  go_enter Try.func98, Try.ntmps98
  go_wp2_with fail
  go_ret
  exact ⟨rfl, below_alloc _ _⟩

end Go.Proofs.Ytejoapielndnnaa
