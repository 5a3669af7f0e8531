/-
  The law's own helpers over []int: copy, compare, mark, look for the marks.
-/
import Derived.Test.YtmnlpkmnbjoicaaProg
import Derived.Test.YtmnlpkmnbjoicaaMem
namespace Go.Proofs.Ytmnlpkmnbjoicaa
set_option linter.all false
open Go.RowKit

theorem info_int : (Try.prog.info? 3).map (fun i => (i.zero, i.size, i.bytes)) = some (some (.int .i64 0), 1, 8) := by kernel_rfl

theorem eq_snoc {xs ys : List Int} {k : Nat} (h : ∀ j, j < k → xs.getD j 0 = ys.getD j 0) (e : xs.getD k 0 = ys.getD k 0) : ∀ j, j < k + 1 → xs.getD j 0 = ys.getD j 0 := by
  intro j hj
  by_cases hk : j = k
  · subst hk; exact e
  · exact h j (by omega)

/-- is slot after slot m, m+1, ..? then what comes behind; else -1 -/
def heldI (xs : List Int) (m : Int) : Int := if xs = runs m xs.length then m + xs.length else -1

theorem heldI_runs (m : Int) (n : Nat) : heldI (runs m n) m = m + n := by simp [heldI, length_runs]

end Go.Proofs.Ytmnlpkmnbjoicaa
