/-
  l7At: the number at a place of a matrix.
-/
import Derived.Test.YtajilmfaconjbaaAddRow
namespace Go.Proofs.Ytajilmfaconjbaa
set_option linter.all false
open Go.RowKit

end Go.Proofs.Ytajilmfaconjbaa
