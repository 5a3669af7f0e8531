/-
  The rows of two matrices, one behind the other: l7Both.
-/
import Derived.Test.YtmnlpkmnbjoicaaStep
import Derived.Test.YtmnlpkmnbjoicaaL7Red
namespace Go.Proofs.Ytmnlpkmnbjoicaa
set_option linter.all false
open Go.RowKit


end Go.Proofs.Ytmnlpkmnbjoicaa
