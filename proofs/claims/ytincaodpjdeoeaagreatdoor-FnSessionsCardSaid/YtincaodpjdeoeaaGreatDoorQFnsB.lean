/-
  The row of FnSessions.
-/
import Derived.Test.YtincaodpjdeoeaaGreatDoorRows
import Derived.Test.YtincaodpjdeoeaaGreatDoorCards
import Derived.Test.YtincaodpjdeoeaaGreatDoorTie
import Derived.WalkKit
import Derived.ProofKit
import Derived.OpenShut
import Derived.ShutString
import Derived.ChangeOld
import Derived.Below
import Derived.LaidMore
import Derived.Lay
import Derived.LaidHandle
import Derived.SevenTiedAt
import Derived.Stop.Joined
import Derived.Test.YtincaodpjdeoeaaGreatDoorJ1
import Derived.Test.YtincaodpjdeoeaaGreatDoorQFnsA

namespace Go.Proofs.YtincaodpjdeoeaaGreatDoor.fnSessions
open Go.ChangeShapes Go.WideShapes Go.ChangeAt Go.RowKit
set_option linter.unusedVariables false
set_option linter.all false

theorem over : Rows.fnSessionsRow.holds Tryz.pinned (OpenSpec.ofChange Rows.fnSessionsSpec) :=
  OpenClaim.holds_of_wide 3 Tryz.f3 rfl rfl rfl rfl rfl rfl rfl ⟨rfl, rfl, rfl, rfl, rfl⟩ rfl rfl rfl rfl rfl (by kernel_rfl) Tryz.func3 (by kernel_rfl)
    (of_decide_eq_true (by kernel_rfl)) (by unfold Func.isWrapper; first | (rw [if_pos (by decide +kernel)]; kernel_rfl) | (rw [if_neg (by decide +kernel)]; exact ⟨rfl, rfl⟩))
    (fun os started H enc _ => lifted os started H enc)

end Go.Proofs.YtincaodpjdeoeaaGreatDoor.fnSessions
