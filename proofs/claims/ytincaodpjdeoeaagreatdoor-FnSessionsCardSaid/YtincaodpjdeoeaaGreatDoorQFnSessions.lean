/-
  Proved: the law FnSessions returns true for every input, and its arguments read afterwards as before. Conditions: package-level variables of Go's library that it names but never reads (unicode/utf8.first, unicode/utf8.acceptRanges) start as the library's text lays them (tied).
-/
import Derived.Test.YtincaodpjdeoeaaGreatDoorRows
import Derived.Test.YtincaodpjdeoeaaGreatDoorCards
import Derived.Test.YtincaodpjdeoeaaGreatDoorTie
import Derived.WalkKit
import Derived.ProofKit
import Derived.OpenShut
import Derived.ShutString
import Derived.ChangeOld
import Derived.Below
import Derived.LaidMore
import Derived.Lay
import Derived.LaidHandle
import Derived.SevenTiedAt
import Derived.Stop.Joined
import Derived.Test.YtincaodpjdeoeaaGreatDoorJ1
import Derived.Test.YtincaodpjdeoeaaGreatDoorQFnsB

namespace Go.Proofs.YtincaodpjdeoeaaGreatDoor.fnSessions
open Go.ChangeShapes Go.WideShapes Go.ChangeAt Go.RowKit
set_option linter.unusedVariables false
set_option linter.all false

theorem proved : Rows.FnSessionsCardSaid :=
  Claim7.holds_tied_plain_at .later [] [.data, .pinned] true (true, "c52c5074c0e038466e9fb772bed0902c84fe8298249f8ac89cadf3174081d57e") false
    over (fun _ h => by cases h) (by kernel_rfl) (fun _ h => by cases h) fnSessions_row_tie rfl ⟨rfl, rfl⟩ (by kernel_rfl) rfl
    (fun f fn hf hfn => by
      obtain rfl : f = 3 := Option.some.inj ((show Tryz.prog.funcNamed "loop.example/g03113/laws.FnSessions" = some 3 by kernel_rfl).symm.trans hf) |>.symm
      obtain rfl : fn = Tryz.f3 := (Option.some.inj (Tryz.func3.symm.trans hfn)).symm
      exact ⟨by kernel_rfl, fun j t ht => by
        rw [Tryz.params3] at ht
        have hm : t ∈ [22] := by simpa using Array.mem_of_getElem? ht
        have hall : ([22].all fun u => !Tryz.prog.wantsStandIn u) = true := by kernel_rfl
        exact (show Tryz.prog.wantsStandIn t = false by simpa using List.all_eq_true.1 hall t hm)⟩)
    (by kernel_rfl)
end Go.Proofs.YtincaodpjdeoeaaGreatDoor.fnSessions
