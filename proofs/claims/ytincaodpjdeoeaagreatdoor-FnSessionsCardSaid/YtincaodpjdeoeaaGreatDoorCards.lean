/-
  DERIVED. GIVEN WITH THE SEED: THE CARDS: each row of YtincaodpjdeoeaaGreatDoorRows.lean that lists a variable, with what it lists TIED to the program's text (the seventh form; the later family's looks); each row that meets fmt, with fmt's text TOLD by the authors' own Lean function (tested against real Go, not proved from fmt's source: count such statements apart). THE CARD IS WHAT COUNTS. Prove the row's statement (the work); the ties are given (YtincaodpjdeoeaaGreatDoorTie.lean); close each card by the builder's one call (the guide's Derived/Test/ToyasCard.lean, 'card_holds'). Laid BY PROGRAM, IN A SANDBOX (cutbox-door.mjs). By AI agents, Wed Nov 11 2026. No macro, syntax, notation, axiom, sorry.
-/
import Derived.Test.YtincaodpjdeoeaaGreatDoorRows
import GoSem.ClaimSeven
namespace Go.Proofs.YtincaodpjdeoeaaGreatDoor
namespace Rows

/-- THE TIED CARD OF 'laws.FnSessions'. -/
def fnSessionsCard : Claim7 := { stood := { row := fnSessionsRow, standIns := [], harness := (true, "c52c5074c0e038466e9fb772bed0902c84fe8298249f8ac89cadf3174081d57e"), looks := false }, kinds := [], alts := [], laidByText := true, laidKinds := [.data, .pinned], laidTests := true, laidLooks := .later }
def FnSessionsCardSaid : Prop := Claim7.holds Tryz.pinned (.plain (OpenSpec.ofChange fnSessionsSpec)) fnSessionsCard

/-- THE SECOND FORM's CARD OF 'laws.FnSessions'. -/
def fnSessionsUptoCard : Claim7 := { stood := { row := fnSessionsUptoRow, standIns := [], harness := (true, "c52c5074c0e038466e9fb772bed0902c84fe8298249f8ac89cadf3174081d57e"), looks := false }, kinds := [], alts := [], laidByText := true, laidKinds := [.data, .pinned], laidTests := true, laidLooks := .later }
def FnSessionsUptoCardSaid : Prop := Claim7.holds Tryz.pinned (.plain (OpenSpec.upto fnSessionsSpec)) fnSessionsUptoCard
end Rows
end Go.Proofs.YtincaodpjdeoeaaGreatDoor
