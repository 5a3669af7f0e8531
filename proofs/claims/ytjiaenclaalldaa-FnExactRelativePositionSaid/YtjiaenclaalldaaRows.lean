/-
  No cell of these rows narrows 'for every input' (looked for: loops, veiled, ifaces, maps, wideKeys, modest, calm, conditions, laid).
  DERIVED. THE GIVEN ROWS OF THIS SEAT. 4 by the template 'for every input the law returns true; each argument reads behind the call as it read before'; 0 by the template 'total and deterministic' (their statements: YtjiaenclaalldaaTotals.lean).
  GIVEN WITH THE SEED: the statements are not yours to turn. If you find one false, say at which input.
  Laid BY PROGRAM, IN A SANDBOX (cutbox-rows.mjs): the forced cells as the released guide's own fill.sh prints them over the translation b4f3775dc2191d8e… (all of the seat's roots in one cut). By AI agents, Wed Nov 11 2026. No macro, syntax, notation, axiom, sorry.
-/
import Derived.Test.YtjiaenclaalldaaChecked
import GoSem.Claim
import GoSem.ClaimJoined
import GoSem.ClaimMapViews
import Derived.JoinedTies
import Derived.KernelRfl
namespace Go.Proofs.Ytjiaenclaalldaa
/- THE CELL 'sum', in the pinned program and in every row, IS THE sha256 OF THE DUMP (.gsa) THAT YtjiaenclaalldaaProg.lean LOADS. Nothing in Lean hashes anything: it is a label: what it is worth is what the hold of that sum in a sandbox is worth. -/
noncomputable def Try.pinned : Pinned := { name := "ytjiaenclaalldaa", sum := "b4f3775dc2191d8efc57225a323339d61070bb4198b6178f55762955e4bd8ff2", checked := Try.checked }
namespace Rows
def none {H : Type} : Left H := { results := [], args := [] }

/-- 'laws.FnExactKeepsRanks': WHATEVER THE INPUT: true; the input reads as it did. -/
def fnExactKeepsRanksSpec : ChangeSpec := { name := "fnExactKeepsRanks", fn := fun _ => fun
  | [d1, d2] => { results := [.lit (.bool true)], args := [d1, d2] }
  | _ => none }
def fnExactKeepsRanksRow : OpenClaim := { program := "ytjiaenclaalldaa", sum := "b4f3775dc2191d8efc57225a323339d61070bb4198b6178f55762955e4bd8ff2", func := "loop.example/g03113/laws.FnExactKeepsRanks", spec := "fnExactKeepsRanks", unfollowed := true, recurses := true, apart := false }
def FnExactKeepsRanksSaid : Prop := fnExactKeepsRanksRow.holds Try.pinned (OpenSpec.ofChange fnExactKeepsRanksSpec)

/-- ITS FALSE NEIGHBOUR: 'it returns false'. Refute it at one input. -/
def fnExactKeepsRanksWrong : ChangeSpec := { name := "fnExactKeepsRanks", fn := fun _ => fun
  | [d1, d2] => { results := [.lit (.bool false)], args := [d1, d2] }
  | _ => none }
def FnExactKeepsRanksWrongFalsely : Prop := fnExactKeepsRanksRow.holds Try.pinned (OpenSpec.ofChange fnExactKeepsRanksWrong)

/-- 'laws.FnExactSumSpaces': WHATEVER THE INPUT: true; the input reads as it did. -/
def fnExactSumSpacesSpec : ChangeSpec := { name := "fnExactSumSpaces", fn := fun _ => fun
  | [d1, d2] => { results := [.lit (.bool true)], args := [d1, d2] }
  | _ => none }
def fnExactSumSpacesRow : OpenClaim := { program := "ytjiaenclaalldaa", sum := "b4f3775dc2191d8efc57225a323339d61070bb4198b6178f55762955e4bd8ff2", func := "loop.example/g03113/laws.FnExactSumSpaces", spec := "fnExactSumSpaces", unfollowed := true, recurses := true, apart := false }
def FnExactSumSpacesSaid : Prop := fnExactSumSpacesRow.holds Try.pinned (OpenSpec.ofChange fnExactSumSpacesSpec)

/-- ITS FALSE NEIGHBOUR: 'it returns false'. Refute it at one input. -/
def fnExactSumSpacesWrong : ChangeSpec := { name := "fnExactSumSpaces", fn := fun _ => fun
  | [d1, d2] => { results := [.lit (.bool false)], args := [d1, d2] }
  | _ => none }
def FnExactSumSpacesWrongFalsely : Prop := fnExactSumSpacesRow.holds Try.pinned (OpenSpec.ofChange fnExactSumSpacesWrong)

/-- 'laws.FnExactRelativePosition': WHATEVER THE INPUT: true; the input reads as it did. -/
def fnExactRelativePositionSpec : ChangeSpec := { name := "fnExactRelativePosition", fn := fun _ => fun
  | [d1, d2] => { results := [.lit (.bool true)], args := [d1, d2] }
  | _ => none }
def fnExactRelativePositionRow : OpenClaim := { program := "ytjiaenclaalldaa", sum := "b4f3775dc2191d8efc57225a323339d61070bb4198b6178f55762955e4bd8ff2", func := "loop.example/g03113/laws.FnExactRelativePosition", spec := "fnExactRelativePosition", unfollowed := true, recurses := true, apart := false }
def FnExactRelativePositionSaid : Prop := fnExactRelativePositionRow.holds Try.pinned (OpenSpec.ofChange fnExactRelativePositionSpec)

/-- ITS FALSE NEIGHBOUR: 'it returns false'. Refute it at one input. -/
def fnExactRelativePositionWrong : ChangeSpec := { name := "fnExactRelativePosition", fn := fun _ => fun
  | [d1, d2] => { results := [.lit (.bool false)], args := [d1, d2] }
  | _ => none }
def FnExactRelativePositionWrongFalsely : Prop := fnExactRelativePositionRow.holds Try.pinned (OpenSpec.ofChange fnExactRelativePositionWrong)

/-- 'laws.FnExactPositionOf': WHATEVER THE INPUT: true; the input reads as it did. -/
def fnExactPositionOfSpec : ChangeSpec := { name := "fnExactPositionOf", fn := fun _ => fun
  | [d1, d2] => { results := [.lit (.bool true)], args := [d1, d2] }
  | _ => none }
def fnExactPositionOfRow : OpenClaim := { program := "ytjiaenclaalldaa", sum := "b4f3775dc2191d8efc57225a323339d61070bb4198b6178f55762955e4bd8ff2", func := "loop.example/g03113/laws.FnExactPositionOf", spec := "fnExactPositionOf", unfollowed := true, recurses := true, apart := false }
def FnExactPositionOfSaid : Prop := fnExactPositionOfRow.holds Try.pinned (OpenSpec.ofChange fnExactPositionOfSpec)

/-- ITS FALSE NEIGHBOUR: 'it returns false'. Refute it at one input. -/
def fnExactPositionOfWrong : ChangeSpec := { name := "fnExactPositionOf", fn := fun _ => fun
  | [d1, d2] => { results := [.lit (.bool false)], args := [d1, d2] }
  | _ => none }
def FnExactPositionOfWrongFalsely : Prop := fnExactPositionOfRow.holds Try.pinned (OpenSpec.ofChange fnExactPositionOfWrong)

/- THE SECOND FORM. 'bulk': how many values and letters a reading holds, each counted each time it is reached (what is shared counts as often as it is met; a slice's spare places count too). A statement '..UptoSaid' is the law's where the arguments, and the package variables that the reading takes, are together of bulk at most 1048576: NARROWER than '..Said'. Prove '..Said' where nothing that the law and all that it calls make is longer than what came in: it says more and counts as full. Else prove '..UptoSaid'. A law counts once. -/
mutual
def uptoBulk {H : Type} : DataW H → Nat
  | .lit (.string bytes) => bytes.length + 1
  | .lit _ => 1
  | .nil => 1
  | .ptr d => uptoBulk d + 1
  | .slice elems spare => uptoBulkAll elems + uptoBulkAll spare + 1
  | .agg parts => uptoBulkAll parts + 1
  | .iface _ d => uptoBulk d + 1
  | .map entries => uptoBulkEntries entries + 1
  | .held _ => 1
def uptoBulkAll {H : Type} : List (DataW H) → Nat
  | [] => 0
  | d :: r => uptoBulk d + uptoBulkAll r
def uptoBulkEntries {H : Type} : List (Lit × DataW H) → Nat
  | [] => 0
  | x :: r => uptoBulkEntry x + uptoBulkEntries r
def uptoBulkEntry {H : Type} : Lit × DataW H → Nat
  | (.string bytes, d) => bytes.length + uptoBulk d + 1
  | (_, d) => uptoBulk d + 1
 end
def uptoSmall : (H : Type) → List (DataW H) → Bool := fun _ ds => decide (uptoBulkAll ds ≤ 1048576)
def OpenSpec.upto (s : _root_.Go.ChangeSpec) : _root_.Go.OpenSpec := { _root_.Go.OpenSpec.ofChange s with cond := some uptoSmall }

/-- 'laws.FnExactKeepsRanks', WHERE WHAT IT READS IS OF BULK AT MOST 1048576: true; the input reads as it did. -/
def fnExactKeepsRanksUptoRow : OpenClaim := { program := "ytjiaenclaalldaa", sum := "b4f3775dc2191d8efc57225a323339d61070bb4198b6178f55762955e4bd8ff2", func := "loop.example/g03113/laws.FnExactKeepsRanks", spec := "fnExactKeepsRanks", unfollowed := true, recurses := true, apart := false, narrowed := true }
def FnExactKeepsRanksUptoSaid : Prop := fnExactKeepsRanksUptoRow.holds Try.pinned (OpenSpec.upto fnExactKeepsRanksSpec)

/-- 'laws.FnExactSumSpaces', WHERE WHAT IT READS IS OF BULK AT MOST 1048576: true; the input reads as it did. -/
def fnExactSumSpacesUptoRow : OpenClaim := { program := "ytjiaenclaalldaa", sum := "b4f3775dc2191d8efc57225a323339d61070bb4198b6178f55762955e4bd8ff2", func := "loop.example/g03113/laws.FnExactSumSpaces", spec := "fnExactSumSpaces", unfollowed := true, recurses := true, apart := false, narrowed := true }
def FnExactSumSpacesUptoSaid : Prop := fnExactSumSpacesUptoRow.holds Try.pinned (OpenSpec.upto fnExactSumSpacesSpec)

/-- 'laws.FnExactRelativePosition', WHERE WHAT IT READS IS OF BULK AT MOST 1048576: true; the input reads as it did. -/
def fnExactRelativePositionUptoRow : OpenClaim := { program := "ytjiaenclaalldaa", sum := "b4f3775dc2191d8efc57225a323339d61070bb4198b6178f55762955e4bd8ff2", func := "loop.example/g03113/laws.FnExactRelativePosition", spec := "fnExactRelativePosition", unfollowed := true, recurses := true, apart := false, narrowed := true }
def FnExactRelativePositionUptoSaid : Prop := fnExactRelativePositionUptoRow.holds Try.pinned (OpenSpec.upto fnExactRelativePositionSpec)

/-- 'laws.FnExactPositionOf', WHERE WHAT IT READS IS OF BULK AT MOST 1048576: true; the input reads as it did. -/
def fnExactPositionOfUptoRow : OpenClaim := { program := "ytjiaenclaalldaa", sum := "b4f3775dc2191d8efc57225a323339d61070bb4198b6178f55762955e4bd8ff2", func := "loop.example/g03113/laws.FnExactPositionOf", spec := "fnExactPositionOf", unfollowed := true, recurses := true, apart := false, narrowed := true }
def FnExactPositionOfUptoSaid : Prop := fnExactPositionOfUptoRow.holds Try.pinned (OpenSpec.upto fnExactPositionOfSpec)

end Rows
end Go.Proofs.Ytjiaenclaalldaa
