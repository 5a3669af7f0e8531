/-
  No cell of these rows narrows 'for every input' (looked for: loops, veiled, ifaces, maps, wideKeys, modest, calm, conditions, laid).
  DERIVED. THE GIVEN ROWS OF THIS SEAT. 4 by the template 'for every input the law returns true; each argument reads behind the call as it read before'; 0 by the template 'total and deterministic' (their statements: YtoodgbflaaabmaaTotals.lean).
  GIVEN WITH THE SEED: the statements are not yours to turn. If you find one false, say at which input.
  Laid BY PROGRAM, IN A SANDBOX (cutbox-rows.mjs): the forced cells as the released guide's own fill.sh prints them over the translation f95292e06aaf2994… (all of the seat's roots in one cut). By AI agents, Wed Nov 11 2026. No macro, syntax, notation, axiom, sorry.
-/
import Derived.Test.YtoodgbflaaabmaaChecked
import GoSem.Claim
import GoSem.ClaimJoined
import GoSem.ClaimMapViews
import Derived.JoinedTies
import Derived.KernelRfl
namespace Go.Proofs.Ytoodgbflaaabmaa
/- THE CELL 'sum', in the pinned program and in every row, IS THE sha256 OF THE DUMP (.gsa) THAT YtoodgbflaaabmaaProg.lean LOADS. Nothing in Lean hashes anything: it is a label: what it is worth is what the hold of that sum in a sandbox is worth. -/
noncomputable def Try.pinned : Pinned := { name := "ytoodgbflaaabmaa", sum := "f95292e06aaf29940456a62b772508ce7d5f23b8cdde668312532a65aba2d9b5", checked := Try.checked }
namespace Rows
def none {H : Type} : Left H := { results := [], args := [] }

/-- 'laws.FnFlagsCounted': WHATEVER THE INPUT: true; the input reads as it did. -/
def fnFlagsCountedSpec : ChangeSpec := { name := "fnFlagsCounted", fn := fun _ => fun
  | [d] => { results := [.lit (.bool true)], args := [d] }
  | _ => none }
def fnFlagsCountedRow : OpenClaim := { program := "ytoodgbflaaabmaa", sum := "f95292e06aaf29940456a62b772508ce7d5f23b8cdde668312532a65aba2d9b5", func := "loop.example/g03113/laws.FnFlagsCounted", spec := "fnFlagsCounted", unfollowed := true, recurses := true, apart := false }
def FnFlagsCountedSaid : Prop := fnFlagsCountedRow.holds Try.pinned (OpenSpec.ofChange fnFlagsCountedSpec)

/-- ITS FALSE NEIGHBOUR: 'it returns false'. Refute it at one input. -/
def fnFlagsCountedWrong : ChangeSpec := { name := "fnFlagsCounted", fn := fun _ => fun
  | [d] => { results := [.lit (.bool false)], args := [d] }
  | _ => none }
def FnFlagsCountedWrongFalsely : Prop := fnFlagsCountedRow.holds Try.pinned (OpenSpec.ofChange fnFlagsCountedWrong)

/-- 'laws.FnSpacesCounted': WHATEVER THE INPUT: true; the input reads as it did. -/
def fnSpacesCountedSpec : ChangeSpec := { name := "fnSpacesCounted", fn := fun _ => fun
  | [d] => { results := [.lit (.bool true)], args := [d] }
  | _ => none }
def fnSpacesCountedRow : OpenClaim := { program := "ytoodgbflaaabmaa", sum := "f95292e06aaf29940456a62b772508ce7d5f23b8cdde668312532a65aba2d9b5", func := "loop.example/g03113/laws.FnSpacesCounted", spec := "fnSpacesCounted", unfollowed := true, recurses := true, apart := false }
def FnSpacesCountedSaid : Prop := fnSpacesCountedRow.holds Try.pinned (OpenSpec.ofChange fnSpacesCountedSpec)

/-- ITS FALSE NEIGHBOUR: 'it returns false'. Refute it at one input. -/
def fnSpacesCountedWrong : ChangeSpec := { name := "fnSpacesCounted", fn := fun _ => fun
  | [d] => { results := [.lit (.bool false)], args := [d] }
  | _ => none }
def FnSpacesCountedWrongFalsely : Prop := fnSpacesCountedRow.holds Try.pinned (OpenSpec.ofChange fnSpacesCountedWrong)

/-- 'laws.FnConditions': WHATEVER THE INPUT: true; the input reads as it did. -/
def fnConditionsSpec : ChangeSpec := { name := "fnConditions", fn := fun _ => fun
  | [d] => { results := [.lit (.bool true)], args := [d] }
  | _ => none }
def fnConditionsRow : OpenClaim := { program := "ytoodgbflaaabmaa", sum := "f95292e06aaf29940456a62b772508ce7d5f23b8cdde668312532a65aba2d9b5", func := "loop.example/g03113/laws.FnConditions", spec := "fnConditions", unfollowed := true, recurses := true, apart := false }
def FnConditionsSaid : Prop := fnConditionsRow.holds Try.pinned (OpenSpec.ofChange fnConditionsSpec)

/-- ITS FALSE NEIGHBOUR: 'it returns false'. Refute it at one input. -/
def fnConditionsWrong : ChangeSpec := { name := "fnConditions", fn := fun _ => fun
  | [d] => { results := [.lit (.bool false)], args := [d] }
  | _ => none }
def FnConditionsWrongFalsely : Prop := fnConditionsRow.holds Try.pinned (OpenSpec.ofChange fnConditionsWrong)

/-- 'laws.FnConditionsCounted': WHATEVER THE INPUT: true; the input reads as it did. -/
def fnConditionsCountedSpec : ChangeSpec := { name := "fnConditionsCounted", fn := fun _ => fun
  | [d] => { results := [.lit (.bool true)], args := [d] }
  | _ => none }
def fnConditionsCountedRow : OpenClaim := { program := "ytoodgbflaaabmaa", sum := "f95292e06aaf29940456a62b772508ce7d5f23b8cdde668312532a65aba2d9b5", func := "loop.example/g03113/laws.FnConditionsCounted", spec := "fnConditionsCounted", unfollowed := true, recurses := true, apart := false }
def FnConditionsCountedSaid : Prop := fnConditionsCountedRow.holds Try.pinned (OpenSpec.ofChange fnConditionsCountedSpec)

/-- ITS FALSE NEIGHBOUR: 'it returns false'. Refute it at one input. -/
def fnConditionsCountedWrong : ChangeSpec := { name := "fnConditionsCounted", fn := fun _ => fun
  | [d] => { results := [.lit (.bool false)], args := [d] }
  | _ => none }
def FnConditionsCountedWrongFalsely : Prop := fnConditionsCountedRow.holds Try.pinned (OpenSpec.ofChange fnConditionsCountedWrong)

/- THE SECOND FORM. 'bulk': how many values and letters a reading holds, each counted each time it is reached (what is shared counts as often as it is met; a slice's spare places count too). A statement '..UptoSaid' is the law's where the arguments, and the package variables that the reading takes, are together of bulk at most 1048576: NARROWER than '..Said'. Prove '..Said' where nothing that the law and all that it calls make is longer than what came in: it says more and counts as full. Else prove '..UptoSaid'. A law counts once. -/
mutual
def uptoBulk {H : Type} : DataW H → Nat
  | .lit (.string bytes) => bytes.length + 1
  | .lit _ => 1
  | .nil => 1
  | .ptr d => uptoBulk d + 1
  | .slice elems spare => uptoBulkAll elems + uptoBulkAll spare + 1
  | .agg parts => uptoBulkAll parts + 1
  | .iface _ d => uptoBulk d + 1
  | .map entries => uptoBulkEntries entries + 1
  | .held _ => 1
def uptoBulkAll {H : Type} : List (DataW H) → Nat
  | [] => 0
  | d :: r => uptoBulk d + uptoBulkAll r
def uptoBulkEntries {H : Type} : List (Lit × DataW H) → Nat
  | [] => 0
  | x :: r => uptoBulkEntry x + uptoBulkEntries r
def uptoBulkEntry {H : Type} : Lit × DataW H → Nat
  | (.string bytes, d) => bytes.length + uptoBulk d + 1
  | (_, d) => uptoBulk d + 1
 end
def uptoSmall : (H : Type) → List (DataW H) → Bool := fun _ ds => decide (uptoBulkAll ds ≤ 1048576)
def OpenSpec.upto (s : _root_.Go.ChangeSpec) : _root_.Go.OpenSpec := { _root_.Go.OpenSpec.ofChange s with cond := some uptoSmall }

/-- 'laws.FnFlagsCounted', WHERE WHAT IT READS IS OF BULK AT MOST 1048576: true; the input reads as it did. -/
def fnFlagsCountedUptoRow : OpenClaim := { program := "ytoodgbflaaabmaa", sum := "f95292e06aaf29940456a62b772508ce7d5f23b8cdde668312532a65aba2d9b5", func := "loop.example/g03113/laws.FnFlagsCounted", spec := "fnFlagsCounted", unfollowed := true, recurses := true, apart := false, narrowed := true }
def FnFlagsCountedUptoSaid : Prop := fnFlagsCountedUptoRow.holds Try.pinned (OpenSpec.upto fnFlagsCountedSpec)

/-- 'laws.FnSpacesCounted', WHERE WHAT IT READS IS OF BULK AT MOST 1048576: true; the input reads as it did. -/
def fnSpacesCountedUptoRow : OpenClaim := { program := "ytoodgbflaaabmaa", sum := "f95292e06aaf29940456a62b772508ce7d5f23b8cdde668312532a65aba2d9b5", func := "loop.example/g03113/laws.FnSpacesCounted", spec := "fnSpacesCounted", unfollowed := true, recurses := true, apart := false, narrowed := true }
def FnSpacesCountedUptoSaid : Prop := fnSpacesCountedUptoRow.holds Try.pinned (OpenSpec.upto fnSpacesCountedSpec)

/-- 'laws.FnConditions', WHERE WHAT IT READS IS OF BULK AT MOST 1048576: true; the input reads as it did. -/
def fnConditionsUptoRow : OpenClaim := { program := "ytoodgbflaaabmaa", sum := "f95292e06aaf29940456a62b772508ce7d5f23b8cdde668312532a65aba2d9b5", func := "loop.example/g03113/laws.FnConditions", spec := "fnConditions", unfollowed := true, recurses := true, apart := false, narrowed := true }
def FnConditionsUptoSaid : Prop := fnConditionsUptoRow.holds Try.pinned (OpenSpec.upto fnConditionsSpec)

/-- 'laws.FnConditionsCounted', WHERE WHAT IT READS IS OF BULK AT MOST 1048576: true; the input reads as it did. -/
def fnConditionsCountedUptoRow : OpenClaim := { program := "ytoodgbflaaabmaa", sum := "f95292e06aaf29940456a62b772508ce7d5f23b8cdde668312532a65aba2d9b5", func := "loop.example/g03113/laws.FnConditionsCounted", spec := "fnConditionsCounted", unfollowed := true, recurses := true, apart := false, narrowed := true }
def FnConditionsCountedUptoSaid : Prop := fnConditionsCountedUptoRow.holds Try.pinned (OpenSpec.upto fnConditionsCountedSpec)

end Rows
end Go.Proofs.Ytoodgbflaaabmaa
