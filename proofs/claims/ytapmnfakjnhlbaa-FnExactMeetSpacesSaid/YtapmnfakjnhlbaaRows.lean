/-
  No cell of these rows narrows 'for every input' (looked for: loops, veiled, ifaces, maps, wideKeys, modest, calm, conditions, laid).
  DERIVED. THE GIVEN ROWS OF THIS SEAT. 4 by the template 'for every input the law returns true; each argument reads behind the call as it read before'; 0 by the template 'total and deterministic' (their statements: YtapmnfakjnhlbaaTotals.lean).
  GIVEN WITH THE SEED: the statements are not yours to turn. If you find one false, say at which input.
  Laid BY PROGRAM, IN A SANDBOX (cutbox-rows.mjs): the forced cells as the released guide's own fill.sh prints them over the translation 1ce1a68560b772ba… (all of the seat's roots in one cut). By AI agents, Wed Nov 11 2026. No macro, syntax, notation, axiom, sorry.
-/
import Derived.Test.YtapmnfakjnhlbaaChecked
import GoSem.Claim
import GoSem.ClaimJoined
import GoSem.ClaimMapViews
import Derived.JoinedTies
import Derived.KernelRfl
namespace Go.Proofs.Ytapmnfakjnhlbaa
/- THE CELL 'sum', in the pinned program and in every row, IS THE sha256 OF THE DUMP (.gsa) THAT YtapmnfakjnhlbaaProg.lean LOADS. Nothing in Lean hashes anything: it is a label: what it is worth is what the hold of that sum in a sandbox is worth. -/
noncomputable def Try.pinned : Pinned := { name := "ytapmnfakjnhlbaa", sum := "1ce1a68560b772ba04a05cfd95c7aa498524493a4fcedf6a7fb83b70135559a4", checked := Try.checked }
namespace Rows
def none {H : Type} : Left H := { results := [], args := [] }

/-- 'laws.FnExactMeetSpaces': WHATEVER THE INPUT: true; the input reads as it did. -/
def fnExactMeetSpacesSpec : ChangeSpec := { name := "fnExactMeetSpaces", fn := fun _ => fun
  | [d1, d2] => { results := [.lit (.bool true)], args := [d1, d2] }
  | _ => none }
def fnExactMeetSpacesRow : OpenClaim := { program := "ytapmnfakjnhlbaa", sum := "1ce1a68560b772ba04a05cfd95c7aa498524493a4fcedf6a7fb83b70135559a4", func := "loop.example/g03113/laws.FnExactMeetSpaces", spec := "fnExactMeetSpaces", unfollowed := true, recurses := true, apart := false }
def FnExactMeetSpacesSaid : Prop := fnExactMeetSpacesRow.holds Try.pinned (OpenSpec.ofChange fnExactMeetSpacesSpec)

/-- ITS FALSE NEIGHBOUR: 'it returns false'. Refute it at one input. -/
def fnExactMeetSpacesWrong : ChangeSpec := { name := "fnExactMeetSpaces", fn := fun _ => fun
  | [d1, d2] => { results := [.lit (.bool false)], args := [d1, d2] }
  | _ => none }
def FnExactMeetSpacesWrongFalsely : Prop := fnExactMeetSpacesRow.holds Try.pinned (OpenSpec.ofChange fnExactMeetSpacesWrong)

/-- 'laws.FnExactNormalFlag': WHATEVER THE INPUT: true; the input reads as it did. -/
def fnExactNormalFlagSpec : ChangeSpec := { name := "fnExactNormalFlag", fn := fun _ => fun
  | [d] => { results := [.lit (.bool true)], args := [d] }
  | _ => none }
def fnExactNormalFlagRow : OpenClaim := { program := "ytapmnfakjnhlbaa", sum := "1ce1a68560b772ba04a05cfd95c7aa498524493a4fcedf6a7fb83b70135559a4", func := "loop.example/g03113/laws.FnExactNormalFlag", spec := "fnExactNormalFlag", unfollowed := true, recurses := true, apart := false }
def FnExactNormalFlagSaid : Prop := fnExactNormalFlagRow.holds Try.pinned (OpenSpec.ofChange fnExactNormalFlagSpec)

/-- ITS FALSE NEIGHBOUR: 'it returns false'. Refute it at one input. -/
def fnExactNormalFlagWrong : ChangeSpec := { name := "fnExactNormalFlag", fn := fun _ => fun
  | [d] => { results := [.lit (.bool false)], args := [d] }
  | _ => none }
def FnExactNormalFlagWrongFalsely : Prop := fnExactNormalFlagRow.holds Try.pinned (OpenSpec.ofChange fnExactNormalFlagWrong)

/-- 'laws.FnExactFlagPerm': WHATEVER THE INPUT: true; the input reads as it did. -/
def fnExactFlagPermSpec : ChangeSpec := { name := "fnExactFlagPerm", fn := fun _ => fun
  | [d] => { results := [.lit (.bool true)], args := [d] }
  | _ => none }
def fnExactFlagPermRow : OpenClaim := { program := "ytapmnfakjnhlbaa", sum := "1ce1a68560b772ba04a05cfd95c7aa498524493a4fcedf6a7fb83b70135559a4", func := "loop.example/g03113/laws.FnExactFlagPerm", spec := "fnExactFlagPerm", unfollowed := true, recurses := true, apart := false }
def FnExactFlagPermSaid : Prop := fnExactFlagPermRow.holds Try.pinned (OpenSpec.ofChange fnExactFlagPermSpec)

/-- ITS FALSE NEIGHBOUR: 'it returns false'. Refute it at one input. -/
def fnExactFlagPermWrong : ChangeSpec := { name := "fnExactFlagPerm", fn := fun _ => fun
  | [d] => { results := [.lit (.bool false)], args := [d] }
  | _ => none }
def FnExactFlagPermWrongFalsely : Prop := fnExactFlagPermRow.holds Try.pinned (OpenSpec.ofChange fnExactFlagPermWrong)

/-- 'laws.FnExactMeetsFlag': WHATEVER THE INPUT: true; the input reads as it did. -/
def fnExactMeetsFlagSpec : ChangeSpec := { name := "fnExactMeetsFlag", fn := fun _ => fun
  | [d1, d2, d3] => { results := [.lit (.bool true)], args := [d1, d2, d3] }
  | _ => none }
def fnExactMeetsFlagRow : OpenClaim := { program := "ytapmnfakjnhlbaa", sum := "1ce1a68560b772ba04a05cfd95c7aa498524493a4fcedf6a7fb83b70135559a4", func := "loop.example/g03113/laws.FnExactMeetsFlag", spec := "fnExactMeetsFlag", unfollowed := true, recurses := true, apart := false }
def FnExactMeetsFlagSaid : Prop := fnExactMeetsFlagRow.holds Try.pinned (OpenSpec.ofChange fnExactMeetsFlagSpec)

/-- ITS FALSE NEIGHBOUR: 'it returns false'. Refute it at one input. -/
def fnExactMeetsFlagWrong : ChangeSpec := { name := "fnExactMeetsFlag", fn := fun _ => fun
  | [d1, d2, d3] => { results := [.lit (.bool false)], args := [d1, d2, d3] }
  | _ => none }
def FnExactMeetsFlagWrongFalsely : Prop := fnExactMeetsFlagRow.holds Try.pinned (OpenSpec.ofChange fnExactMeetsFlagWrong)

/- THE SECOND FORM. 'bulk': how many values and letters a reading holds, each counted each time it is reached (what is shared counts as often as it is met; a slice's spare places count too). A statement '..UptoSaid' is the law's where the arguments, and the package variables that the reading takes, are together of bulk at most 1048576: NARROWER than '..Said'. Prove '..Said' where nothing that the law and all that it calls make is longer than what came in: it says more and counts as full. Else prove '..UptoSaid'. A law counts once. -/
mutual
def uptoBulk {H : Type} : DataW H → Nat
  | .lit (.string bytes) => bytes.length + 1
  | .lit _ => 1
  | .nil => 1
  | .ptr d => uptoBulk d + 1
  | .slice elems spare => uptoBulkAll elems + uptoBulkAll spare + 1
  | .agg parts => uptoBulkAll parts + 1
  | .iface _ d => uptoBulk d + 1
  | .map entries => uptoBulkEntries entries + 1
  | .held _ => 1
def uptoBulkAll {H : Type} : List (DataW H) → Nat
  | [] => 0
  | d :: r => uptoBulk d + uptoBulkAll r
def uptoBulkEntries {H : Type} : List (Lit × DataW H) → Nat
  | [] => 0
  | x :: r => uptoBulkEntry x + uptoBulkEntries r
def uptoBulkEntry {H : Type} : Lit × DataW H → Nat
  | (.string bytes, d) => bytes.length + uptoBulk d + 1
  | (_, d) => uptoBulk d + 1
 end
def uptoSmall : (H : Type) → List (DataW H) → Bool := fun _ ds => decide (uptoBulkAll ds ≤ 1048576)
def OpenSpec.upto (s : _root_.Go.ChangeSpec) : _root_.Go.OpenSpec := { _root_.Go.OpenSpec.ofChange s with cond := some uptoSmall }

/-- 'laws.FnExactMeetSpaces', WHERE WHAT IT READS IS OF BULK AT MOST 1048576: true; the input reads as it did. -/
def fnExactMeetSpacesUptoRow : OpenClaim := { program := "ytapmnfakjnhlbaa", sum := "1ce1a68560b772ba04a05cfd95c7aa498524493a4fcedf6a7fb83b70135559a4", func := "loop.example/g03113/laws.FnExactMeetSpaces", spec := "fnExactMeetSpaces", unfollowed := true, recurses := true, apart := false, narrowed := true }
def FnExactMeetSpacesUptoSaid : Prop := fnExactMeetSpacesUptoRow.holds Try.pinned (OpenSpec.upto fnExactMeetSpacesSpec)

/-- 'laws.FnExactNormalFlag', WHERE WHAT IT READS IS OF BULK AT MOST 1048576: true; the input reads as it did. -/
def fnExactNormalFlagUptoRow : OpenClaim := { program := "ytapmnfakjnhlbaa", sum := "1ce1a68560b772ba04a05cfd95c7aa498524493a4fcedf6a7fb83b70135559a4", func := "loop.example/g03113/laws.FnExactNormalFlag", spec := "fnExactNormalFlag", unfollowed := true, recurses := true, apart := false, narrowed := true }
def FnExactNormalFlagUptoSaid : Prop := fnExactNormalFlagUptoRow.holds Try.pinned (OpenSpec.upto fnExactNormalFlagSpec)

/-- 'laws.FnExactFlagPerm', WHERE WHAT IT READS IS OF BULK AT MOST 1048576: true; the input reads as it did. -/
def fnExactFlagPermUptoRow : OpenClaim := { program := "ytapmnfakjnhlbaa", sum := "1ce1a68560b772ba04a05cfd95c7aa498524493a4fcedf6a7fb83b70135559a4", func := "loop.example/g03113/laws.FnExactFlagPerm", spec := "fnExactFlagPerm", unfollowed := true, recurses := true, apart := false, narrowed := true }
def FnExactFlagPermUptoSaid : Prop := fnExactFlagPermUptoRow.holds Try.pinned (OpenSpec.upto fnExactFlagPermSpec)

/-- 'laws.FnExactMeetsFlag', WHERE WHAT IT READS IS OF BULK AT MOST 1048576: true; the input reads as it did. -/
def fnExactMeetsFlagUptoRow : OpenClaim := { program := "ytapmnfakjnhlbaa", sum := "1ce1a68560b772ba04a05cfd95c7aa498524493a4fcedf6a7fb83b70135559a4", func := "loop.example/g03113/laws.FnExactMeetsFlag", spec := "fnExactMeetsFlag", unfollowed := true, recurses := true, apart := false, narrowed := true }
def FnExactMeetsFlagUptoSaid : Prop := fnExactMeetsFlagUptoRow.holds Try.pinned (OpenSpec.upto fnExactMeetsFlagSpec)

end Rows
end Go.Proofs.Ytapmnfakjnhlbaa
