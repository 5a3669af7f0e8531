/-
  No cell of these rows narrows 'for every input' (looked for: loops, veiled, ifaces, maps, wideKeys, modest, calm, conditions, laid).
  DERIVED. THE GIVEN ROWS OF THIS SEAT. 3 by the template 'for every input the law returns true; each argument reads behind the call as it read before'; 0 by the template 'total and deterministic' (their statements: YtfpjenmehoemcaaTotals.lean).
  GIVEN WITH THE SEED: the statements are not yours to turn. If you find one false, say at which input.
  Laid BY PROGRAM, IN A SANDBOX (cutbox-rows.mjs): the forced cells as the released guide's own fill.sh prints them over the translation 4b13bf11c7817214… (all of the seat's roots in one cut). By AI agents, Wed Nov 11 2026. No macro, syntax, notation, axiom, sorry.
-/
import Derived.Test.YtfpjenmehoemcaaChecked
import GoSem.Claim
import GoSem.ClaimJoined
import GoSem.ClaimMapViews
import Derived.JoinedTies
import Derived.KernelRfl
namespace Go.Proofs.Ytfpjenmehoemcaa
/- THE CELL 'sum', in the pinned program and in every row, IS THE sha256 OF THE DUMP (.gsa) THAT YtfpjenmehoemcaaProg.lean LOADS. Nothing in Lean hashes anything: it is a label: what it is worth is what the hold of that sum in a sandbox is worth. -/
noncomputable def Try.pinned : Pinned := { name := "ytfpjenmehoemcaa", sum := "4b13bf11c78172142abb3bd8543d0799fcc5afe030998bcd2835cc2f085ee10a", checked := Try.checked }
namespace Rows
def none {H : Type} : Left H := { results := [], args := [] }

/-- 'laws.FnExactLocalize': WHATEVER THE INPUT: true; the input reads as it did. -/
def fnExactLocalizeSpec : ChangeSpec := { name := "fnExactLocalize", fn := fun _ => fun
  | [d1, d2, d3] => { results := [.lit (.bool true)], args := [d1, d2, d3] }
  | _ => none }
def fnExactLocalizeRow : OpenClaim := { program := "ytfpjenmehoemcaa", sum := "4b13bf11c78172142abb3bd8543d0799fcc5afe030998bcd2835cc2f085ee10a", func := "loop.example/g03113/laws.FnExactLocalize", spec := "fnExactLocalize", unfollowed := true, recurses := true, plainKeys := false, apart := false }
def FnExactLocalizeSaid : Prop := fnExactLocalizeRow.holds Try.pinned (OpenSpec.ofChange fnExactLocalizeSpec)

/-- ITS FALSE NEIGHBOUR: 'it returns false'. Refute it at one input. -/
def fnExactLocalizeWrong : ChangeSpec := { name := "fnExactLocalize", fn := fun _ => fun
  | [d1, d2, d3] => { results := [.lit (.bool false)], args := [d1, d2, d3] }
  | _ => none }
def FnExactLocalizeWrongFalsely : Prop := fnExactLocalizeRow.holds Try.pinned (OpenSpec.ofChange fnExactLocalizeWrong)

/-- 'laws.FnExactLocalTable': WHATEVER THE INPUT: true; the input reads as it did. -/
def fnExactLocalTableSpec : ChangeSpec := { name := "fnExactLocalTable", fn := fun _ => fun
  | [d1, d2] => { results := [.lit (.bool true)], args := [d1, d2] }
  | _ => none }
def fnExactLocalTableRow : OpenClaim := { program := "ytfpjenmehoemcaa", sum := "4b13bf11c78172142abb3bd8543d0799fcc5afe030998bcd2835cc2f085ee10a", func := "loop.example/g03113/laws.FnExactLocalTable", spec := "fnExactLocalTable", unfollowed := true, recurses := true, plainKeys := false, apart := false }
def FnExactLocalTableSaid : Prop := fnExactLocalTableRow.holds Try.pinned (OpenSpec.ofChange fnExactLocalTableSpec)

/-- ITS FALSE NEIGHBOUR: 'it returns false'. Refute it at one input. -/
def fnExactLocalTableWrong : ChangeSpec := { name := "fnExactLocalTable", fn := fun _ => fun
  | [d1, d2] => { results := [.lit (.bool false)], args := [d1, d2] }
  | _ => none }
def FnExactLocalTableWrongFalsely : Prop := fnExactLocalTableRow.holds Try.pinned (OpenSpec.ofChange fnExactLocalTableWrong)

/-- 'laws.FnSupport': WHATEVER THE INPUT: true; the input reads as it did. -/
def fnSupportSpec : ChangeSpec := { name := "fnSupport", fn := fun _ => fun
  | [d] => { results := [.lit (.bool true)], args := [d] }
  | _ => none }
def fnSupportRow : OpenClaim := { program := "ytfpjenmehoemcaa", sum := "4b13bf11c78172142abb3bd8543d0799fcc5afe030998bcd2835cc2f085ee10a", func := "loop.example/g03113/laws.FnSupport", spec := "fnSupport", unfollowed := true, recurses := true, plainKeys := false, apart := false }
def FnSupportSaid : Prop := fnSupportRow.holds Try.pinned (OpenSpec.ofChange fnSupportSpec)

/-- ITS FALSE NEIGHBOUR: 'it returns false'. Refute it at one input. -/
def fnSupportWrong : ChangeSpec := { name := "fnSupport", fn := fun _ => fun
  | [d] => { results := [.lit (.bool false)], args := [d] }
  | _ => none }
def FnSupportWrongFalsely : Prop := fnSupportRow.holds Try.pinned (OpenSpec.ofChange fnSupportWrong)

/- THE SECOND FORM. 'bulk': how many values and letters a reading holds, each counted each time it is reached (what is shared counts as often as it is met; a slice's spare places count too). A statement '..UptoSaid' is the law's where the arguments, and the package variables that the reading takes, are together of bulk at most 1048576: NARROWER than '..Said'. Prove '..Said' where nothing that the law and all that it calls make is longer than what came in: it says more and counts as full. Else prove '..UptoSaid'. A law counts once. -/
mutual
def uptoBulk {H : Type} : DataW H → Nat
  | .lit (.string bytes) => bytes.length + 1
  | .lit _ => 1
  | .nil => 1
  | .ptr d => uptoBulk d + 1
  | .slice elems spare => uptoBulkAll elems + uptoBulkAll spare + 1
  | .agg parts => uptoBulkAll parts + 1
  | .iface _ d => uptoBulk d + 1
  | .map entries => uptoBulkEntries entries + 1
  | .held _ => 1
def uptoBulkAll {H : Type} : List (DataW H) → Nat
  | [] => 0
  | d :: r => uptoBulk d + uptoBulkAll r
def uptoBulkEntries {H : Type} : List (Lit × DataW H) → Nat
  | [] => 0
  | x :: r => uptoBulkEntry x + uptoBulkEntries r
def uptoBulkEntry {H : Type} : Lit × DataW H → Nat
  | (.string bytes, d) => bytes.length + uptoBulk d + 1
  | (_, d) => uptoBulk d + 1
 end
def uptoSmall : (H : Type) → List (DataW H) → Bool := fun _ ds => decide (uptoBulkAll ds ≤ 1048576)
def OpenSpec.upto (s : _root_.Go.ChangeSpec) : _root_.Go.OpenSpec := { _root_.Go.OpenSpec.ofChange s with cond := some uptoSmall }

/-- 'laws.FnExactLocalize', WHERE WHAT IT READS IS OF BULK AT MOST 1048576: true; the input reads as it did. -/
def fnExactLocalizeUptoRow : OpenClaim := { program := "ytfpjenmehoemcaa", sum := "4b13bf11c78172142abb3bd8543d0799fcc5afe030998bcd2835cc2f085ee10a", func := "loop.example/g03113/laws.FnExactLocalize", spec := "fnExactLocalize", unfollowed := true, recurses := true, plainKeys := false, apart := false, narrowed := true }
def FnExactLocalizeUptoSaid : Prop := fnExactLocalizeUptoRow.holds Try.pinned (OpenSpec.upto fnExactLocalizeSpec)

/-- 'laws.FnExactLocalTable', WHERE WHAT IT READS IS OF BULK AT MOST 1048576: true; the input reads as it did. -/
def fnExactLocalTableUptoRow : OpenClaim := { program := "ytfpjenmehoemcaa", sum := "4b13bf11c78172142abb3bd8543d0799fcc5afe030998bcd2835cc2f085ee10a", func := "loop.example/g03113/laws.FnExactLocalTable", spec := "fnExactLocalTable", unfollowed := true, recurses := true, plainKeys := false, apart := false, narrowed := true }
def FnExactLocalTableUptoSaid : Prop := fnExactLocalTableUptoRow.holds Try.pinned (OpenSpec.upto fnExactLocalTableSpec)

/-- 'laws.FnSupport', WHERE WHAT IT READS IS OF BULK AT MOST 1048576: true; the input reads as it did. -/
def fnSupportUptoRow : OpenClaim := { program := "ytfpjenmehoemcaa", sum := "4b13bf11c78172142abb3bd8543d0799fcc5afe030998bcd2835cc2f085ee10a", func := "loop.example/g03113/laws.FnSupport", spec := "fnSupport", unfollowed := true, recurses := true, plainKeys := false, apart := false, narrowed := true }
def FnSupportUptoSaid : Prop := fnSupportUptoRow.holds Try.pinned (OpenSpec.upto fnSupportSpec)

end Rows
end Go.Proofs.Ytfpjenmehoemcaa
