/-
  No cell of these rows narrows 'for every input' (looked for: loops, veiled, ifaces, maps, wideKeys, modest, calm, conditions, laid).
  DERIVED. THE GIVEN ROWS OF THIS SEAT. 4 by the template 'for every input the law returns true; each argument reads behind the call as it read before'; 0 by the template 'total and deterministic' (their statements: YtejoapielndnnaaTotals.lean).
  GIVEN WITH THE SEED: the statements are not yours to turn. If you find one false, say at which input.
  Laid BY PROGRAM, IN A SANDBOX (cutbox-rows.mjs): the forced cells as the released guide's own fill.sh prints them over the translation 09f39cc163cbd50f… (all of the seat's roots in one cut). By AI agents, Wed Nov 11 2026. No macro, syntax, notation, axiom, sorry.
-/
import Derived.Test.YtejoapielndnnaaChecked
import GoSem.Claim
import GoSem.ClaimJoined
import GoSem.ClaimMapViews
import Derived.JoinedTies
import Derived.KernelRfl
namespace Go.Proofs.Ytejoapielndnnaa
/- THE CELL 'sum', in the pinned program and in every row, IS THE sha256 OF THE DUMP (.gsa) THAT YtejoapielndnnaaProg.lean LOADS. Nothing in Lean hashes anything: it is a label: what it is worth is what the hold of that sum in a sandbox is worth. -/
noncomputable def Try.pinned : Pinned := { name := "ytejoapielndnnaa", sum := "09f39cc163cbd50fe275ee9ceaf7a6eb57c7577b5903736f9544592d169049c5", checked := Try.checked }
namespace Rows
def none {H : Type} : Left H := { results := [], args := [] }

/-- 'laws.FnExactKeepsEssential': WHATEVER THE INPUT: true; the input reads as it did. -/
def fnExactKeepsEssentialSpec : ChangeSpec := { name := "fnExactKeepsEssential", fn := fun _ => fun
  | [d1, d2] => { results := [.lit (.bool true)], args := [d1, d2] }
  | _ => none }
def fnExactKeepsEssentialRow : OpenClaim := { program := "ytejoapielndnnaa", sum := "09f39cc163cbd50fe275ee9ceaf7a6eb57c7577b5903736f9544592d169049c5", func := "loop.example/g03113/laws.FnExactKeepsEssential", spec := "fnExactKeepsEssential", unfollowed := true, recurses := true, apart := false }
def FnExactKeepsEssentialSaid : Prop := fnExactKeepsEssentialRow.holds Try.pinned (OpenSpec.ofChange fnExactKeepsEssentialSpec)

/-- ITS FALSE NEIGHBOUR: 'it returns false'. Refute it at one input. -/
def fnExactKeepsEssentialWrong : ChangeSpec := { name := "fnExactKeepsEssential", fn := fun _ => fun
  | [d1, d2] => { results := [.lit (.bool false)], args := [d1, d2] }
  | _ => none }
def FnExactKeepsEssentialWrongFalsely : Prop := fnExactKeepsEssentialRow.holds Try.pinned (OpenSpec.ofChange fnExactKeepsEssentialWrong)

/-- 'laws.FnExactSpacesWith': WHATEVER THE INPUT: true; the input reads as it did. -/
def fnExactSpacesWithSpec : ChangeSpec := { name := "fnExactSpacesWith", fn := fun _ => fun
  | [d1, d2] => { results := [.lit (.bool true)], args := [d1, d2] }
  | _ => none }
def fnExactSpacesWithRow : OpenClaim := { program := "ytejoapielndnnaa", sum := "09f39cc163cbd50fe275ee9ceaf7a6eb57c7577b5903736f9544592d169049c5", func := "loop.example/g03113/laws.FnExactSpacesWith", spec := "fnExactSpacesWith", apart := false }
def FnExactSpacesWithSaid : Prop := fnExactSpacesWithRow.holds Try.pinned (OpenSpec.ofChange fnExactSpacesWithSpec)

/-- ITS FALSE NEIGHBOUR: 'it returns false'. Refute it at one input. -/
def fnExactSpacesWithWrong : ChangeSpec := { name := "fnExactSpacesWith", fn := fun _ => fun
  | [d1, d2] => { results := [.lit (.bool false)], args := [d1, d2] }
  | _ => none }
def FnExactSpacesWithWrongFalsely : Prop := fnExactSpacesWithRow.holds Try.pinned (OpenSpec.ofChange fnExactSpacesWithWrong)

/-- 'laws.FnExactFlagsWith': WHATEVER THE INPUT: true; the input reads as it did. -/
def fnExactFlagsWithSpec : ChangeSpec := { name := "fnExactFlagsWith", fn := fun _ => fun
  | [d1, d2] => { results := [.lit (.bool true)], args := [d1, d2] }
  | _ => none }
def fnExactFlagsWithRow : OpenClaim := { program := "ytejoapielndnnaa", sum := "09f39cc163cbd50fe275ee9ceaf7a6eb57c7577b5903736f9544592d169049c5", func := "loop.example/g03113/laws.FnExactFlagsWith", spec := "fnExactFlagsWith", apart := false }
def FnExactFlagsWithSaid : Prop := fnExactFlagsWithRow.holds Try.pinned (OpenSpec.ofChange fnExactFlagsWithSpec)

/-- ITS FALSE NEIGHBOUR: 'it returns false'. Refute it at one input. -/
def fnExactFlagsWithWrong : ChangeSpec := { name := "fnExactFlagsWith", fn := fun _ => fun
  | [d1, d2] => { results := [.lit (.bool false)], args := [d1, d2] }
  | _ => none }
def FnExactFlagsWithWrongFalsely : Prop := fnExactFlagsWithRow.holds Try.pinned (OpenSpec.ofChange fnExactFlagsWithWrong)

/-- 'laws.FnExactSessionOk': WHATEVER THE INPUT: true; the input reads as it did. -/
def fnExactSessionOkSpec : ChangeSpec := { name := "fnExactSessionOk", fn := fun _ => fun
  | [d] => { results := [.lit (.bool true)], args := [d] }
  | _ => none }
def fnExactSessionOkRow : OpenClaim := { program := "ytejoapielndnnaa", sum := "09f39cc163cbd50fe275ee9ceaf7a6eb57c7577b5903736f9544592d169049c5", func := "loop.example/g03113/laws.FnExactSessionOk", spec := "fnExactSessionOk", apart := false }
def FnExactSessionOkSaid : Prop := fnExactSessionOkRow.holds Try.pinned (OpenSpec.ofChange fnExactSessionOkSpec)

/-- ITS FALSE NEIGHBOUR: 'it returns false'. Refute it at one input. -/
def fnExactSessionOkWrong : ChangeSpec := { name := "fnExactSessionOk", fn := fun _ => fun
  | [d] => { results := [.lit (.bool false)], args := [d] }
  | _ => none }
def FnExactSessionOkWrongFalsely : Prop := fnExactSessionOkRow.holds Try.pinned (OpenSpec.ofChange fnExactSessionOkWrong)

/- THE SECOND FORM. 'bulk': how many values and letters a reading holds, each counted each time it is reached (what is shared counts as often as it is met; a slice's spare places count too). A statement '..UptoSaid' is the law's where the arguments, and the package variables that the reading takes, are together of bulk at most 1048576: NARROWER than '..Said'. Prove '..Said' where nothing that the law and all that it calls make is longer than what came in: it says more and counts as full. Else prove '..UptoSaid'. A law counts once. -/
mutual
def uptoBulk {H : Type} : DataW H → Nat
  | .lit (.string bytes) => bytes.length + 1
  | .lit _ => 1
  | .nil => 1
  | .ptr d => uptoBulk d + 1
  | .slice elems spare => uptoBulkAll elems + uptoBulkAll spare + 1
  | .agg parts => uptoBulkAll parts + 1
  | .iface _ d => uptoBulk d + 1
  | .map entries => uptoBulkEntries entries + 1
  | .held _ => 1
def uptoBulkAll {H : Type} : List (DataW H) → Nat
  | [] => 0
  | d :: r => uptoBulk d + uptoBulkAll r
def uptoBulkEntries {H : Type} : List (Lit × DataW H) → Nat
  | [] => 0
  | x :: r => uptoBulkEntry x + uptoBulkEntries r
def uptoBulkEntry {H : Type} : Lit × DataW H → Nat
  | (.string bytes, d) => bytes.length + uptoBulk d + 1
  | (_, d) => uptoBulk d + 1
 end
def uptoSmall : (H : Type) → List (DataW H) → Bool := fun _ ds => decide (uptoBulkAll ds ≤ 1048576)
def OpenSpec.upto (s : _root_.Go.ChangeSpec) : _root_.Go.OpenSpec := { _root_.Go.OpenSpec.ofChange s with cond := some uptoSmall }

/-- 'laws.FnExactKeepsEssential', WHERE WHAT IT READS IS OF BULK AT MOST 1048576: true; the input reads as it did. -/
def fnExactKeepsEssentialUptoRow : OpenClaim := { program := "ytejoapielndnnaa", sum := "09f39cc163cbd50fe275ee9ceaf7a6eb57c7577b5903736f9544592d169049c5", func := "loop.example/g03113/laws.FnExactKeepsEssential", spec := "fnExactKeepsEssential", unfollowed := true, recurses := true, apart := false, narrowed := true }
def FnExactKeepsEssentialUptoSaid : Prop := fnExactKeepsEssentialUptoRow.holds Try.pinned (OpenSpec.upto fnExactKeepsEssentialSpec)

/-- 'laws.FnExactSpacesWith', WHERE WHAT IT READS IS OF BULK AT MOST 1048576: true; the input reads as it did. -/
def fnExactSpacesWithUptoRow : OpenClaim := { program := "ytejoapielndnnaa", sum := "09f39cc163cbd50fe275ee9ceaf7a6eb57c7577b5903736f9544592d169049c5", func := "loop.example/g03113/laws.FnExactSpacesWith", spec := "fnExactSpacesWith", apart := false, narrowed := true }
def FnExactSpacesWithUptoSaid : Prop := fnExactSpacesWithUptoRow.holds Try.pinned (OpenSpec.upto fnExactSpacesWithSpec)

/-- 'laws.FnExactFlagsWith', WHERE WHAT IT READS IS OF BULK AT MOST 1048576: true; the input reads as it did. -/
def fnExactFlagsWithUptoRow : OpenClaim := { program := "ytejoapielndnnaa", sum := "09f39cc163cbd50fe275ee9ceaf7a6eb57c7577b5903736f9544592d169049c5", func := "loop.example/g03113/laws.FnExactFlagsWith", spec := "fnExactFlagsWith", apart := false, narrowed := true }
def FnExactFlagsWithUptoSaid : Prop := fnExactFlagsWithUptoRow.holds Try.pinned (OpenSpec.upto fnExactFlagsWithSpec)

/-- 'laws.FnExactSessionOk', WHERE WHAT IT READS IS OF BULK AT MOST 1048576: true; the input reads as it did. -/
def fnExactSessionOkUptoRow : OpenClaim := { program := "ytejoapielndnnaa", sum := "09f39cc163cbd50fe275ee9ceaf7a6eb57c7577b5903736f9544592d169049c5", func := "loop.example/g03113/laws.FnExactSessionOk", spec := "fnExactSessionOk", apart := false, narrowed := true }
def FnExactSessionOkUptoSaid : Prop := fnExactSessionOkUptoRow.holds Try.pinned (OpenSpec.upto fnExactSessionOkSpec)

end Rows
end Go.Proofs.Ytejoapielndnnaa
