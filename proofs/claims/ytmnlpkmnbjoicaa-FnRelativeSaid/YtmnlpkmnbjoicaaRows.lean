/-
  No cell of these rows narrows 'for every input' (looked for: loops, veiled, ifaces, maps, wideKeys, modest, calm, conditions, laid).
  DERIVED. THE GIVEN ROWS OF THIS SEAT. 3 by the template 'for every input the law returns true; each argument reads behind the call as it read before'; 0 by the template 'total and deterministic' (their statements: YtmnlpkmnbjoicaaTotals.lean).
  GIVEN WITH THE SEED: the statements are not yours to turn. If you find one false, say at which input.
  Laid BY PROGRAM, IN A SANDBOX (cutbox-rows.mjs): the forced cells as the released guide's own fill.sh prints them over the translation 15c026fe79b4e9ec… (all of the seat's roots in one cut). By AI agents, Wed Nov 11 2026. No macro, syntax, notation, axiom, sorry.
-/
import Derived.Test.YtmnlpkmnbjoicaaChecked
import GoSem.Claim
import GoSem.ClaimJoined
import GoSem.ClaimMapViews
import Derived.JoinedTies
import Derived.KernelRfl
namespace Go.Proofs.Ytmnlpkmnbjoicaa
/- THE CELL 'sum', in the pinned program and in every row, IS THE sha256 OF THE DUMP (.gsa) THAT YtmnlpkmnbjoicaaProg.lean LOADS. Nothing in Lean hashes anything: it is a label: what it is worth is what the hold of that sum in a sandbox is worth. -/
noncomputable def Try.pinned : Pinned := { name := "ytmnlpkmnbjoicaa", sum := "15c026fe79b4e9ec834e69dbc1235bc8d9dbf96b0b33916e938a3eacf1b308da", checked := Try.checked }
namespace Rows
def none {H : Type} : Left H := { results := [], args := [] }

/-- 'laws.FnModular': WHATEVER THE INPUT: true; the input reads as it did. -/
def fnModularSpec : ChangeSpec := { name := "fnModular", fn := fun _ => fun
  | [d] => { results := [.lit (.bool true)], args := [d] }
  | _ => none }
def fnModularRow : OpenClaim := { program := "ytmnlpkmnbjoicaa", sum := "15c026fe79b4e9ec834e69dbc1235bc8d9dbf96b0b33916e938a3eacf1b308da", func := "loop.example/g03113/laws.FnModular", spec := "fnModular", unfollowed := true, recurses := true, apart := false }
def FnModularSaid : Prop := fnModularRow.holds Try.pinned (OpenSpec.ofChange fnModularSpec)

/-- ITS FALSE NEIGHBOUR: 'it returns false'. Refute it at one input. -/
def fnModularWrong : ChangeSpec := { name := "fnModular", fn := fun _ => fun
  | [d] => { results := [.lit (.bool false)], args := [d] }
  | _ => none }
def FnModularWrongFalsely : Prop := fnModularRow.holds Try.pinned (OpenSpec.ofChange fnModularWrong)

/-- 'laws.FnNormal': WHATEVER THE INPUT: true; the input reads as it did. -/
def fnNormalSpec : ChangeSpec := { name := "fnNormal", fn := fun _ => fun
  | [d] => { results := [.lit (.bool true)], args := [d] }
  | _ => none }
def fnNormalRow : OpenClaim := { program := "ytmnlpkmnbjoicaa", sum := "15c026fe79b4e9ec834e69dbc1235bc8d9dbf96b0b33916e938a3eacf1b308da", func := "loop.example/g03113/laws.FnNormal", spec := "fnNormal", unfollowed := true, recurses := true, apart := false }
def FnNormalSaid : Prop := fnNormalRow.holds Try.pinned (OpenSpec.ofChange fnNormalSpec)

/-- ITS FALSE NEIGHBOUR: 'it returns false'. Refute it at one input. -/
def fnNormalWrong : ChangeSpec := { name := "fnNormal", fn := fun _ => fun
  | [d] => { results := [.lit (.bool false)], args := [d] }
  | _ => none }
def FnNormalWrongFalsely : Prop := fnNormalRow.holds Try.pinned (OpenSpec.ofChange fnNormalWrong)

/-- 'laws.FnRelative': WHATEVER THE INPUT: true; the input reads as it did. -/
def fnRelativeSpec : ChangeSpec := { name := "fnRelative", fn := fun _ => fun
  | [d] => { results := [.lit (.bool true)], args := [d] }
  | _ => none }
def fnRelativeRow : OpenClaim := { program := "ytmnlpkmnbjoicaa", sum := "15c026fe79b4e9ec834e69dbc1235bc8d9dbf96b0b33916e938a3eacf1b308da", func := "loop.example/g03113/laws.FnRelative", spec := "fnRelative", unfollowed := true, recurses := true, apart := false }
def FnRelativeSaid : Prop := fnRelativeRow.holds Try.pinned (OpenSpec.ofChange fnRelativeSpec)

/-- ITS FALSE NEIGHBOUR: 'it returns false'. Refute it at one input. -/
def fnRelativeWrong : ChangeSpec := { name := "fnRelative", fn := fun _ => fun
  | [d] => { results := [.lit (.bool false)], args := [d] }
  | _ => none }
def FnRelativeWrongFalsely : Prop := fnRelativeRow.holds Try.pinned (OpenSpec.ofChange fnRelativeWrong)

/- THE SECOND FORM. 'bulk': how many values and letters a reading holds, each counted each time it is reached (what is shared counts as often as it is met; a slice's spare places count too). A statement '..UptoSaid' is the law's where the arguments, and the package variables that the reading takes, are together of bulk at most 1048576: NARROWER than '..Said'. Prove '..Said' where nothing that the law and all that it calls make is longer than what came in: it says more and counts as full. Else prove '..UptoSaid'. A law counts once. -/
mutual
def uptoBulk {H : Type} : DataW H → Nat
  | .lit (.string bytes) => bytes.length + 1
  | .lit _ => 1
  | .nil => 1
  | .ptr d => uptoBulk d + 1
  | .slice elems spare => uptoBulkAll elems + uptoBulkAll spare + 1
  | .agg parts => uptoBulkAll parts + 1
  | .iface _ d => uptoBulk d + 1
  | .map entries => uptoBulkEntries entries + 1
  | .held _ => 1
def uptoBulkAll {H : Type} : List (DataW H) → Nat
  | [] => 0
  | d :: r => uptoBulk d + uptoBulkAll r
def uptoBulkEntries {H : Type} : List (Lit × DataW H) → Nat
  | [] => 0
  | x :: r => uptoBulkEntry x + uptoBulkEntries r
def uptoBulkEntry {H : Type} : Lit × DataW H → Nat
  | (.string bytes, d) => bytes.length + uptoBulk d + 1
  | (_, d) => uptoBulk d + 1
 end
def uptoSmall : (H : Type) → List (DataW H) → Bool := fun _ ds => decide (uptoBulkAll ds ≤ 1048576)
def OpenSpec.upto (s : _root_.Go.ChangeSpec) : _root_.Go.OpenSpec := { _root_.Go.OpenSpec.ofChange s with cond := some uptoSmall }

/-- 'laws.FnModular', WHERE WHAT IT READS IS OF BULK AT MOST 1048576: true; the input reads as it did. -/
def fnModularUptoRow : OpenClaim := { program := "ytmnlpkmnbjoicaa", sum := "15c026fe79b4e9ec834e69dbc1235bc8d9dbf96b0b33916e938a3eacf1b308da", func := "loop.example/g03113/laws.FnModular", spec := "fnModular", unfollowed := true, recurses := true, apart := false, narrowed := true }
def FnModularUptoSaid : Prop := fnModularUptoRow.holds Try.pinned (OpenSpec.upto fnModularSpec)

/-- 'laws.FnNormal', WHERE WHAT IT READS IS OF BULK AT MOST 1048576: true; the input reads as it did. -/
def fnNormalUptoRow : OpenClaim := { program := "ytmnlpkmnbjoicaa", sum := "15c026fe79b4e9ec834e69dbc1235bc8d9dbf96b0b33916e938a3eacf1b308da", func := "loop.example/g03113/laws.FnNormal", spec := "fnNormal", unfollowed := true, recurses := true, apart := false, narrowed := true }
def FnNormalUptoSaid : Prop := fnNormalUptoRow.holds Try.pinned (OpenSpec.upto fnNormalSpec)

/-- 'laws.FnRelative', WHERE WHAT IT READS IS OF BULK AT MOST 1048576: true; the input reads as it did. -/
def fnRelativeUptoRow : OpenClaim := { program := "ytmnlpkmnbjoicaa", sum := "15c026fe79b4e9ec834e69dbc1235bc8d9dbf96b0b33916e938a3eacf1b308da", func := "loop.example/g03113/laws.FnRelative", spec := "fnRelative", unfollowed := true, recurses := true, apart := false, narrowed := true }
def FnRelativeUptoSaid : Prop := fnRelativeUptoRow.holds Try.pinned (OpenSpec.upto fnRelativeSpec)

end Rows
end Go.Proofs.Ytmnlpkmnbjoicaa
