/-
  No cell of these rows narrows 'for every input' (looked for: loops, veiled, ifaces, maps, wideKeys, modest, calm, conditions, laid).
  DERIVED. THE GIVEN ROWS OF THIS SEAT. 4 by the template 'for every input the law returns true; each argument reads behind the call as it read before'; 0 by the template 'total and deterministic' (their statements: YtajmoclnmphmgaaTotals.lean).
  GIVEN WITH THE SEED: the statements are not yours to turn. If you find one false, say at which input.
  Laid BY PROGRAM, IN A SANDBOX (cutbox-rows.mjs): the forced cells as the released guide's own fill.sh prints them over the translation aafb0d4167c6b24a… (all of the seat's roots in one cut). By AI agents, Wed Nov 11 2026. No macro, syntax, notation, axiom, sorry.
-/
import Derived.Test.YtajmoclnmphmgaaChecked
import GoSem.Claim
import GoSem.ClaimJoined
import GoSem.ClaimMapViews
import Derived.JoinedTies
import Derived.KernelRfl
namespace Go.Proofs.Ytajmoclnmphmgaa
/- THE CELL 'sum', in the pinned program and in every row, IS THE sha256 OF THE DUMP (.gsa) THAT YtajmoclnmphmgaaProg.lean LOADS. Nothing in Lean hashes anything: it is a label: what it is worth is what the hold of that sum in a sandbox is worth. -/
noncomputable def Try.pinned : Pinned := { name := "ytajmoclnmphmgaa", sum := "aafb0d4167c6b24a5e63ffbd449e0439c98be0a05c7f6424d6a474f43b5f9a93", checked := Try.checked }
namespace Rows
def none {H : Type} : Left H := { results := [], args := [] }

/-- 'laws.FnExactExpandLocal': WHATEVER THE INPUT: true; the input reads as it did. -/
def fnExactExpandLocalSpec : ChangeSpec := { name := "fnExactExpandLocal", fn := fun _ => fun
  | [d1, d2, d3] => { results := [.lit (.bool true)], args := [d1, d2, d3] }
  | _ => none }
def fnExactExpandLocalRow : OpenClaim := { program := "ytajmoclnmphmgaa", sum := "aafb0d4167c6b24a5e63ffbd449e0439c98be0a05c7f6424d6a474f43b5f9a93", func := "loop.example/g03113/laws.FnExactExpandLocal", spec := "fnExactExpandLocal", unfollowed := true, recurses := true, plainKeys := false, apart := false }
def FnExactExpandLocalSaid : Prop := fnExactExpandLocalRow.holds Try.pinned (OpenSpec.ofChange fnExactExpandLocalSpec)

/-- ITS FALSE NEIGHBOUR: 'it returns false'. Refute it at one input. -/
def fnExactExpandLocalWrong : ChangeSpec := { name := "fnExactExpandLocal", fn := fun _ => fun
  | [d1, d2, d3] => { results := [.lit (.bool false)], args := [d1, d2, d3] }
  | _ => none }
def FnExactExpandLocalWrongFalsely : Prop := fnExactExpandLocalRow.holds Try.pinned (OpenSpec.ofChange fnExactExpandLocalWrong)

/-- 'laws.FnExactEquivariantProduct': WHATEVER THE INPUT: true; the input reads as it did. -/
def fnExactEquivariantProductSpec : ChangeSpec := { name := "fnExactEquivariantProduct", fn := fun _ => fun
  | [d1, d2, d3] => { results := [.lit (.bool true)], args := [d1, d2, d3] }
  | _ => none }
def fnExactEquivariantProductRow : OpenClaim := { program := "ytajmoclnmphmgaa", sum := "aafb0d4167c6b24a5e63ffbd449e0439c98be0a05c7f6424d6a474f43b5f9a93", func := "loop.example/g03113/laws.FnExactEquivariantProduct", spec := "fnExactEquivariantProduct", unfollowed := true, recurses := true, plainKeys := false, apart := false }
def FnExactEquivariantProductSaid : Prop := fnExactEquivariantProductRow.holds Try.pinned (OpenSpec.ofChange fnExactEquivariantProductSpec)

/-- ITS FALSE NEIGHBOUR: 'it returns false'. Refute it at one input. -/
def fnExactEquivariantProductWrong : ChangeSpec := { name := "fnExactEquivariantProduct", fn := fun _ => fun
  | [d1, d2, d3] => { results := [.lit (.bool false)], args := [d1, d2, d3] }
  | _ => none }
def FnExactEquivariantProductWrongFalsely : Prop := fnExactEquivariantProductRow.holds Try.pinned (OpenSpec.ofChange fnExactEquivariantProductWrong)

/-- 'laws.FnGkm': WHATEVER THE INPUT: true; the input reads as it did. -/
def fnGkmSpec : ChangeSpec := { name := "fnGkm", fn := fun _ => fun
  | [d] => { results := [.lit (.bool true)], args := [d] }
  | _ => none }
def fnGkmRow : OpenClaim := { program := "ytajmoclnmphmgaa", sum := "aafb0d4167c6b24a5e63ffbd449e0439c98be0a05c7f6424d6a474f43b5f9a93", func := "loop.example/g03113/laws.FnGkm", spec := "fnGkm", unfollowed := true, recurses := true, plainKeys := false, apart := false }
def FnGkmSaid : Prop := fnGkmRow.holds Try.pinned (OpenSpec.ofChange fnGkmSpec)

/-- ITS FALSE NEIGHBOUR: 'it returns false'. Refute it at one input. -/
def fnGkmWrong : ChangeSpec := { name := "fnGkm", fn := fun _ => fun
  | [d] => { results := [.lit (.bool false)], args := [d] }
  | _ => none }
def FnGkmWrongFalsely : Prop := fnGkmRow.holds Try.pinned (OpenSpec.ofChange fnGkmWrong)

/-- 'laws.FnChevalley': WHATEVER THE INPUT: true; the input reads as it did. -/
def fnChevalleySpec : ChangeSpec := { name := "fnChevalley", fn := fun _ => fun
  | [d] => { results := [.lit (.bool true)], args := [d] }
  | _ => none }
def fnChevalleyRow : OpenClaim := { program := "ytajmoclnmphmgaa", sum := "aafb0d4167c6b24a5e63ffbd449e0439c98be0a05c7f6424d6a474f43b5f9a93", func := "loop.example/g03113/laws.FnChevalley", spec := "fnChevalley", unfollowed := true, recurses := true, plainKeys := false, apart := false }
def FnChevalleySaid : Prop := fnChevalleyRow.holds Try.pinned (OpenSpec.ofChange fnChevalleySpec)

/-- ITS FALSE NEIGHBOUR: 'it returns false'. Refute it at one input. -/
def fnChevalleyWrong : ChangeSpec := { name := "fnChevalley", fn := fun _ => fun
  | [d] => { results := [.lit (.bool false)], args := [d] }
  | _ => none }
def FnChevalleyWrongFalsely : Prop := fnChevalleyRow.holds Try.pinned (OpenSpec.ofChange fnChevalleyWrong)

/- THE SECOND FORM. 'bulk': how many values and letters a reading holds, each counted each time it is reached (what is shared counts as often as it is met; a slice's spare places count too). A statement '..UptoSaid' is the law's where the arguments, and the package variables that the reading takes, are together of bulk at most 1048576: NARROWER than '..Said'. Prove '..Said' where nothing that the law and all that it calls make is longer than what came in: it says more and counts as full. Else prove '..UptoSaid'. A law counts once. -/
mutual
def uptoBulk {H : Type} : DataW H → Nat
  | .lit (.string bytes) => bytes.length + 1
  | .lit _ => 1
  | .nil => 1
  | .ptr d => uptoBulk d + 1
  | .slice elems spare => uptoBulkAll elems + uptoBulkAll spare + 1
  | .agg parts => uptoBulkAll parts + 1
  | .iface _ d => uptoBulk d + 1
  | .map entries => uptoBulkEntries entries + 1
  | .held _ => 1
def uptoBulkAll {H : Type} : List (DataW H) → Nat
  | [] => 0
  | d :: r => uptoBulk d + uptoBulkAll r
def uptoBulkEntries {H : Type} : List (Lit × DataW H) → Nat
  | [] => 0
  | x :: r => uptoBulkEntry x + uptoBulkEntries r
def uptoBulkEntry {H : Type} : Lit × DataW H → Nat
  | (.string bytes, d) => bytes.length + uptoBulk d + 1
  | (_, d) => uptoBulk d + 1
 end
def uptoSmall : (H : Type) → List (DataW H) → Bool := fun _ ds => decide (uptoBulkAll ds ≤ 1048576)
def OpenSpec.upto (s : _root_.Go.ChangeSpec) : _root_.Go.OpenSpec := { _root_.Go.OpenSpec.ofChange s with cond := some uptoSmall }

/-- 'laws.FnExactExpandLocal', WHERE WHAT IT READS IS OF BULK AT MOST 1048576: true; the input reads as it did. -/
def fnExactExpandLocalUptoRow : OpenClaim := { program := "ytajmoclnmphmgaa", sum := "aafb0d4167c6b24a5e63ffbd449e0439c98be0a05c7f6424d6a474f43b5f9a93", func := "loop.example/g03113/laws.FnExactExpandLocal", spec := "fnExactExpandLocal", unfollowed := true, recurses := true, plainKeys := false, apart := false, narrowed := true }
def FnExactExpandLocalUptoSaid : Prop := fnExactExpandLocalUptoRow.holds Try.pinned (OpenSpec.upto fnExactExpandLocalSpec)

/-- 'laws.FnExactEquivariantProduct', WHERE WHAT IT READS IS OF BULK AT MOST 1048576: true; the input reads as it did. -/
def fnExactEquivariantProductUptoRow : OpenClaim := { program := "ytajmoclnmphmgaa", sum := "aafb0d4167c6b24a5e63ffbd449e0439c98be0a05c7f6424d6a474f43b5f9a93", func := "loop.example/g03113/laws.FnExactEquivariantProduct", spec := "fnExactEquivariantProduct", unfollowed := true, recurses := true, plainKeys := false, apart := false, narrowed := true }
def FnExactEquivariantProductUptoSaid : Prop := fnExactEquivariantProductUptoRow.holds Try.pinned (OpenSpec.upto fnExactEquivariantProductSpec)

/-- 'laws.FnGkm', WHERE WHAT IT READS IS OF BULK AT MOST 1048576: true; the input reads as it did. -/
def fnGkmUptoRow : OpenClaim := { program := "ytajmoclnmphmgaa", sum := "aafb0d4167c6b24a5e63ffbd449e0439c98be0a05c7f6424d6a474f43b5f9a93", func := "loop.example/g03113/laws.FnGkm", spec := "fnGkm", unfollowed := true, recurses := true, plainKeys := false, apart := false, narrowed := true }
def FnGkmUptoSaid : Prop := fnGkmUptoRow.holds Try.pinned (OpenSpec.upto fnGkmSpec)

/-- 'laws.FnChevalley', WHERE WHAT IT READS IS OF BULK AT MOST 1048576: true; the input reads as it did. -/
def fnChevalleyUptoRow : OpenClaim := { program := "ytajmoclnmphmgaa", sum := "aafb0d4167c6b24a5e63ffbd449e0439c98be0a05c7f6424d6a474f43b5f9a93", func := "loop.example/g03113/laws.FnChevalley", spec := "fnChevalley", unfollowed := true, recurses := true, plainKeys := false, apart := false, narrowed := true }
def FnChevalleyUptoSaid : Prop := fnChevalleyUptoRow.holds Try.pinned (OpenSpec.upto fnChevalleySpec)

end Rows
end Go.Proofs.Ytajmoclnmphmgaa
