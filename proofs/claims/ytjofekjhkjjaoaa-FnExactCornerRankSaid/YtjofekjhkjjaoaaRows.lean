/-
  No cell of these rows narrows 'for every input' (looked for: loops, veiled, ifaces, maps, wideKeys, modest, calm, conditions, laid).
  DERIVED. THE GIVEN ROWS OF THIS SEAT. 6 by the template 'for every input the law returns true; each argument reads behind the call as it read before'; 0 by the template 'total and deterministic' (their statements: YtjofekjhkjjaoaaTotals.lean).
  GIVEN WITH THE SEED: the statements are not yours to turn. If you find one false, say at which input.
  Laid BY PROGRAM, IN A SANDBOX (cutbox-rows.mjs): the forced cells as the released guide's own fill.sh prints them over the translation 6e12106c6ca6c3c5… (all of the seat's roots in one cut). By AI agents, Wed Nov 11 2026. No macro, syntax, notation, axiom, sorry.
-/
import Derived.Test.YtjofekjhkjjaoaaChecked
import GoSem.Claim
import GoSem.ClaimJoined
import GoSem.ClaimMapViews
import Derived.JoinedTies
import Derived.KernelRfl
namespace Go.Proofs.Ytjofekjhkjjaoaa
/- THE CELL 'sum', in the pinned program and in every row, IS THE sha256 OF THE DUMP (.gsa) THAT YtjofekjhkjjaoaaProg.lean LOADS. Nothing in Lean hashes anything: it is a label: what it is worth is what the hold of that sum in a sandbox is worth. -/
noncomputable def Try.pinned : Pinned := { name := "ytjofekjhkjjaoaa", sum := "6e12106c6ca6c3c511a702f6345554a62529a5592cad6aba9a8bc7232d555c22", checked := Try.checked }
namespace Rows
def none {H : Type} : Left H := { results := [], args := [] }

/-- 'laws.FnExactFlagOk': WHATEVER THE INPUT: true; the input reads as it did. -/
def fnExactFlagOkSpec : ChangeSpec := { name := "fnExactFlagOk", fn := fun _ => fun
  | [d] => { results := [.lit (.bool true)], args := [d] }
  | _ => none }
def fnExactFlagOkRow : OpenClaim := { program := "ytjofekjhkjjaoaa", sum := "6e12106c6ca6c3c511a702f6345554a62529a5592cad6aba9a8bc7232d555c22", func := "loop.example/g03113/laws.FnExactFlagOk", spec := "fnExactFlagOk", unfollowed := true, recurses := true, apart := false }
def FnExactFlagOkSaid : Prop := fnExactFlagOkRow.holds Try.pinned (OpenSpec.ofChange fnExactFlagOkSpec)

/-- ITS FALSE NEIGHBOUR: 'it returns false'. Refute it at one input. -/
def fnExactFlagOkWrong : ChangeSpec := { name := "fnExactFlagOk", fn := fun _ => fun
  | [d] => { results := [.lit (.bool false)], args := [d] }
  | _ => none }
def FnExactFlagOkWrongFalsely : Prop := fnExactFlagOkRow.holds Try.pinned (OpenSpec.ofChange fnExactFlagOkWrong)

/-- 'laws.FnExactRankOf': WHATEVER THE INPUT: true; the input reads as it did. -/
def fnExactRankOfSpec : ChangeSpec := { name := "fnExactRankOf", fn := fun _ => fun
  | [d] => { results := [.lit (.bool true)], args := [d] }
  | _ => none }
def fnExactRankOfRow : OpenClaim := { program := "ytjofekjhkjjaoaa", sum := "6e12106c6ca6c3c511a702f6345554a62529a5592cad6aba9a8bc7232d555c22", func := "loop.example/g03113/laws.FnExactRankOf", spec := "fnExactRankOf", unfollowed := true, recurses := true, apart := false }
def FnExactRankOfSaid : Prop := fnExactRankOfRow.holds Try.pinned (OpenSpec.ofChange fnExactRankOfSpec)

/-- ITS FALSE NEIGHBOUR: 'it returns false'. Refute it at one input. -/
def fnExactRankOfWrong : ChangeSpec := { name := "fnExactRankOf", fn := fun _ => fun
  | [d] => { results := [.lit (.bool false)], args := [d] }
  | _ => none }
def FnExactRankOfWrongFalsely : Prop := fnExactRankOfRow.holds Try.pinned (OpenSpec.ofChange fnExactRankOfWrong)

/-- 'laws.FnExactCornerRank': WHATEVER THE INPUT: true; the input reads as it did. -/
def fnExactCornerRankSpec : ChangeSpec := { name := "fnExactCornerRank", fn := fun _ => fun
  | [d1, d2, d3] => { results := [.lit (.bool true)], args := [d1, d2, d3] }
  | _ => none }
def fnExactCornerRankRow : OpenClaim := { program := "ytjofekjhkjjaoaa", sum := "6e12106c6ca6c3c511a702f6345554a62529a5592cad6aba9a8bc7232d555c22", func := "loop.example/g03113/laws.FnExactCornerRank", spec := "fnExactCornerRank", unfollowed := true, recurses := true, apart := false }
def FnExactCornerRankSaid : Prop := fnExactCornerRankRow.holds Try.pinned (OpenSpec.ofChange fnExactCornerRankSpec)

/-- ITS FALSE NEIGHBOUR: 'it returns false'. Refute it at one input. -/
def fnExactCornerRankWrong : ChangeSpec := { name := "fnExactCornerRank", fn := fun _ => fun
  | [d1, d2, d3] => { results := [.lit (.bool false)], args := [d1, d2, d3] }
  | _ => none }
def FnExactCornerRankWrongFalsely : Prop := fnExactCornerRankRow.holds Try.pinned (OpenSpec.ofChange fnExactCornerRankWrong)

/-- 'laws.FnExactIsSpace': WHATEVER THE INPUT: true; the input reads as it did. -/
def fnExactIsSpaceSpec : ChangeSpec := { name := "fnExactIsSpace", fn := fun _ => fun
  | [d] => { results := [.lit (.bool true)], args := [d] }
  | _ => none }
def fnExactIsSpaceRow : OpenClaim := { program := "ytjofekjhkjjaoaa", sum := "6e12106c6ca6c3c511a702f6345554a62529a5592cad6aba9a8bc7232d555c22", func := "loop.example/g03113/laws.FnExactIsSpace", spec := "fnExactIsSpace", unfollowed := true, recurses := true, apart := false }
def FnExactIsSpaceSaid : Prop := fnExactIsSpaceRow.holds Try.pinned (OpenSpec.ofChange fnExactIsSpaceSpec)

/-- ITS FALSE NEIGHBOUR: 'it returns false'. Refute it at one input. -/
def fnExactIsSpaceWrong : ChangeSpec := { name := "fnExactIsSpace", fn := fun _ => fun
  | [d] => { results := [.lit (.bool false)], args := [d] }
  | _ => none }
def FnExactIsSpaceWrongFalsely : Prop := fnExactIsSpaceRow.holds Try.pinned (OpenSpec.ofChange fnExactIsSpaceWrong)

/-- 'laws.FnExactSpanOf': WHATEVER THE INPUT: true; the input reads as it did. -/
def fnExactSpanOfSpec : ChangeSpec := { name := "fnExactSpanOf", fn := fun _ => fun
  | [d] => { results := [.lit (.bool true)], args := [d] }
  | _ => none }
def fnExactSpanOfRow : OpenClaim := { program := "ytjofekjhkjjaoaa", sum := "6e12106c6ca6c3c511a702f6345554a62529a5592cad6aba9a8bc7232d555c22", func := "loop.example/g03113/laws.FnExactSpanOf", spec := "fnExactSpanOf", unfollowed := true, recurses := true, apart := false }
def FnExactSpanOfSaid : Prop := fnExactSpanOfRow.holds Try.pinned (OpenSpec.ofChange fnExactSpanOfSpec)

/-- ITS FALSE NEIGHBOUR: 'it returns false'. Refute it at one input. -/
def fnExactSpanOfWrong : ChangeSpec := { name := "fnExactSpanOf", fn := fun _ => fun
  | [d] => { results := [.lit (.bool false)], args := [d] }
  | _ => none }
def FnExactSpanOfWrongFalsely : Prop := fnExactSpanOfRow.holds Try.pinned (OpenSpec.ofChange fnExactSpanOfWrong)

/-- 'laws.FnExactSpaceString': WHATEVER THE INPUT: true; the input reads as it did. -/
def fnExactSpaceStringSpec : ChangeSpec := { name := "fnExactSpaceString", fn := fun _ => fun
  | [d] => { results := [.lit (.bool true)], args := [d] }
  | _ => none }
def fnExactSpaceStringRow : OpenClaim := { program := "ytjofekjhkjjaoaa", sum := "6e12106c6ca6c3c511a702f6345554a62529a5592cad6aba9a8bc7232d555c22", func := "loop.example/g03113/laws.FnExactSpaceString", spec := "fnExactSpaceString", unfollowed := true, recurses := true, apart := false }
def FnExactSpaceStringSaid : Prop := fnExactSpaceStringRow.holds Try.pinned (OpenSpec.ofChange fnExactSpaceStringSpec)

/-- ITS FALSE NEIGHBOUR: 'it returns false'. Refute it at one input. -/
def fnExactSpaceStringWrong : ChangeSpec := { name := "fnExactSpaceString", fn := fun _ => fun
  | [d] => { results := [.lit (.bool false)], args := [d] }
  | _ => none }
def FnExactSpaceStringWrongFalsely : Prop := fnExactSpaceStringRow.holds Try.pinned (OpenSpec.ofChange fnExactSpaceStringWrong)

/- THE SECOND FORM. 'bulk': how many values and letters a reading holds, each counted each time it is reached (what is shared counts as often as it is met; a slice's spare places count too). A statement '..UptoSaid' is the law's where the arguments, and the package variables that the reading takes, are together of bulk at most 1048576: NARROWER than '..Said'. Prove '..Said' where nothing that the law and all that it calls make is longer than what came in: it says more and counts as full. Else prove '..UptoSaid'. A law counts once. -/
mutual
def uptoBulk {H : Type} : DataW H → Nat
  | .lit (.string bytes) => bytes.length + 1
  | .lit _ => 1
  | .nil => 1
  | .ptr d => uptoBulk d + 1
  | .slice elems spare => uptoBulkAll elems + uptoBulkAll spare + 1
  | .agg parts => uptoBulkAll parts + 1
  | .iface _ d => uptoBulk d + 1
  | .map entries => uptoBulkEntries entries + 1
  | .held _ => 1
def uptoBulkAll {H : Type} : List (DataW H) → Nat
  | [] => 0
  | d :: r => uptoBulk d + uptoBulkAll r
def uptoBulkEntries {H : Type} : List (Lit × DataW H) → Nat
  | [] => 0
  | x :: r => uptoBulkEntry x + uptoBulkEntries r
def uptoBulkEntry {H : Type} : Lit × DataW H → Nat
  | (.string bytes, d) => bytes.length + uptoBulk d + 1
  | (_, d) => uptoBulk d + 1
 end
def uptoSmall : (H : Type) → List (DataW H) → Bool := fun _ ds => decide (uptoBulkAll ds ≤ 1048576)
def OpenSpec.upto (s : _root_.Go.ChangeSpec) : _root_.Go.OpenSpec := { _root_.Go.OpenSpec.ofChange s with cond := some uptoSmall }

/-- 'laws.FnExactFlagOk', WHERE WHAT IT READS IS OF BULK AT MOST 1048576: true; the input reads as it did. -/
def fnExactFlagOkUptoRow : OpenClaim := { program := "ytjofekjhkjjaoaa", sum := "6e12106c6ca6c3c511a702f6345554a62529a5592cad6aba9a8bc7232d555c22", func := "loop.example/g03113/laws.FnExactFlagOk", spec := "fnExactFlagOk", unfollowed := true, recurses := true, apart := false, narrowed := true }
def FnExactFlagOkUptoSaid : Prop := fnExactFlagOkUptoRow.holds Try.pinned (OpenSpec.upto fnExactFlagOkSpec)

/-- 'laws.FnExactRankOf', WHERE WHAT IT READS IS OF BULK AT MOST 1048576: true; the input reads as it did. -/
def fnExactRankOfUptoRow : OpenClaim := { program := "ytjofekjhkjjaoaa", sum := "6e12106c6ca6c3c511a702f6345554a62529a5592cad6aba9a8bc7232d555c22", func := "loop.example/g03113/laws.FnExactRankOf", spec := "fnExactRankOf", unfollowed := true, recurses := true, apart := false, narrowed := true }
def FnExactRankOfUptoSaid : Prop := fnExactRankOfUptoRow.holds Try.pinned (OpenSpec.upto fnExactRankOfSpec)

/-- 'laws.FnExactCornerRank', WHERE WHAT IT READS IS OF BULK AT MOST 1048576: true; the input reads as it did. -/
def fnExactCornerRankUptoRow : OpenClaim := { program := "ytjofekjhkjjaoaa", sum := "6e12106c6ca6c3c511a702f6345554a62529a5592cad6aba9a8bc7232d555c22", func := "loop.example/g03113/laws.FnExactCornerRank", spec := "fnExactCornerRank", unfollowed := true, recurses := true, apart := false, narrowed := true }
def FnExactCornerRankUptoSaid : Prop := fnExactCornerRankUptoRow.holds Try.pinned (OpenSpec.upto fnExactCornerRankSpec)

/-- 'laws.FnExactIsSpace', WHERE WHAT IT READS IS OF BULK AT MOST 1048576: true; the input reads as it did. -/
def fnExactIsSpaceUptoRow : OpenClaim := { program := "ytjofekjhkjjaoaa", sum := "6e12106c6ca6c3c511a702f6345554a62529a5592cad6aba9a8bc7232d555c22", func := "loop.example/g03113/laws.FnExactIsSpace", spec := "fnExactIsSpace", unfollowed := true, recurses := true, apart := false, narrowed := true }
def FnExactIsSpaceUptoSaid : Prop := fnExactIsSpaceUptoRow.holds Try.pinned (OpenSpec.upto fnExactIsSpaceSpec)

/-- 'laws.FnExactSpanOf', WHERE WHAT IT READS IS OF BULK AT MOST 1048576: true; the input reads as it did. -/
def fnExactSpanOfUptoRow : OpenClaim := { program := "ytjofekjhkjjaoaa", sum := "6e12106c6ca6c3c511a702f6345554a62529a5592cad6aba9a8bc7232d555c22", func := "loop.example/g03113/laws.FnExactSpanOf", spec := "fnExactSpanOf", unfollowed := true, recurses := true, apart := false, narrowed := true }
def FnExactSpanOfUptoSaid : Prop := fnExactSpanOfUptoRow.holds Try.pinned (OpenSpec.upto fnExactSpanOfSpec)

/-- 'laws.FnExactSpaceString', WHERE WHAT IT READS IS OF BULK AT MOST 1048576: true; the input reads as it did. -/
def fnExactSpaceStringUptoRow : OpenClaim := { program := "ytjofekjhkjjaoaa", sum := "6e12106c6ca6c3c511a702f6345554a62529a5592cad6aba9a8bc7232d555c22", func := "loop.example/g03113/laws.FnExactSpaceString", spec := "fnExactSpaceString", unfollowed := true, recurses := true, apart := false, narrowed := true }
def FnExactSpaceStringUptoSaid : Prop := fnExactSpaceStringUptoRow.holds Try.pinned (OpenSpec.upto fnExactSpaceStringSpec)

end Rows
end Go.Proofs.Ytjofekjhkjjaoaa
