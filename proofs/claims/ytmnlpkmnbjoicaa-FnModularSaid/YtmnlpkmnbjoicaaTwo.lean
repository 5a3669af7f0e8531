/-
  Two spaces: l7Two, fitTogether, l7Both.
-/
import Derived.Test.YtmnlpkmnbjoicaaSpace
import Derived.Test.YtmnlpkmnbjoicaaRankL
import Derived.Test.YtmnlpkmnbjoicaaStep
namespace Go.Proofs.Ytmnlpkmnbjoicaa
set_option linter.all false
open Go.RowKit

/-- it is a space -/
def IsSp (P R C : Int) (D : List Int) : Prop := mxOk P R C D = true ∧ SpIs P R C D ⟨P, R, C, D⟩
theorem implIsSpace_yes (P R C : Int) (d : Value) (D : List Int) (h : IsSp P R C D) (w : World) (hd : Ints w d D) :
    Calls Try.prog 10 #[.agg #[.int .i64 P, .int .i64 R, .int .i64 C, d]] w fun e w' => e = .returned (.bool true) ∧ Below w.heap.size w w' :=
  (implIsSpace_ex P R C d D w hd).mono fun e w' ⟨r, h1, h2, h3⟩ => ⟨by rw [h1, h2.2 h], h3⟩
theorem implIsSpace_no (P R C : Int) (d : Value) (D : List Int) (h : ¬ IsSp P R C D) (w : World) (hd : Ints w d D) :
    Calls Try.prog 10 #[.agg #[.int .i64 P, .int .i64 R, .int .i64 C, d]] w fun e w' => e = .returned (.bool false) ∧ Below w.heap.size w w' :=
  (implIsSpace_ex P R C d D w hd).mono fun e w' ⟨r, h1, h2, h3⟩ => ⟨by
    cases r with
    | true => exact absurd (h2.1 rfl) h
    | false => exact h1, h3⟩
/-- two spaces that lie in one -/
def TwoIs (P R C : Int) (D : List Int) (P' R' C' : Int) (D' : List Int) : Prop := IsSp P R C D ∧ IsSp P' R' C' D' ∧ P = P' ∧ C = C'
def fitOk (P C P' C' : Int) : Bool := decide (P = P') && decide (C = C')

set_option maxRecDepth 100000 in
set_option maxHeartbeats 2000000 in
theorem fitTogether_any (AP AR AC BP BR BC : Int) (dA dB : Value) (DA DB : List Int) (w : World) (hdA : Ints w dA DA) (hdB : Ints w dB DB) :
    Calls Try.prog 31 #[.agg #[.int .i64 AP, .int .i64 AR, .int .i64 AC, dA], .agg #[.int .i64 BP, .int .i64 BR, .int .i64 BC, dB]] w fun e w' => e = .returned (.bool (fitOk AP AC BP BC)) ∧ Below w.heap.size w w' := by
  by_cases h1 : AP = BP
  case neg =>
    have e1 : (AP == BP) = false := by simpa using h1
    have e0 : fitOk AP AC BP BC = false := by simp [fitOk, h1]
    rw [e0]
    clear h1 e0
    have HdA := Lib.hid hdA
    obtain ⟨pA, kA, rfl, ⟨_, mA⟩, _⟩ := hdA
    unfold maxLen at mA
    have HdB := Lib.hid hdB
    obtain ⟨pB, kB, rfl, ⟨_, mB⟩, _⟩ := hdB
    unfold maxLen at mB
    obtain ⟨z0, z1⟩ := boxes_ab w (.cells #[.int .i64 AP, .int .i64 AR, .int .i64 AC, .slice pA DA.length kA] 26) (.cells #[.int .i64 BP, .int .i64 BR, .int .i64 BC, .slice pB DB.length kB] 26)
    have ZA1 := Lib.hid z0
    have ZB1 := Lib.hid z1
    clear z0 z1
    have HB1 := Lib.hid (below_alloc2 w (.cells #[.int .i64 AP, .int .i64 AR, .int .i64 AC, .slice pA DA.length kA] 26) (.cells #[.int .i64 BP, .int .i64 BR, .int .i64 BC, .slice pB DB.length kB] 26))
    go_enter Try.func31, Try.ntmps31
    go_wp2_with fail
    have hs1 : ((w.alloc (.cells #[.int .i64 AP, .int .i64 AR, .int .i64 AC, .slice pA DA.length kA] 26)).alloc (.cells #[.int .i64 BP, .int .i64 BR, .int .i64 BC, .slice pB DB.length kB] 26)).heap.size = w.heap.size + 1 + 1 := by simp
    generalize (w.alloc (.cells #[.int .i64 AP, .int .i64 AR, .int .i64 AC, .slice pA DA.length kA] 26)).alloc (.cells #[.int .i64 BP, .int .i64 BR, .int .i64 BC, .slice pB DB.length kB] 26) = w1 at *
    obtain ⟨cA0, cA1, cA2, cA3, cAf, cAz⟩ := blk4 ZA1.out
    obtain ⟨cB0, cB1, cB2, cB3, cBf, cBz⟩ := blk4 ZB1.out
    go_wp2_with fail
    go_ret
    exact ⟨rfl, HB1.out⟩
  by_cases h2 : AC = BC
  case neg =>
    have e2 : (AC == BC) = false := by simpa using h2
    have e0 : fitOk AP AC BP BC = false := by simp [fitOk, h2]
    rw [e0]
    clear h2 e0
    subst h1
    have HdA := Lib.hid hdA
    obtain ⟨pA, kA, rfl, ⟨_, mA⟩, _⟩ := hdA
    unfold maxLen at mA
    have HdB := Lib.hid hdB
    obtain ⟨pB, kB, rfl, ⟨_, mB⟩, _⟩ := hdB
    unfold maxLen at mB
    obtain ⟨z0, z1⟩ := boxes_ab w (.cells #[.int .i64 AP, .int .i64 AR, .int .i64 AC, .slice pA DA.length kA] 26) (.cells #[.int .i64 AP, .int .i64 BR, .int .i64 BC, .slice pB DB.length kB] 26)
    have ZA1 := Lib.hid z0
    have ZB1 := Lib.hid z1
    clear z0 z1
    have HB1 := Lib.hid (below_alloc2 w (.cells #[.int .i64 AP, .int .i64 AR, .int .i64 AC, .slice pA DA.length kA] 26) (.cells #[.int .i64 AP, .int .i64 BR, .int .i64 BC, .slice pB DB.length kB] 26))
    go_enter Try.func31, Try.ntmps31
    go_wp2_with fail
    have hs1 : ((w.alloc (.cells #[.int .i64 AP, .int .i64 AR, .int .i64 AC, .slice pA DA.length kA] 26)).alloc (.cells #[.int .i64 AP, .int .i64 BR, .int .i64 BC, .slice pB DB.length kB] 26)).heap.size = w.heap.size + 1 + 1 := by simp
    generalize (w.alloc (.cells #[.int .i64 AP, .int .i64 AR, .int .i64 AC, .slice pA DA.length kA] 26)).alloc (.cells #[.int .i64 AP, .int .i64 BR, .int .i64 BC, .slice pB DB.length kB] 26) = w1 at *
    obtain ⟨cA0, cA1, cA2, cA3, cAf, cAz⟩ := blk4 ZA1.out
    obtain ⟨cB0, cB1, cB2, cB3, cBf, cBz⟩ := blk4 ZB1.out
    go_wp2_with fail
    go_ret
    exact ⟨rfl, HB1.out⟩
  have e0 : fitOk AP AC BP BC = true := by simp [fitOk, h1, h2]
  rw [e0]
  clear e0
  subst h1 h2
  have HdA := Lib.hid hdA
  obtain ⟨pA, kA, rfl, ⟨_, mA⟩, _⟩ := hdA
  unfold maxLen at mA
  have HdB := Lib.hid hdB
  obtain ⟨pB, kB, rfl, ⟨_, mB⟩, _⟩ := hdB
  unfold maxLen at mB
  obtain ⟨z0, z1⟩ := boxes_ab w (.cells #[.int .i64 AP, .int .i64 AR, .int .i64 AC, .slice pA DA.length kA] 26) (.cells #[.int .i64 AP, .int .i64 BR, .int .i64 AC, .slice pB DB.length kB] 26)
  have ZA1 := Lib.hid z0
  have ZB1 := Lib.hid z1
  clear z0 z1
  have HB1 := Lib.hid (below_alloc2 w (.cells #[.int .i64 AP, .int .i64 AR, .int .i64 AC, .slice pA DA.length kA] 26) (.cells #[.int .i64 AP, .int .i64 BR, .int .i64 AC, .slice pB DB.length kB] 26))
  go_enter Try.func31, Try.ntmps31
  go_wp2_with fail
  have hs1 : ((w.alloc (.cells #[.int .i64 AP, .int .i64 AR, .int .i64 AC, .slice pA DA.length kA] 26)).alloc (.cells #[.int .i64 AP, .int .i64 BR, .int .i64 AC, .slice pB DB.length kB] 26)).heap.size = w.heap.size + 1 + 1 := by simp
  generalize (w.alloc (.cells #[.int .i64 AP, .int .i64 AR, .int .i64 AC, .slice pA DA.length kA] 26)).alloc (.cells #[.int .i64 AP, .int .i64 BR, .int .i64 AC, .slice pB DB.length kB] 26) = w1 at *
  obtain ⟨cA0, cA1, cA2, cA3, cAf, cAz⟩ := blk4 ZA1.out
  obtain ⟨cB0, cB1, cB2, cB3, cBf, cBz⟩ := blk4 ZB1.out
  go_wp2_with fail
  go_ret
  exact ⟨rfl, HB1.out⟩

end Go.Proofs.Ytmnlpkmnbjoicaa
