/-
  The law's own helpers over matrices: how great, copy, compare, mark, look for the marks.
-/
import Derived.Test.YtajilmfaconjbaaLawI
namespace Go.Proofs.Ytajilmfaconjbaa
set_option linter.all false
open Go.RowKit

/-- a matrix: the prime, the numbers of rows and columns, the numbers row by row -/
structure Mx where
  P : Int
  R : Int
  C : Int
  D : List Int

def mxZero : Mx := ⟨0, 0, 0, []⟩

/-- a call returned this matrix, in new memory, and changed nothing that was there -/
def RetM (w : World) (m : Mx) (e : Ending) (w' : World) : Prop :=
  ∃ u, e = .returned (.agg #[.int .i64 m.P, .int .i64 m.R, .int .i64 m.C, u]) ∧ OwnI 3 w' w.heap.size w'.heap.size u m.D ∧ Below w.heap.size w w'
/-- a call returned this matrix and this bool .. -/
def RetMB (w : World) (m : Mx) (b : Bool) (e : Ending) (w' : World) : Prop :=
  ∃ u, e = .returned (.tuple #[.agg #[.int .i64 m.P, .int .i64 m.R, .int .i64 m.C, u], .bool b]) ∧ OwnI 3 w' w.heap.size w'.heap.size u m.D ∧ Below w.heap.size w w'

/-- what is left of a limit behind n elements; -1: none -/
def szI (left : Int) (n : Nat) : Int := if left < n then -1 else left - n

/-- two matrices are the same -/
def mxSame (P R C : Int) (xs : List Int) (P' R' C' : Int) (ys : List Int) : Bool := decide (P = P' ∧ R = R' ∧ C = C' ∧ xs = ys)

theorem Frm.below_left {lo hi : Nat} {a b c : World} (h : Below a.heap.size a b) (k : Frm lo hi b c) : Frm lo hi a c := (Frm.of_below h lo hi).trans k

theorem heldI_neg (xs : List Int) (m : Int) (h0 : 0 ≤ m) : heldI xs m = -1 ∨ 0 ≤ heldI xs m := by
  unfold heldI; split <;> omega
theorem heldI_le (xs : List Int) (m : Int) (h0 : 0 ≤ m) : heldI xs m ≤ m + xs.length := by
  unfold heldI; split <;> omega

theorem eqIntS_same (v1 v2 : Value) (xs : List Int) (w : World) (h1 : Ints w v1 xs) (h2 : Ints w v2 xs) :
    Calls Try.prog 8 #[v1, v2] w fun e w' => e = .returned (.bool true) ∧ Below w.heap.size w w' :=
  (eqIntS_any v1 v2 xs xs w h1 h2).mono fun e w' ⟨he, hq⟩ => ⟨by rw [he]; simp, hq.below _⟩
theorem Frm.blk {lo hi : Nat} {w w' : World} {b : Nat} {o : Obj} (hf : Frm lo hi w w') (h : w.heap[b]? = some o) (ho : b < lo ∨ hi ≤ b) : w'.heap[b]? = some o := by
  rw [hf.block b (blk_lt h) ho]; exact h
theorem OwnI.lohi {T : TypeId} {w : World} {lo hi : Nat} {v : Value} {xs : List Int} (h : OwnI T w lo hi v xs) : xs.length ≤ maxLen := by
  obtain ⟨p, cap, _, h1, h2⟩ := h.shape
  omega

end Go.Proofs.Ytajilmfaconjbaa
