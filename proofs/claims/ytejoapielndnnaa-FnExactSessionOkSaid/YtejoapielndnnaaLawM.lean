/-
  The law's own helpers over matrices: how great, copy, compare, mark, look for the marks.
-/
import Derived.Test.YtejoapielndnnaaLawI
namespace Go.Proofs.Ytejoapielndnnaa
set_option linter.all false
open Go.RowKit

/-- a matrix: the prime, the numbers of rows and columns, the numbers row by row -/
structure Mx where
  P : Int
  R : Int
  C : Int
  D : List Int

def mxZero : Mx := ⟨0, 0, 0, []⟩

/-- a call returned this matrix, in new memory, and changed nothing that was there -/
def RetM (w : World) (m : Mx) (e : Ending) (w' : World) : Prop :=
  ∃ u, e = .returned (.agg #[.int .i64 m.P, .int .i64 m.R, .int .i64 m.C, u]) ∧ OwnI 3 w' w.heap.size w'.heap.size u m.D ∧ Below w.heap.size w w'
/-- a call returned this matrix and this bool .. -/
def RetMB (w : World) (m : Mx) (b : Bool) (e : Ending) (w' : World) : Prop :=
  ∃ u, e = .returned (.tuple #[.agg #[.int .i64 m.P, .int .i64 m.R, .int .i64 m.C, u], .bool b]) ∧ OwnI 3 w' w.heap.size w'.heap.size u m.D ∧ Below w.heap.size w w'

/-- what is left of a limit behind n elements; -1: none -/
def szI (left : Int) (n : Nat) : Int := if left < n then -1 else left - n

set_option maxHeartbeats 400000 in
theorem szIntS_any (p : Option Addr) (n cap : Nat) (left : Int) (w : World) (hn : (n : Int) ≤ 9223372036854775807) (h0 : 0 ≤ left) (h1 : left ≤ 1048576) :
    Calls Try.prog 27 #[.slice p n cap, .int .i64 left] w fun e w' => e = .returned (.int .i64 (szI left n)) ∧ w = w' := by
  go_enter Try.func27, Try.ntmps27
  by_cases h : left < n
  · have h' : left - n < 0 := by omega
    go_wp2
    go_ret
    exact ⟨ret_int (by unfold szI; rw [if_pos (by omega)]), rfl⟩
  · have h' : ¬ left - n < 0 := by omega
    go_wp2
    go_ret
    exact ⟨ret_int (by unfold szI; rw [if_neg (by omega)]), rfl⟩

set_option maxHeartbeats 400000 in
theorem szMatrix_any (P R C : Int) (p : Option Addr) (n cap : Nat) (left : Int) (w : World) (hn : (n : Int) ≤ 9223372036854775807) (h0 : 0 ≤ left) (h1 : left ≤ 1048576) :
    Calls Try.prog 7 #[.agg #[.int .i64 P, .int .i64 R, .int .i64 C, .slice p n cap], .int .i64 left] w fun e w' =>
      e = .returned (.int .i64 (szI left n)) ∧ Below w.heap.size w w' := by
  go_enter Try.func7, Try.ntmps7
  have hz : szI left n < 0 ∨ 0 ≤ szI left n := by omega
  have hz2 : szI left n = -1 ∨ 0 ≤ szI left n := by unfold szI; split <;> omega
  have hz3 : szI left n ≤ 1048576 := by unfold szI; split <;> omega
  rcases hz with hz | hz
  · have Hz := Lib.hid (show szI left n = -1 by omega)
    clear hz2
    go_wp2_with (go_at_call 27; refine (szIntS_any _ _ _ _ _ hn h0 h1).mono ?_; rintro e w' ⟨rfl, rfl⟩)
    go_ret
    exact ⟨ret_int Hz.out.symm, (Below.refl _ _).alloc (Nat.le_refl _) _⟩
  · clear hz2
    go_wp2_with (go_at_call 27; refine (szIntS_any _ _ _ _ _ hn h0 h1).mono ?_; rintro e w' ⟨rfl, rfl⟩)
    go_ret
    exact ⟨rfl, (Below.refl _ _).alloc (Nat.le_refl _) _⟩

set_option maxHeartbeats 400000 in
theorem toMatrix_any (P R C : Int) (d : Value) (xs : List Int) (w : World) (h : Ints w d xs) (hs : xs.length ≤ 1048576) :
    Calls Try.prog 9 #[.agg #[.int .i64 P, .int .i64 R, .int .i64 C, d]] w fun e w' =>
      ∃ u, e = .returned (.agg #[.int .i64 P, .int .i64 R, .int .i64 C, u]) ∧ OwnI 3 w' w.heap.size w'.heap.size u xs ∧ Below w.heap.size w w' := by
  go_enter Try.func9, Try.ntmps9
  have h3 : ∀ o, Ints (w.alloc o) d xs := fun o => h.below ((Below.refl _ _).alloc (Nat.le_refl _) _)
  go_wp2_with fail
  refine (toIntS_any _ _ _ (h.below (below_alloc3 _ _ _ _)) hs).mono ?_
  rintro e w1 ⟨u, rfl, hu, hb⟩
  have b1 : w1.heap[w.heap.size + 1]? = some (.cells #[.int .i64 0, .int .i64 0, .int .i64 0, .slice none 0 0] 27) := by
    rw [hb.block _ (by simp), heap_alloc_low _ _ (by simp)]; exact heap_alloc_at _ _ (by simp)
  have b2 : w1.heap[w.heap.size + 1 + 1]? = some (.cells #[.int .i64 P, .int .i64 R, .int .i64 C, .slice none 0 0] 27) := by
    rw [hb.block _ (by simp)]; exact heap_alloc_at _ _ (by simp)
  have hz : w.heap.size + 1 + 1 + 1 ≤ w1.heap.size := by have := hb.size; simpa using this
  have hbw : Below w.heap.size w w1 := (below_alloc3 _ _ _ _).trans (hb.mono (by simp; omega))
  have hu2 : OwnI 3 w1 (w.heap.size + 1 + 1 + 1) w1.heap.size u xs := hu.mono (by simp) (Nat.le_refl _)
  clear hb hu
  obtain ⟨c10, c11, c12, c13, c1f, hz1⟩ := blk4 b1
  obtain ⟨c20, c21, c22, c23, c2f, hz2⟩ := blk4 b2
  obtain ⟨up, ucap, rfl, _, _⟩ := hu2.shape
  clear b1 b2 h h3
  have Hu := Lib.hid hu2
  clear hu2
  go_wp2_with fail
  refine bodyPost_ret (v := .agg #[.int .i64 P, .int .i64 R, .int .i64 C, .slice up xs.length ucap]) (by simp [results, Try.results9, go_sem, c10, c11, c12, c13, hz1]) rfl ⟨_, rfl, ?_, ?_⟩
  · exact (((((Hu.out.setCell (.inl (by simp)) _).setCell (.inl (by simp)) _).setCell (.inl (by simp)) _).setCell (.inl (by simp)) _).setCell (.inl (by simp)) _).mono
      (by omega) (Nat.le_of_eq (by simp only [size_setCell]))
  · exact ((((hbw.setCell (by simp; omega) _).setCell (by simp) _).setCell (by simp) _).setCell (by simp) _).setCell (by simp) _

/-- two matrices are the same -/
def mxSame (P R C : Int) (xs : List Int) (P' R' C' : Int) (ys : List Int) : Bool := decide (P = P' ∧ R = R' ∧ C = C' ∧ xs = ys)

set_option maxHeartbeats 400000 in
/-- two matrices are compared: the prime, the numbers of rows and columns, then what they hold -/
theorem eqMatrix_any (P R C P' R' C' : Int) (d d' : Value) (xs ys : List Int) (w : World) (h : Ints w d xs) (h' : Ints w d' ys) :
    Calls Try.prog 12 #[.agg #[.int .i64 P, .int .i64 R, .int .i64 C, d], .agg #[.int .i64 P', .int .i64 R', .int .i64 C', d']] w fun e w' =>
      e = .returned (.bool (mxSame P R C xs P' R' C' ys)) ∧ Below w.heap.size w w' := by
  by_cases e1 : P = P'
  · subst e1
    by_cases e2 : R = R'
    · subst e2
      by_cases e3 : C = C'
      · subst e3
        have hn := fun o o' => eqIntS_any d d' xs ys ((w.alloc o).alloc o') (h.below (below_alloc2 w o o')) (h'.below (below_alloc2 w o o'))
        cases hx : decide (xs = ys) with
        | true =>
          rw [hx] at hn
          have Hn := Lib.hid hn
          have Hx := Lib.hid hx
          clear hn hx
          go_enter Try.func12, Try.ntmps12
          go_wp2_with (go_at_call 13; refine (Hn.out _ _).mono ?_; rintro e w' ⟨rfl, hq⟩)
          go_ret
          have := of_decide_eq_true Hx.out
          exact ⟨ret_bool (by simp [mxSame, this]), (below_alloc2 _ _ _).trans (hq.below _)⟩
        | false =>
          rw [hx] at hn
          have Hn := Lib.hid hn
          have Hx := Lib.hid hx
          clear hn hx
          go_enter Try.func12, Try.ntmps12
          go_wp2_with (go_at_call 13; refine (Hn.out _ _).mono ?_; rintro e w' ⟨rfl, hq⟩)
          go_ret
          have := of_decide_eq_false Hx.out
          exact ⟨ret_bool (by simp [mxSame, this]), (below_alloc2 _ _ _).trans (hq.below _)⟩
      · have hz : (C != C') = true := by simp [e3]
        go_enter Try.func12, Try.ntmps12
        go_wp2_with fail
        go_ret
        exact ⟨ret_bool (by simp [mxSame, e3]), below_alloc2 _ _ _⟩
    · have hz : (R != R') = true := by simp [e2]
      go_enter Try.func12, Try.ntmps12
      go_wp2_with fail
      go_ret
      exact ⟨ret_bool (by simp [mxSame, e2]), below_alloc2 _ _ _⟩
  · have hz : (P != P') = true := by simp [e1]
    go_enter Try.func12, Try.ntmps12
    go_wp2_with fail
    go_ret
    exact ⟨ret_bool (by simp [mxSame, e1]), below_alloc2 _ _ _⟩

theorem Frm.below_left {lo hi : Nat} {a b c : World} (h : Below a.heap.size a b) (k : Frm lo hi b c) : Frm lo hi a c := (Frm.of_below h lo hi).trans k

theorem heldI_neg (xs : List Int) (m : Int) (h0 : 0 ≤ m) : heldI xs m = -1 ∨ 0 ≤ heldI xs m := by
  unfold heldI; split <;> omega
theorem heldI_le (xs : List Int) (m : Int) (h0 : 0 ≤ m) : heldI xs m ≤ m + xs.length := by
  unfold heldI; split <;> omega

theorem eqIntS_same (v1 v2 : Value) (xs : List Int) (w : World) (h1 : Ints w v1 xs) (h2 : Ints w v2 xs) :
    Calls Try.prog 13 #[v1, v2] w fun e w' => e = .returned (.bool true) ∧ Below w.heap.size w w' :=
  (eqIntS_any v1 v2 xs xs w h1 h2).mono fun e w' ⟨he, hq⟩ => ⟨by rw [he]; simp, hq.below _⟩
theorem eqMatrix_same (P R C : Int) (d d' : Value) (xs : List Int) (w : World) (h : Ints w d xs) (h' : Ints w d' xs) :
    Calls Try.prog 12 #[.agg #[.int .i64 P, .int .i64 R, .int .i64 C, d], .agg #[.int .i64 P, .int .i64 R, .int .i64 C, d']] w fun e w' =>
      e = .returned (.bool true) ∧ Below w.heap.size w w' :=
  (eqMatrix_any P R C P R C d d' xs xs w h h').mono fun e w' ⟨he, hq⟩ => ⟨by rw [he]; simp [mxSame], hq⟩
theorem heldIntS_runs (v : Value) (n : Nat) (m : Int) (w : World) (h : Ints w v (runs m n)) (h0 : 0 ≤ m) (h1 : m + n ≤ 1000000000000) :
    Calls Try.prog 45 #[v, .int .i64 m] w fun e w' => e = .returned (.int .i64 (m + n)) ∧ Below w.heap.size w w' :=
  (heldIntS_any v _ m w h h0 (by rw [length_runs]; exact h1)).mono fun e w' ⟨he, hq⟩ => ⟨by rw [he, heldI_runs], hq.below _⟩
theorem szMatrix_ok (P R C : Int) (p : Option Addr) (n cap : Nat) (left : Int) (w : World) (hn : (n : Int) ≤ left) (h0 : 0 ≤ left) (h1 : left ≤ 1048576) :
    Calls Try.prog 7 #[.agg #[.int .i64 P, .int .i64 R, .int .i64 C, .slice p n cap], .int .i64 left] w fun e w' => e = .returned (.int .i64 (left - n)) ∧ Below w.heap.size w w' :=
  (szMatrix_any P R C p n cap left w (by omega) h0 h1).mono fun e w' ⟨he, hq⟩ => ⟨by rw [he, szI, if_neg (by omega)], hq⟩
theorem szMatrix_big (P R C : Int) (p : Option Addr) (n cap : Nat) (left : Int) (w : World) (hm : (n : Int) ≤ 9223372036854775807) (hn : left < (n : Int)) (h0 : 0 ≤ left) (h1 : left ≤ 1048576) :
    Calls Try.prog 7 #[.agg #[.int .i64 P, .int .i64 R, .int .i64 C, .slice p n cap], .int .i64 left] w fun e w' => e = .returned (.int .i64 (-1)) ∧ Below w.heap.size w w' :=
  (szMatrix_any P R C p n cap left w hm h0 h1).mono fun e w' ⟨he, hq⟩ => ⟨by rw [he, szI, if_pos hn], hq⟩
theorem Frm.blk {lo hi : Nat} {w w' : World} {b : Nat} {o : Obj} (hf : Frm lo hi w w') (h : w.heap[b]? = some o) (ho : b < lo ∨ hi ≤ b) : w'.heap[b]? = some o := by
  rw [hf.block b (blk_lt h) ho]; exact h
theorem OwnI.lohi {T : TypeId} {w : World} {lo hi : Nat} {v : Value} {xs : List Int} (h : OwnI T w lo hi v xs) : xs.length ≤ maxLen := by
  obtain ⟨p, cap, _, h1, h2⟩ := h.shape
  omega

end Go.Proofs.Ytejoapielndnnaa
