/-
  A shape in a box, on both sides.
-/
import Derived.Test.YtejoapielndnnaaShape
namespace Go.Proofs.Ytejoapielndnnaa
set_option linter.all false
open Go.RowKit

/-- a shape in the box of r rows and c - r columns -/
def bxOk (xs : List Int) (r c : Nat) : Bool := shOk xs && decide (xs.length ≤ r) && decide (xs.getD 0 0 ≤ (c : Int) - (r : Int))
theorem bx_no1 {xs : List Int} {r c : Nat} (h : shOk xs = false) : bxOk xs r c = false := by simp [bxOk, h]
theorem bx_no2 {xs : List Int} {r c : Nat} (h : ¬ xs.length ≤ r) : bxOk xs r c = false := by simp [bxOk, h]
theorem bx_end {xs : List Int} {r c : Nat} (h : shOk xs = true) (h2 : xs.length ≤ r) : bxOk xs r c = decide (xs.getD 0 0 ≤ (c : Int) - (r : Int)) := by simp only [bxOk, h, h2, decide_true, Bool.and_true, Bool.true_and]

set_option maxRecDepth 100000 in
set_option maxHeartbeats 1000000 in
theorem l4Box_any (v : Value) (xs : List Int) (r c : Nat) (w : World) (h : Ints w v xs) (hrc : r ≤ c) (hc0 : 1 ≤ c) (hc7 : c ≤ 7) :
    Calls Try.prog 54 #[v, .int .i64 (r : Int), .int .i64 (c : Int)] w fun e w' => e = .returned (.bool (bxOk xs r c)) ∧ Qt w w' := by
  have Hd := Lib.hid h
  obtain ⟨p, cap, rfl, ⟨hx1, hx2⟩, _⟩ := h
  unfold maxLen at hx2
  cases hs : shOk xs with
  | false =>
    rw [bx_no1 hs]
    have Hs := Lib.hid hs
    clear hs
    go_enter Try.func54, Try.ntmps54
    go_wp2_with fail
    refine (l1In_yes _ _ _ _ (by omega)).mono ?_
    rintro e w1 ⟨rfl, rfl⟩
    go_wp2_with fail
    refine (l1In_yes _ _ _ _ (by omega)).mono ?_
    rintro e w1 ⟨rfl, rfl⟩
    go_wp2_with fail
    refine (specIsShape_any _ xs _ Hd.out).mono ?_
    rintro e w2 ⟨rfl, hq2⟩
    rw [Hs.out]
    go_wp2_with fail
    go_ret
    exact ⟨rfl, hq2⟩
  | true =>
  have Hs := Lib.hid hs
  by_cases hl : xs.length ≤ r
  case neg =>
    rw [bx_no2 hl]
    have hl1 : ¬ (xs.length : Int) ≤ (r : Int) := by omega
    clear hs hl
    go_enter Try.func54, Try.ntmps54
    go_wp2_with fail
    refine (l1In_yes _ _ _ _ (by omega)).mono ?_
    rintro e w1 ⟨rfl, rfl⟩
    go_wp2_with fail
    refine (l1In_yes _ _ _ _ (by omega)).mono ?_
    rintro e w1 ⟨rfl, rfl⟩
    go_wp2_with fail
    refine (specIsShape_any _ xs _ Hd.out).mono ?_
    rintro e w2 ⟨rfl, hq2⟩
    rw [Hs.out]
    go_wp2_with fail
    go_ret
    exact ⟨rfl, hq2⟩
  rw [bx_end hs hl]
  have hl1 : (xs.length : Int) ≤ (r : Int) := by omega
  obtain ⟨s, hs0⟩ : ∃ s, s = xs.getD 0 0 := ⟨_, rfl⟩
  rw [← hs0]
  have Hs0 := Lib.hid hs0
  clear hs hl hs0
  by_cases hsc : s ≤ (c : Int) - (r : Int)
  · have hd : decide (s ≤ (c : Int) - (r : Int)) = true := decide_eq_true hsc
    rw [hd]
    clear hd
    go_enter Try.func54, Try.ntmps54
    go_wp2_with fail
    refine (l1In_yes _ _ _ _ (by omega)).mono ?_
    rintro e w1 ⟨rfl, rfl⟩
    go_wp2_with fail
    refine (l1In_yes _ _ _ _ (by omega)).mono ?_
    rintro e w1 ⟨rfl, rfl⟩
    go_wp2_with fail
    refine (specIsShape_any _ xs _ Hd.out).mono ?_
    rintro e w2 ⟨rfl, hq2⟩
    rw [Hs.out]
    go_wp2_with fail
    refine (l4At_any _ xs 0 _ (Hd.out.qt hq2) (by omega)).mono ?_
    rintro e w3 ⟨rfl, hq3⟩
    rw [← Hs0.out]
    go_wp2_with fail
    go_ret
    exact ⟨rfl, hq2.trans hq3⟩
  · have hd : decide (s ≤ (c : Int) - (r : Int)) = false := decide_eq_false hsc
    rw [hd]
    clear hd
    go_enter Try.func54, Try.ntmps54
    go_wp2_with fail
    refine (l1In_yes _ _ _ _ (by omega)).mono ?_
    rintro e w1 ⟨rfl, rfl⟩
    go_wp2_with fail
    refine (l1In_yes _ _ _ _ (by omega)).mono ?_
    rintro e w1 ⟨rfl, rfl⟩
    go_wp2_with fail
    refine (specIsShape_any _ xs _ Hd.out).mono ?_
    rintro e w2 ⟨rfl, hq2⟩
    rw [Hs.out]
    go_wp2_with fail
    refine (l4At_any _ xs 0 _ (Hd.out.qt hq2) (by omega)).mono ?_
    rintro e w3 ⟨rfl, hq3⟩
    rw [← Hs0.out]
    go_wp2_with fail
    go_ret
    exact ⟨ret_bool (decide_eq_false (by omega)), hq2.trans hq3⟩

set_option maxHeartbeats 400000 in
theorem isBox_yes (r c : Nat) (w : World) (hrc : r ≤ c) (hc0 : 1 ≤ c) (hc7 : c ≤ 7) :
    Calls Try.prog 82 #[.int .i64 (r : Int), .int .i64 (c : Int)] w fun e w' => e = .returned (.bool true) ∧ w = w' := by
  have h1 : (1 : Int) ≤ (c : Int) := by omega
  have h2 : (c : Int) ≤ 7 := by omega
  have h3 : (0 : Int) ≤ (r : Int) := by omega
  have h4 : (r : Int) ≤ (c : Int) := by omega
  have hs : ∀ w, Calls Try.prog 70 #[.int .i64 (c : Int)] w fun e w' => e = .returned (.bool true) ∧ w = w' := fun w => by
    go_enter Try.func70, Try.ntmps70
    go_wp2_with fail
    go_ret
    exact ⟨rfl, rfl⟩
  go_enter Try.func82, Try.ntmps82
  go_wp2_with fail
  refine (hs w).mono ?_
  rintro e w1 ⟨rfl, rfl⟩
  go_wp2_with fail
  go_ret
  exact ⟨rfl, rfl⟩

set_option maxRecDepth 100000 in
set_option maxHeartbeats 1000000 in
theorem IsInBox_any (v : Value) (xs : List Int) (r c : Nat) (w : World) (h : Ints w v xs) (hrc : r ≤ c) (hc0 : 1 ≤ c) (hc7 : c ≤ 7) :
    Calls Try.prog 57 #[v, .int .i64 (r : Int), .int .i64 (c : Int)] w fun e w' => e = .returned (.bool (bxOk xs r c)) ∧ Qt w w' := by
  have Hd := Lib.hid h
  obtain ⟨p, cap, rfl, ⟨hx1, hx2⟩, _⟩ := h
  unfold maxLen at hx2
  cases hs : shOk xs with
  | false =>
    rw [bx_no1 hs]
    have Hs := Lib.hid hs
    clear hs
    go_enter Try.func57, Try.ntmps57
    go_wp2_with fail
    refine (isBox_yes _ _ _ hrc hc0 hc7).mono ?_
    rintro e w1 ⟨rfl, rfl⟩
    go_wp2_with fail
    refine (implIsShape_any _ xs _ Hd.out).mono ?_
    rintro e w2 ⟨rfl, hq2⟩
    rw [Hs.out]
    go_wp2_with fail
    go_ret
    exact ⟨rfl, hq2⟩
  | true =>
  have Hs := Lib.hid hs
  by_cases hl : xs.length ≤ r
  case neg =>
    rw [bx_no2 hl]
    have hl1 : ¬ (xs.length : Int) ≤ (r : Int) := by omega
    clear hs hl
    go_enter Try.func57, Try.ntmps57
    go_wp2_with fail
    refine (isBox_yes _ _ _ hrc hc0 hc7).mono ?_
    rintro e w1 ⟨rfl, rfl⟩
    go_wp2_with fail
    refine (implIsShape_any _ xs _ Hd.out).mono ?_
    rintro e w2 ⟨rfl, hq2⟩
    rw [Hs.out]
    go_wp2_with fail
    go_ret
    exact ⟨rfl, hq2⟩
  rw [bx_end hs hl]
  have hl1 : (xs.length : Int) ≤ (r : Int) := by omega
  obtain ⟨s, hs0⟩ : ∃ s, s = xs.getD 0 0 := ⟨_, rfl⟩
  rw [← hs0]
  have Hs0 := Lib.hid hs0
  clear hs hl hs0
  by_cases hsc : s ≤ (c : Int) - (r : Int)
  · have hd : decide (s ≤ (c : Int) - (r : Int)) = true := decide_eq_true hsc
    rw [hd]
    clear hd
    go_enter Try.func57, Try.ntmps57
    go_wp2_with fail
    refine (isBox_yes _ _ _ hrc hc0 hc7).mono ?_
    rintro e w1 ⟨rfl, rfl⟩
    go_wp2_with fail
    refine (implIsShape_any _ xs _ Hd.out).mono ?_
    rintro e w2 ⟨rfl, hq2⟩
    rw [Hs.out]
    go_wp2_with fail
    refine (rowOf_any _ xs 0 _ (Hd.out.qt hq2) (by omega)).mono ?_
    rintro e w3 ⟨rfl, hq3⟩
    rw [← Hs0.out]
    go_wp2_with fail
    go_ret
    exact ⟨rfl, hq2.trans hq3⟩
  · have hd : decide (s ≤ (c : Int) - (r : Int)) = false := decide_eq_false hsc
    rw [hd]
    clear hd
    go_enter Try.func57, Try.ntmps57
    go_wp2_with fail
    refine (isBox_yes _ _ _ hrc hc0 hc7).mono ?_
    rintro e w1 ⟨rfl, rfl⟩
    go_wp2_with fail
    refine (implIsShape_any _ xs _ Hd.out).mono ?_
    rintro e w2 ⟨rfl, hq2⟩
    rw [Hs.out]
    go_wp2_with fail
    refine (rowOf_any _ xs 0 _ (Hd.out.qt hq2) (by omega)).mono ?_
    rintro e w3 ⟨rfl, hq3⟩
    rw [← Hs0.out]
    go_wp2_with fail
    go_ret
    exact ⟨ret_bool (decide_eq_false (by omega)), hq2.trans hq3⟩

end Go.Proofs.Ytejoapielndnnaa
