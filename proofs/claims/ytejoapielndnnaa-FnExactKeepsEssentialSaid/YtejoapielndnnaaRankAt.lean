/-
  l1Rank, RankAt: how many of the first r numbers of a permutation are less than c.
-/
import Derived.Test.YtejoapielndnnaaPerm
import Derived.Test.YtejoapielndnnaaPmat
namespace Go.Proofs.Ytejoapielndnnaa
set_option linter.all false
open Go.RowKit

theorem cell_kept {w w' : World} {a : Addr} {v : Value} (hb : Below w.heap.size w w') (h : w.cell? a = some v) : w'.cell? a = some v := by
  rw [hb.cell (World.block_lt_of_cell? _ _ h)]; exact h
def rkL (xs : List Int) (c : Int) : Nat → Nat
  | 0 => 0
  | r + 1 => rkL xs c r + if xs.getD r 0 < c then 1 else 0
theorem rkL_le (xs : List Int) (c : Int) : ∀ r, rkL xs c r ≤ r
  | 0 => Nat.le_refl _
  | r + 1 => by have := rkL_le xs c r; unfold rkL; split <;> omega

set_option maxRecDepth 100000 in
set_option maxHeartbeats 1000000 in
theorem l1Rank_any (v : Value) (xs : List Int) (r : Nat) (c : Int) (w : World) (h : Ints w v xs) (hr : r ≤ xs.length) (hx : xs.length ≤ 1000) :
    Calls Try.prog 31 #[v, .int .i64 (r : Int), .int .i64 c] w fun e w' => e = .returned (.int .i64 (rkL xs c r : Nat)) ∧ Qt w w' := by
  obtain ⟨p, cap, rfl, ⟨hx1, hx2⟩, hxc⟩ := h
  unfold maxLen at hx2
  have Hxc := Lib.hid hxc
  clear hxc
  go_enter Try.func31, Try.ntmps31
  go_wp2_with fail
  go_loopg [7, 8] r (fun g s7 s8 wr => ∃ (k n : Nat), k ≤ r ∧ g = r - k ∧ s8 = .int .i64 k ∧ s7 = .int .i64 n ∧ n ≤ k ∧ Hid (n = rkL xs c k) ∧ Qt w wr)
  case atStart => exact ⟨0, 0, Nat.zero_le _, rfl, rfl, rfl, Nat.le_refl _, rfl, Qt.refl _⟩
  case round =>
    obtain ⟨k, n, hk, rfl, rfl, rfl, hnk, hn, hq⟩ := hrel
    by_cases hlt : k < r
    · obtain ⟨b, off, rfl, hc⟩ := Hxc.out (by omega)
      have c1 := hq.cell (hc k (by omega))
      unfold iv at c1
      have hs : rkL xs c (k + 1) = rkL xs c k + if xs.getD k 0 < c then 1 else 0 := rfl
      generalize xs.getD k 0 = y at c1 hs
      have hkl : k < xs.length := by omega
      by_cases hy : y < c
      · rw [if_pos hy] at hs
        have Hs := Lib.hid hs
        clear hc hs
        go_wp2_with fail
        go_roundg (r - (k + 1))
        case measure => omega
        case rel => exact ⟨k + 1, n + 1, by omega, rfl, by go_num, by go_num, by omega, by unfold Hid; rw [Hs.out, ← hn.out], hq⟩
      · rw [if_neg hy] at hs
        have hy2 : decide (y < c) = false := decide_eq_false hy
        have Hs := Lib.hid hs
        clear hc hs
        go_wp2_with fail
        go_roundg (r - (k + 1))
        case measure => omega
        case rel => exact ⟨k + 1, n, by omega, rfl, by go_num, rfl, by omega, by unfold Hid; rw [Hs.out, ← hn.out, Nat.add_zero], hq⟩
    · obtain rfl : k = r := by omega
      go_wp2_with fail
      go_ret
      rw [← hn.out]
      exact ⟨rfl, hq⟩

set_option maxRecDepth 100000 in
set_option maxHeartbeats 2000000 in
theorem implRankAt_any (v : Value) (xs : List Int) (r c : Nat) (w : World) (h : Ints w v xs) (hp : permOk xs = true) (hr : r ≤ xs.length) (hc : c ≤ xs.length) (hx : xs.length ≤ 7) (h0 : 0 < xs.length) :
    Calls Try.prog 35 #[v, .int .i64 (r : Int), .int .i64 (c : Int)] w fun e w' => e = .returned (.int .i64 (rkL xs c r : Nat)) ∧ Below w.heap.size w w' := by
  have H := Lib.hid h
  have Hp := Lib.hid hp
  obtain ⟨p, cap, rfl, ⟨hx1, hx2⟩, hxc⟩ := h
  unfold maxLen at hx2
  obtain ⟨b, off, rfl, hcx⟩ := hxc h0
  have Hcx := Lib.hid hcx
  have t1 : decide ((r : Int) < 0) = false := decide_eq_false (by omega)
  have t2 : decide (xs.length < r) = false := decide_eq_false (by omega)
  have t3 : decide ((c : Int) < 0) = false := decide_eq_false (by omega)
  have t4 : decide (xs.length < c) = false := decide_eq_false (by omega)
  have hrk : (r : Int) ≤ (cap : Int) := by omega
  clear hxc hp hcx
  go_enter Try.func35, Try.ntmps35
  go_wp2_with fail
  refine (implIsPerm_b _ xs _ Hp.out _ H.out).mono ?_
  rintro e w1 ⟨rfl, hb⟩
  have Hb := Lib.hid hb
  clear hb
  go_wp2_with fail
  clear t1 t2 t3 t4
  go_loopg [7, 9, 37] r (fun g s7 s9 s37 wr => ∃ (k n : Nat), k ≤ r ∧ g = r - k ∧ s37 = .int .i64 k ∧ s7 = .int .i64 n ∧ n ≤ k ∧ Hid (n = rkL xs c k) ∧ Qt w1 wr)
  case atStart => exact ⟨0, 0, Nat.zero_le _, rfl, rfl, rfl, Nat.le_refl _, rfl, Qt.refl _⟩
  case round =>
    obtain ⟨k, n, hk, rfl, rfl, rfl, hnk, hn, hq⟩ := hrel
    by_cases hlt : k < r
    · have c1 := hq.cell (cell_kept Hb.out (Hcx.out k (by omega)))
      unfold iv at c1
      have hs : rkL xs c (k + 1) = rkL xs c k + if xs.getD k 0 < c then 1 else 0 := rfl
      generalize xs.getD k 0 = y at c1 hs
      by_cases hy : y < c
      · rw [if_pos hy] at hs
        have Hs := Lib.hid hs
        clear hs
        go_wp2_with fail
        go_roundg (r - (k + 1))
        case measure => omega
        case rel => exact ⟨k + 1, n + 1, by omega, rfl, by go_num, by go_num, by omega, by unfold Hid; rw [Hs.out, ← hn.out], hq⟩
      · rw [if_neg hy] at hs
        have hy2 : decide (y < (c : Int)) = false := decide_eq_false hy
        have Hs := Lib.hid hs
        clear hs
        go_wp2_with fail
        go_roundg (r - (k + 1))
        case measure => omega
        case rel => exact ⟨k + 1, n, by omega, rfl, by go_num, rfl, by omega, by unfold Hid; rw [Hs.out, ← hn.out, Nat.add_zero], hq⟩
    · obtain rfl : k = r := by omega
      go_wp2_with fail
      go_ret
      rw [← hn.out]
      exact ⟨rfl, Hb.out.trans (hq.below _)⟩

end Go.Proofs.Ytejoapielndnnaa
