/-
  What the program asks of numbers; its exchange of two places; the search among permutations.
-/
import Derived.Test.YtajilmfaconjbaaGkS2
import Derived.Test.YtajilmfaconjbaaContains
import Derived.Test.YtajilmfaconjbaaLines
import Derived.Test.YtajilmfaconjbaaLex
import Derived.BigRegion
namespace Go.Proofs.Ytajilmfaconjbaa
set_option linter.all false
open Go.RowKit

set_option maxRecDepth 100000 in
set_option maxHeartbeats 2000000 in
theorem shiftsOk_any (N : Int) (v : Value) (y : List Int) (w : World) (h : Ints w v y) :
    Calls Try.prog 54 #[v, .int .i64 N] w fun e w' => e = .returned (.bool (shiftB N y)) ∧ w = w' := by
  obtain ⟨p, cap, rfl, ⟨hx1, hx⟩, hxc⟩ := h
  unfold maxLen at hx
  go_enter Try.func54, Try.ntmps54
  go_wp2_with fail
  go_loopg [6, 9] y.length (fun g s6 s9 wr => ∃ k : Nat, k ≤ y.length ∧ g = y.length - k ∧ s9 = .int .i64 k ∧ w = wr ∧ Hid (∀ j, j < k → -9 ≤ y.getD j 0 ∧ y.getD j 0 ≤ 9))
  case atStart => exact ⟨0, Nat.zero_le _, rfl, rfl, rfl, Lib.hid fun j hj => absurd hj (Nat.not_lt_zero _)⟩
  case round =>
    obtain ⟨k, hk, rfl, rfl, rfl, hp⟩ := hrel
    by_cases hlt : k < y.length
    · obtain ⟨b, off, rfl, hc⟩ := hxc (by omega)
      obtain ⟨x, hx'⟩ : ∃ x, x = y.getD k 0 := ⟨_, rfl⟩
      have c1 := hc k hlt
      unfold iv at c1
      rw [← hx'] at c1
      have Hx := Lib.hid hx'
      have hk1 : (k : Int) < (y.length : Int) := by omega
      clear hx' hc hxc
      have bad : ¬ (-9 ≤ x ∧ x ≤ 9) → shiftB N y = false := fun hr => by
        unfold shiftB
        rw [decide_eq_false (show ¬ ∀ x ∈ y, -9 ≤ x ∧ x ≤ 9 from fun e => hr (by rw [Hx.out]; exact e _ (getD_mem hlt))), Bool.and_false]
      have Bad := Lib.hid bad
      clear bad
      by_cases h1 : x < -9
      · go_wp2_with fail
        go_ret
        exact ⟨ret_bool (Bad.out (by omega)).symm, rfl⟩
      by_cases h2 : 9 < x
      · go_wp2_with fail
        go_ret
        exact ⟨ret_bool (Bad.out (by omega)).symm, rfl⟩
      go_wp2_with fail
      go_roundg (y.length - (k + 1))
      case measure => omega
      case rel =>
        refine ⟨k + 1, by omega, rfl, by go_num, rfl, Lib.hid fun j hj => ?_⟩
        by_cases e : j = k
        · subst e; rw [← Hx.out]; omega
        · exact hp.out j (by omega)
    · have hk1 : ¬ (k : Int) < (y.length : Int) := by omega
      have ha : decide (∀ x ∈ y, -9 ≤ x ∧ x ≤ 9) = true := decide_eq_true (all_of_getD fun j hj => hp.out j (by omega))
      have Ha := Lib.hid ha
      clear ha
      by_cases hN : (y.length : Int) = N
      · go_wp2_with fail
        go_ret
        exact ⟨ret_bool (by unfold shiftB; rw [Ha.out, decide_eq_true hN]; rfl), rfl⟩
      · go_wp2_with fail
        go_ret
        exact ⟨ret_bool (by unfold shiftB; simp [hN]), rfl⟩

theorem nm_shift {N : Int} {y : List Int} (h1 : 1 ≤ N) (h2 : N ≤ 5) : nmOk N y = shiftB N y := by
  unfold nmOk shiftB
  rw [decide_eq_true h1, decide_eq_true h2]; simp

set_option maxRecDepth 100000 in
set_option maxHeartbeats 2000000 in
theorem weightsOk_any (N : Int) (v : Value) (y : List Int) (w : World) (h : Ints w v y) :
    Calls Try.prog 24 #[.int .i64 N, v] w fun e w' => e = .returned (.bool (apOk N y)) ∧ Qt w w' := by
  have Hh := Lib.hid h
  obtain ⟨p, cap, rfl, ⟨hx1, hx⟩, hxc⟩ := h
  unfold maxLen at hx
  go_enter Try.func24, Try.ntmps24
  by_cases hN1 : N < 1
  · go_wp2_with fail
    go_ret
    exact ⟨ret_bool (ap_no1 (nm_no1 (by omega))).symm, Qt.refl _⟩
  by_cases hN4 : 4 < N
  · go_wp2_with fail
    go_ret
    exact ⟨ret_bool (ap_no2 (by omega)).symm, Qt.refl _⟩
  go_wp2_with fail
  refine (shiftsOk_any N _ y _ Hh.out).mono ?_
  rintro e w1 ⟨rfl, rfl⟩
  cases hs : shiftB N y with
  | false =>
    go_wp2_with fail
    go_ret
    exact ⟨ret_bool (ap_no1 (by rw [nm_shift (by omega) (by omega), hs])).symm, Qt.refl _⟩
  | true =>
  have hn : nmOk N y = true := by rw [nm_shift (by omega) (by omega), hs]
  obtain ⟨n, rfl, hn1, hn5, hyl, _⟩ := nm_facts hn
  have Hn := Lib.hid hn
  have Hyl := Lib.hid hyl
  have hle : n ≤ cap := by omega
  rw [hyl] at Hh hxc ⊢
  clear hn hyl hs
  go_wp2_with fail
  go_loopg [5, 6, 21] n (fun g s5 s6 s21 wr => ∃ k : Nat, k ≤ n ∧ g = n - k ∧ s21 = .int .i64 k ∧ Qt w wr ∧ Hid (∀ j, j < k → ¬ y.getD j 0 ∈ y.take j))
  case atStart => exact ⟨0, Nat.zero_le _, rfl, rfl, Qt.refl _, Lib.hid fun j hj => absurd hj (Nat.not_lt_zero _)⟩
  case round =>
    obtain ⟨k, hk, rfl, rfl, hq, hp⟩ := hrel
    by_cases hlt : k < n
    · obtain ⟨b, off, rfl, hc⟩ := hxc (by omega)
      obtain ⟨x, hx'⟩ : ∃ x, x = y.getD k 0 := ⟨_, rfl⟩
      have c1 := hq.cell (hc k hlt)
      unfold iv at c1
      rw [← hx'] at c1
      have Hx := Lib.hid hx'
      have hk1 : (k : Int) < (n : Int) := by omega
      have hk2 : (k : Int) ≤ (cap : Int) := by omega
      have HI := Lib.hid (show Ints wr (.slice (some ⟨b, off, none⟩) k cap) (y.take k) by
        have := Hh.out
        rw [← Hyl.out] at this
        exact (ints_takeP2 this (by rw [Hyl.out]; omega)).qt hq)
      obtain ⟨bb, hbb⟩ : ∃ bb, bb = decide (x ∈ y.take k) := ⟨_, rfl⟩
      have Hbb := Lib.hid hbb
      clear hx' hc hxc hbb
      go_wp2_with fail
      refine (contains_any _ (y.take k) x _ HI.out).mono ?_
      rintro e w2 ⟨rfl, hq2⟩
      rw [← Hbb.out]
      have Hq2 := Lib.hid (hq.trans hq2)
      clear hq2 hq
      cases bb with
      | true =>
        go_wp2_with fail
        go_ret
        exact ⟨ret_bool (ap_no3 (k := k) (by rw [Hyl.out]; exact hlt) (by rw [← Hx.out]; exact of_decide_eq_true Hbb.out.symm)).symm, Hq2.out⟩
      | false =>
        go_wp2_with fail
        go_roundg (n - (k + 1))
        case measure => omega
        case rel =>
          refine ⟨k + 1, by omega, rfl, by go_num, Hq2.out, Lib.hid fun j hj => ?_⟩
          by_cases e : j = k
          · subst e; rw [← Hx.out]; exact of_decide_eq_false Hbb.out.symm
          · exact hp.out j (by omega)
    · have hk1 : ¬ (k : Int) < (n : Int) := by omega
      go_wp2_with fail
      go_ret
      exact ⟨ret_bool (ap_yes Hn.out (by omega) fun j hj => hp.out j (by have := Hyl.out; omega)).symm, hq⟩

set_option maxRecDepth 100000 in
set_option maxHeartbeats 1000000 in
theorem exchanged_any (v : Value) (xs : List Int) (i j : Nat) (w : World) (h : Ints w v xs) (hi : i < xs.length) (hj : j < xs.length) (hij : i ≠ j) (hl : xs.length ≤ 1000) :
    Calls Try.prog 27 #[v, .int .i64 (i : Int), .int .i64 (j : Int)] w (RetI w (swapL xs i j)) := by
  have Hh := Lib.hid h
  obtain ⟨p, cap, rfl, ⟨hx1, hx⟩, hxc⟩ := h
  unfold maxLen at hx
  clear hxc
  go_enter Try.func27, Try.ntmps27
  go_wp2_with fail
  refine (clone_any _ xs _ Hh.out (by omega)).mono ?_
  rintro e w1 ⟨u, rfl, ho, hb⟩
  have hofn := ho.fn
  obtain ⟨pu, ku, rfl, hku, hku2⟩ := ho.shape
  unfold maxLen at hku2
  obtain ⟨g, rfl, hg1, hg2, hg3⟩ := hofn.at_ (by omega)
  obtain ⟨x, hx'⟩ : ∃ x, x = xs.getD i 0 := ⟨_, rfl⟩
  obtain ⟨y, hy'⟩ : ∃ y, y = xs.getD j 0 := ⟨_, rfl⟩
  have f1 := hofn.frozen i
  have f2 := hofn.frozen j
  have d1 := hofn.cell hi
  have d2 := hofn.cell hj
  unfold iv at d1 d2
  rw [← hx'] at d1
  rw [← hy'] at d2
  obtain ⟨z, d3⟩ : ∃ z, (w1.setCell ⟨g, i, none⟩ (.int .i64 y)).cell? ⟨g, j, none⟩ = some z := ⟨_, (hofn.set i (.int .i64 y)).cell hj⟩
  have d3' : (w1.drew.setCell ⟨g, i, none⟩ (.int .i64 y)).cell? ⟨g, j, none⟩ = some z := d3
  obtain ⟨n, hn⟩ : ∃ n, n = xs.length := ⟨_, rfl⟩
  have Hn := Lib.hid hn
  have Ho := Lib.hid ho
  have Hb := Lib.hid hb
  have Hx := Lib.hid hx'
  have Hy := Lib.hid hy'
  have hi2 : (i : Int) < (n : Int) := by omega
  have hj2 : (j : Int) < (n : Int) := by omega
  rw [← hn] at hx1 hku hi hj ⊢
  clear hofn ho hb hn hx' hy'
  go_wp2_with fail
  have hji : j ≠ i := fun e => hij e.symm
  go_region
  go_wp2_with fail
  go_ret
  refine ⟨_, rfl, ?_, ((Hb.out.setCell (p := ⟨g, i, none⟩) hg1 _).setCell (p := ⟨g, j, none⟩) hg1 _).drew⟩
  unfold swapL
  rw [← Hx.out, ← Hy.out]
  have o1 := (Ho.out.setG (by rw [← Hn.out]; exact hi) y).setG (t := j) (by rw [List.length_set, ← Hn.out]; exact hj) x
  rw [← Hn.out] at o1
  have := o1.mono (Nat.le_refl _) (show w1.heap.size ≤ ((w1.setCell ⟨g, i, none⟩ (.int .i64 y)).setCell ⟨g, j, none⟩ (.int .i64 x)).heap.size by simp)
  exact this.below (Below.refl _ _).drew

end Go.Proofs.Ytajilmfaconjbaa
