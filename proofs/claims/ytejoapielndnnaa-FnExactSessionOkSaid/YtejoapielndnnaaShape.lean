/-
  IsShape, and a shape in a box, on both sides.
-/
import Derived.Test.YtejoapielndnnaaMok
import Derived.Test.YtejoapielndnnaaHeld
namespace Go.Proofs.Ytejoapielndnnaa
set_option linter.all false
open Go.RowKit

def shAt (xs : List Int) (j : Nat) : Prop := 1 ≤ xs.getD j 0 ∧ xs.getD j 0 ≤ 16 ∧ (0 < j → xs.getD j 0 ≤ xs.getD (j - 1) 0)
instance (xs : List Int) (j : Nat) : Decidable (shAt xs j) := by unfold shAt; exact inferInstance
/-- numbers from 1 to 16, at most 16 of them, that do not grow -/
def shOk (xs : List Int) : Bool := decide (xs.length ≤ 16 ∧ ∀ j, j < xs.length → shAt xs j)
theorem shOk_no {xs : List Int} {j : Nat} (hj : j < xs.length) (h : ¬ shAt xs j) : shOk xs = false := by
  unfold shOk
  exact decide_eq_false fun e => h (e.2 j hj)
theorem shOk_len {xs : List Int} (h : ¬ xs.length ≤ 16) : shOk xs = false := by
  unfold shOk
  exact decide_eq_false fun e => h e.1
theorem shOk_yes {xs : List Int} (h : xs.length ≤ 16) (hj : ∀ j, j < xs.length → shAt xs j) : shOk xs = true := by
  unfold shOk
  exact decide_eq_true ⟨h, hj⟩
theorem shOk_facts {xs : List Int} (h : shOk xs = true) : xs.length ≤ 16 ∧ ∀ j, j < xs.length → shAt xs j := by
  unfold shOk at h
  exact of_decide_eq_true h

set_option maxRecDepth 100000 in
set_option maxHeartbeats 2000000 in
theorem specIsShape_any (v : Value) (xs : List Int) (w : World) (h : Ints w v xs) :
    Calls Try.prog 77 #[v] w fun e w' => e = .returned (.bool (shOk xs)) ∧ Qt w w' := by
  obtain ⟨p, cap, rfl, ⟨hx1, hx2⟩, hxc⟩ := h
  unfold maxLen at hx2
  by_cases hl : xs.length ≤ 16
  case neg =>
    rw [shOk_len hl]
    have e1 : (16 : Int) < (xs.length : Int) := by omega
    go_enter Try.func77, Try.ntmps77
    go_wp2_with fail
    go_ret
    exact ⟨rfl, Qt.refl _⟩
  have e1 : ¬ (16 : Int) < (xs.length : Int) := by omega
  go_enter Try.func77, Try.ntmps77
  go_wp2_with fail
  clear e1
  go_loopg [3] xs.length (fun g i wr => ∃ k : Nat, k ≤ xs.length ∧ g = xs.length - k ∧ i = .int .i64 k ∧ Qt w wr ∧ Hid (∀ j, j < k → shAt xs j))
  case atStart => exact ⟨0, Nat.zero_le _, rfl, rfl, Qt.refl _, fun j hj => absurd hj (Nat.not_lt_zero _)⟩
  case round =>
    obtain ⟨k, hk, rfl, rfl, hq, hp⟩ := hrel
    by_cases hlt : k < xs.length
    · obtain ⟨b, off, rfl, hc⟩ := hxc (by omega)
      obtain ⟨x, hx⟩ : ∃ x, x = xs.getD k 0 := ⟨_, rfl⟩
      have c1 := hq.cell (hc k hlt)
      unfold iv at c1
      rw [← hx] at c1
      have Hx := Lib.hid hx
      have Hc := Lib.hid hc
      clear hx hc hxc
      have hk1 : (k : Int) < (xs.length : Int) := by omega
      by_cases hin : 1 ≤ x ∧ x ≤ 16
      · have Hin := Lib.hid hin
        clear hin
        by_cases hk0 : k = 0
        · subst hk0
          rw [Nat.add_zero] at c1
          go_wp2_with fail
          go_quiet (first
            | (go_at_call 68; exact quiet_same (l1In_yes _ _ _ _ Hin.out)))
          go_wp2_with fail
          go_roundg (xs.length - (0 + 1))
          case measure => omega
          case rel =>
            refine ⟨0 + 1, by omega, rfl, by go_num, hq.drewN _, fun j hj => ?_⟩
            obtain rfl : j = 0 := by omega
            exact ⟨by rw [← Hx.out]; exact Hin.out.1, by rw [← Hx.out]; exact Hin.out.2, fun h => absurd h (Nat.lt_irrefl _)⟩
        · obtain ⟨m, hm⟩ : ∃ m, m = k - 1 := ⟨_, rfl⟩
          have hkm : k = m + 1 := by omega
          obtain ⟨y, hy⟩ : ∃ y, y = xs.getD m 0 := ⟨_, rfl⟩
          have c2 := hq.cell (Hc.out m (by omega))
          unfold iv at c2
          rw [← hy] at c2
          have Hy := Lib.hid hy
          have hg0 : (0 : Int) < (k : Int) := by omega
          have hg1 : decide (0 < k) = true := decide_eq_true (by omega)
          have hm1 : m < xs.length := by omega
          have hm2 : (m : Int) < (xs.length : Int) := by omega
          have hm3 : (0 : Int) ≤ (m : Int) := by omega
          have Hkm := Lib.hid hkm
          have Hw := Lib.hid (show IntKind.i64.wrap ((k : Int) - 1) = (m : Int) by rw [k64 (by omega) (by omega)]; omega)
          clear hy hm hkm hk0
          have hw := Hw.out
          go_wp2_with fail
          go_quiet (first
            | (go_at_call 68; exact quiet_same (l1In_yes _ _ _ _ Hin.out)))
          clear hw
          by_cases hyx : y < x
          · go_wp2_with fail
            go_ret
            refine ⟨ret_bool (shOk_no hlt fun e => ?_).symm, hq.drewN _⟩
            have := e.2.2 (by have := Hkm.out; omega)
            rw [← Hx.out, show k - 1 = m by have := Hkm.out; omega, ← Hy.out] at this
            omega
          · go_wp2_with fail
            go_roundg (xs.length - (k + 1))
            case measure => omega
            case rel =>
              refine ⟨k + 1, by omega, rfl, by go_num, hq.drewN _, fun j hj => ?_⟩
              by_cases e : j = k
              · subst e
                exact ⟨by rw [← Hx.out]; exact Hin.out.1, by rw [← Hx.out]; exact Hin.out.2, fun _ => by rw [← Hx.out, show j - 1 = m by have := Hkm.out; omega, ← Hy.out]; omega⟩
              · exact hp.out j (by omega)
      · have Hin := Lib.hid hin
        clear hin
        go_wp2_with fail
        go_quiet (first
          | (go_at_call 68; exact quiet_same (l1In_no _ _ _ _ Hin.out)))
        go_wp2_with fail
        go_ret
        exact ⟨ret_bool (shOk_no hlt fun e => Hin.out ⟨by rw [Hx.out]; exact e.1, by rw [Hx.out]; exact e.2.1⟩).symm, hq.drewN _⟩
    · go_wp2_with fail
      go_ret
      exact ⟨ret_bool (shOk_yes hl fun j hj => hp.out j (by omega)).symm, hq⟩

set_option maxRecDepth 100000 in
set_option maxHeartbeats 2000000 in
theorem implIsShape_any (v : Value) (xs : List Int) (w : World) (h : Ints w v xs) :
    Calls Try.prog 83 #[v] w fun e w' => e = .returned (.bool (shOk xs)) ∧ Qt w w' := by
  obtain ⟨p, cap, rfl, ⟨hx1, hx2⟩, hxc⟩ := h
  unfold maxLen at hx2
  go_enter Try.func83, Try.ntmps83
  go_wp2_with fail
  go_loopg [3, 4, 7] xs.length (fun g s3 s4 i wr => ∃ k : Nat, k ≤ xs.length ∧ g = xs.length - k ∧ i = .int .i64 k ∧ Qt w wr ∧ Hid (∀ j, j < k → shAt xs j))
  case atStart => exact ⟨0, Nat.zero_le _, rfl, rfl, Qt.refl _, fun j hj => absurd hj (Nat.not_lt_zero _)⟩
  case round =>
    obtain ⟨k, hk, rfl, rfl, hq, hp⟩ := hrel
    by_cases hlt : k < xs.length
    · obtain ⟨b, off, rfl, hc⟩ := hxc (by omega)
      obtain ⟨x, hx⟩ : ∃ x, x = xs.getD k 0 := ⟨_, rfl⟩
      have c1 := hq.cell (hc k hlt)
      unfold iv at c1
      rw [← hx] at c1
      have Hx := Lib.hid hx
      have Hc := Lib.hid hc
      clear hx hc hxc
      have hk1 : (k : Int) < (xs.length : Int) := by omega
      by_cases hx1' : x < 1
      · go_wp2_with fail
        go_ret
        exact ⟨ret_bool (shOk_no hlt fun e => by have := e.1; rw [← Hx.out] at this; omega).symm, hq⟩
      by_cases hx16 : 16 < x
      · go_wp2_with fail
        go_ret
        exact ⟨ret_bool (shOk_no hlt fun e => by have := e.2.1; rw [← Hx.out] at this; omega).symm, hq⟩
      by_cases hk0 : k = 0
      · subst hk0
        rw [Nat.add_zero] at c1
        go_wp2_with fail
        go_roundg (xs.length - (0 + 1))
        case measure => omega
        case rel =>
          refine ⟨0 + 1, by omega, rfl, by go_num, hq, fun j hj => ?_⟩
          obtain rfl : j = 0 := by omega
          exact ⟨by rw [← Hx.out]; omega, by rw [← Hx.out]; omega, fun h => absurd h (Nat.lt_irrefl _)⟩
      · obtain ⟨m, hm⟩ : ∃ m, m = k - 1 := ⟨_, rfl⟩
        have hkm : k = m + 1 := by omega
        obtain ⟨y, hy⟩ : ∃ y, y = xs.getD m 0 := ⟨_, rfl⟩
        have c2 := hq.cell (Hc.out m (by omega))
        unfold iv at c2
        rw [← hy] at c2
        have Hy := Lib.hid hy
        have hg0 : (0 : Int) < (k : Int) := by omega
        have hm1 : m < xs.length := by omega
        have hm2 : (m : Int) < (xs.length : Int) := by omega
        have hm3 : (0 : Int) ≤ (m : Int) := by omega
        have Hkm := Lib.hid hkm
        have hw0 : (k : Int) - 1 = (m : Int) := by omega
        clear hy hm hkm hk0
        by_cases hyx : y < x
        · go_wp2_with fail
          go_ret
          refine ⟨ret_bool (shOk_no hlt fun e => ?_).symm, hq⟩
          have := e.2.2 (by have := Hkm.out; omega)
          rw [← Hx.out, show k - 1 = m by have := Hkm.out; omega, ← Hy.out] at this
          omega
        · go_wp2_with fail
          go_roundg (xs.length - (k + 1))
          case measure => omega
          case rel =>
            refine ⟨k + 1, by omega, rfl, by go_num, hq, fun j hj => ?_⟩
            by_cases e : j = k
            · subst e
              exact ⟨by rw [← Hx.out]; omega, by rw [← Hx.out]; omega, fun _ => by rw [← Hx.out, show j - 1 = m by have := Hkm.out; omega, ← Hy.out]; omega⟩
            · exact hp.out j (by omega)
    · by_cases hl : xs.length ≤ 16
      · have e1 : (xs.length : Int) ≤ 16 := by omega
        go_wp2_with fail
        go_ret
        exact ⟨ret_bool (by rw [shOk_yes hl fun j hj => hp.out j (by omega)]), hq⟩
      · have e1 : ¬ (xs.length : Int) ≤ 16 := by omega
        go_wp2_with fail
        go_ret
        exact ⟨ret_bool (by rw [shOk_len hl]), hq⟩

/-- a row of a shape, 0 behind the last -/
theorem l4At_any (v : Value) (xs : List Int) (i : Nat) (w : World) (h : Ints w v xs) (hi : i ≤ 1000000) :
    Calls Try.prog 78 #[v, .int .i64 (i : Int)] w fun e w' => e = .returned (.int .i64 (xs.getD i 0)) ∧ Qt w w' := by
  obtain ⟨p, cap, rfl, ⟨hx1, hx2⟩, hxc⟩ := h
  unfold maxLen at hx2
  by_cases hlt : i < xs.length
  · obtain ⟨b, off, rfl, hc⟩ := hxc (by omega)
    obtain ⟨x, hx⟩ : ∃ x, x = xs.getD i 0 := ⟨_, rfl⟩
    have c1 := hc i hlt
    unfold iv at c1
    rw [← hx] at c1 ⊢
    have hi1 : (i : Int) < (xs.length : Int) := by omega
    clear hx hc hxc
    go_enter Try.func78, Try.ntmps78
    go_wp2_with fail
    go_ret
    exact ⟨rfl, Qt.refl _⟩
  · have e : xs.getD i 0 = 0 := by simp [List.getD_eq_getElem?_getD, Nat.le_of_not_lt hlt]
    rw [e]
    have hi1 : ¬ (i : Int) < (xs.length : Int) := by omega
    go_enter Try.func78, Try.ntmps78
    go_wp2_with fail
    go_ret
    exact ⟨rfl, Qt.refl _⟩
theorem rowOf_any (v : Value) (xs : List Int) (i : Nat) (w : World) (h : Ints w v xs) (hi : i ≤ 1000000) :
    Calls Try.prog 84 #[v, .int .i64 (i : Int)] w fun e w' => e = .returned (.int .i64 (xs.getD i 0)) ∧ Qt w w' := by
  obtain ⟨p, cap, rfl, ⟨hx1, hx2⟩, hxc⟩ := h
  unfold maxLen at hx2
  by_cases hlt : i < xs.length
  · obtain ⟨b, off, rfl, hc⟩ := hxc (by omega)
    obtain ⟨x, hx⟩ : ∃ x, x = xs.getD i 0 := ⟨_, rfl⟩
    have c1 := hc i hlt
    unfold iv at c1
    rw [← hx] at c1 ⊢
    have hi1 : (i : Int) < (xs.length : Int) := by omega
    clear hx hc hxc
    go_enter Try.func84, Try.ntmps84
    go_wp2_with fail
    go_ret
    exact ⟨rfl, Qt.refl _⟩
  · have e : xs.getD i 0 = 0 := by simp [List.getD_eq_getElem?_getD, Nat.le_of_not_lt hlt]
    rw [e]
    have hi1 : ¬ (i : Int) < (xs.length : Int) := by omega
    go_enter Try.func84, Try.ntmps84
    go_wp2_with fail
    go_ret
    exact ⟨rfl, Qt.refl _⟩

end Go.Proofs.Ytejoapielndnnaa
