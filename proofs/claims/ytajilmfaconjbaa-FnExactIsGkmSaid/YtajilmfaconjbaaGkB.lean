/-
  The search among lists of numbers that stand in their order: slices.BinarySearchFunc by slices.Compare.
-/
import Derived.Test.YtajilmfaconjbaaGkP
import Derived.Test.YtajilmfaconjbaaLex
namespace Go.Proofs.Ytajilmfaconjbaa
set_option linter.all false
open Go.RowKit

theorem ltL_ltB : ∀ xs ys, ltL xs ys = ltB xs ys
  | [], [] => rfl
  | [], _ :: _ => rfl
  | _ :: _, [] => rfl
  | x :: xs, y :: ys => by unfold ltL ltB; rw [ltL_ltB xs ys]
theorem cmpB_same : ∀ xs, cmpB xs xs = 0
  | [] => rfl
  | x :: xs => by unfold cmpB; rw [if_neg (by omega), if_neg (by omega)]; exact cmpB_same xs

set_option maxRecDepth 100000 in
set_option maxHeartbeats 2000000 in
theorem search_any (v u : Value) (rows : List (List Int)) (t : List Int) (k : Nat) (w : World) (h : RdII w v rows) (hu : Ints w u t) (hl : rows.length ≤ 1000) (hk : k < rows.length)
    (ht : rows.getD k [] = t) (ho : ∀ a, a < rows.length → ltB (rows.getD a []) t = decide (a < k)) :
    Calls Try.prog 26 #[v, u, .func (.func 28) #[] #[]] w fun e w' => e = .returned (.tuple #[.int .i64 (k : Int), .bool true]) ∧ w = w' := by
  obtain ⟨f, ⟨p, cap, rfl, ⟨hx1, hx⟩, hxc⟩, hf⟩ := h
  unfold maxLen at hx
  obtain ⟨n, hn⟩ : ∃ n, n = rows.length := ⟨_, rfl⟩
  obtain ⟨b, off, rfl, hc⟩ := hxc (by omega)
  rw [← hn] at hx1 hc hf hk ho hl ⊢
  have Hc := Lib.hid hc
  have Hf := Lib.hid hf
  have Ho := Lib.hid ho
  have Hu := Lib.hid hu
  have Ht := Lib.hid ht
  clear hxc hc hf ho hn hu ht
  go_enter Try.func26, Try.ntmps26
  go_wp2_with fail
  go_loopg [9, 10, 11] n (fun g s9 s10 s11 wr => ∃ i j : Nat, i ≤ k ∧ k ≤ j ∧ j ≤ n ∧ g = j - i ∧ s9 = .int .i64 (i : Int) ∧ s10 = .int .i64 (j : Int) ∧ w = wr)
  case atStart => exact ⟨0, n, Nat.zero_le _, by omega, Nat.le_refl _, rfl, rfl, rfl, rfl⟩
  case round =>
    obtain ⟨i, j, hik, hkj, hjn, rfl, rfl, rfl, rfl⟩ := hrel
    by_cases hij : i < j
    · have hiji : (i : Int) < (j : Int) := by omega
      obtain ⟨m, hm⟩ : ∃ m : Nat, m = (i + j) / 2 := ⟨_, rfl⟩
      have hmn : m < n := by omega
      have hmi : (m : Int) < (n : Int) := by omega
      have d1 := Hc.out m hmn
      have Hm := Lib.hid hm
      obtain ⟨z, hz⟩ : ∃ z, z = f m := ⟨_, rfl⟩
      have Hz := Lib.hid (show Ints w z (rows.getD m []) by rw [hz]; exact Hf.out m hmn)
      rw [← hz, hm] at d1
      have hmi2 : ((i : Int) + (j : Int)) / 2 < (n : Int) := by omega
      clear hm hz
      go_wp2_with fail
      refine (compare_any _ _ (rows.getD m []) t _ Hz.out Hu.out).mono ?_
      rintro e w' ⟨rfl, rfl⟩
      obtain ⟨c, hcc⟩ : ∃ c, c = cmpB (rows.getD m []) t := ⟨_, rfl⟩
      have hcl : c < 0 ↔ m < k := by
        have h1 := cmpB_lt (rows.getD m []) t
        rw [← hcc, Ho.out m hmn] at h1
        by_cases h2 : m < k
        · simp [h2] at h1
          exact ⟨fun _ => h2, fun _ => h1⟩
        · simp [h2] at h1
          exact ⟨fun h => absurd h (by omega), fun h => absurd h h2⟩
      rw [← hcc]
      clear hcc
      by_cases h2 : m < k
      · have h3 : c < 0 := hcl.2 h2
        go_wp2_with fail
        go_roundg (j - (m + 1))
        case measure => have := Hm.out; omega
        case rel => exact ⟨m + 1, j, by have := Hm.out; omega, hkj, hjn, rfl, by have := Hm.out; go_num, rfl, rfl⟩
      · have h3 : ¬ c < 0 := fun h => h2 (hcl.1 h)
        go_wp2_with fail
        go_roundg (m - i)
        case measure => have := Hm.out; omega
        case rel => exact ⟨i, m, hik, by omega, by have := Hm.out; omega, rfl, rfl, by have := Hm.out; congr 1; omega, rfl⟩
    · have hiji : ¬ (i : Int) < (j : Int) := by omega
      obtain rfl : i = k := by omega
      have hin : (i : Int) < (n : Int) := by omega
      have d1 := Hc.out i hk
      go_wp2_with fail
      refine (compare_any _ _ _ t _ (Hf.out i hk) Hu.out).mono ?_
      rintro e w' ⟨rfl, rfl⟩
      rw [Ht.out, cmpB_same]
      go_wp2_with fail
      go_ret2
      exact ⟨rfl, rfl⟩

end Go.Proofs.Ytajilmfaconjbaa
