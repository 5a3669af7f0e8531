/-
  Lists of numbers compared; permutations trimmed: both sides.
-/
import Derived.Test.YtajilmfaconjbaaPerm
import Derived.Test.YtajilmfaconjbaaL7Copy
import Derived.Test.YtajilmfaconjbaaLines
namespace Go.Proofs.Ytajilmfaconjbaa
set_option linter.all false
open Go.RowKit

/-- at the first difference, or a proper beginning first -/
def ltB : List Int → List Int → Bool
  | [], [] => false
  | [], _ :: _ => true
  | _ :: _, [] => false
  | x :: xs, y :: ys => if x < y then true else if y < x then false else ltB xs ys
def cmpB : List Int → List Int → Int
  | [], [] => 0
  | [], _ :: _ => -1
  | _ :: _, [] => 1
  | x :: xs, y :: ys => if x < y then -1 else if y < x then 1 else cmpB xs ys
theorem cmpB_lt : ∀ xs ys, decide (0 ≤ cmpB xs ys) = !ltB xs ys
  | [], [] => rfl
  | [], _ :: _ => rfl
  | _ :: _, [] => rfl
  | x :: xs, y :: ys => by
    unfold cmpB ltB
    by_cases h1 : x < y
    · simp [h1]
    · by_cases h2 : y < x
      · simp [h1, h2]
      · simp only [h1, h2, if_false]; exact cmpB_lt xs ys
theorem cmpB_cases : ∀ xs ys, cmpB xs ys = -1 ∨ cmpB xs ys = 0 ∨ cmpB xs ys = 1
  | [], [] => by simp [cmpB]
  | [], _ :: _ => by simp [cmpB]
  | _ :: _, [] => by simp [cmpB]
  | x :: xs, y :: ys => by
    unfold cmpB
    by_cases h1 : x < y
    · simp [h1]
    · by_cases h2 : y < x
      · simp [h1, h2]
      · simp only [h1, h2, if_false]; exact cmpB_cases xs ys
theorem drop_at {xs : List Int} {k : Nat} (h : k < xs.length) : xs.drop k = xs.getD k 0 :: xs.drop (k + 1) := by
  rw [List.drop_eq_getElem_cons h, List.getD_eq_getElem?_getD, List.getElem?_eq_getElem h]; rfl
theorem drop_end {xs : List Int} {k : Nat} (h : xs.length ≤ k) : xs.drop k = [] := List.drop_eq_nil_iff.2 h

/-- how many places are left when those at the end are struck that are not moved -/
def trimN (xs : List Int) : Nat → Nat
  | 0 => 0
  | n + 1 => if 1 ≤ n ∧ xs.getD n 0 = (n : Int) then trimN xs n else n + 1
theorem trimN_le (xs : List Int) : ∀ n, trimN xs n ≤ n
  | 0 => Nat.le_refl _
  | n + 1 => by
    unfold trimN
    split
    · exact Nat.le_trans (trimN_le xs n) (Nat.le_succ _)
    · exact Nat.le_refl _
def trimL (xs : List Int) : List Int := xs.take (trimN xs xs.length)
theorem trimL_length (xs : List Int) : (trimL xs).length = trimN xs xs.length := by
  unfold trimL; rw [List.length_take]; have := trimN_le xs xs.length; omega

/-- the first numbers of a list, as a slice -/
theorem ints_take2 {w : World} {p : Option Addr} {cap : Nat} {xs : List Int} (h : Ints w (.slice p xs.length cap) xs) {i : Nat} (hi : i ≤ xs.length) : Ints w (.slice p i cap) (xs.take i) := by
  obtain ⟨q, c, e, ⟨h1, h2⟩, h3⟩ := h
  injection e with e1 e2 e3
  subst e1 e3
  have hl : (xs.take i).length = i := by rw [List.length_take]; omega
  refine ⟨p, cap, by rw [hl], ⟨by omega, h2⟩, fun h0 => ?_⟩
  obtain ⟨b, off, hp, hx⟩ := h3 (by omega)
  refine ⟨b, off, hp, fun j hj => ?_⟩
  rw [hx j (by omega)]
  unfold iv
  rw [List.getD_eq_getElem?_getD, List.getD_eq_getElem?_getD, List.getElem?_take_of_lt (by omega)]

set_option maxRecDepth 100000 in
theorem isNaN_any (n : Int) (w : World) : Calls Try.prog 73 #[.int .i64 n] w fun e w' => e = .returned (.bool false) ∧ w = w' := by
  have h : (n != n) = false := by simp
  go_enter Try.func73, Try.ntmps73
  go_wp2
  go_ret
  exact ⟨rfl, rfl⟩
set_option maxRecDepth 100000 in
theorem cmpInt_any (a b : Int) (w : World) : Calls Try.prog 58 #[.int .i64 a, .int .i64 b] w fun e w' => e = .returned (.int .i64 (if a < b then -1 else if b < a then 1 else 0)) ∧ w = w' := by
  go_enter Try.func58, Try.ntmps58
  by_cases h1 : a < b
  · go_wp2_with (go_at_call 73; refine (isNaN_any _ _).mono ?_; rintro e w' ⟨rfl, rfl⟩)
    go_ret
    exact ⟨ret_int (by simp [h1]), rfl⟩
  · by_cases h2 : b < a
    · go_wp2_with (go_at_call 73; refine (isNaN_any _ _).mono ?_; rintro e w' ⟨rfl, rfl⟩)
      go_ret
      exact ⟨ret_int (by simp [h1, h2]), rfl⟩
    · go_wp2_with (go_at_call 73; refine (isNaN_any _ _).mono ?_; rintro e w' ⟨rfl, rfl⟩)
      go_ret
      exact ⟨ret_int (by simp [h1, h2]), rfl⟩

set_option maxRecDepth 100000 in
set_option maxHeartbeats 1000000 in
theorem compare_any (u v : Value) (xs ys : List Int) (w : World) (h1 : Ints w u xs) (h2 : Ints w v ys) :
    Calls Try.prog 28 #[u, v] w fun e w' => e = .returned (.int .i64 (cmpB xs ys)) ∧ w = w' := by
  obtain ⟨p, cap, rfl, ⟨hx1, hx⟩, hxc⟩ := h1
  obtain ⟨q, cap', rfl, ⟨hy1, hy⟩, hyc⟩ := h2
  unfold maxLen at hx hy
  have Hxc := Lib.hid hxc
  have Hyc := Lib.hid hyc
  clear hxc hyc
  go_enter Try.func28, Try.ntmps28
  go_wp2
  go_loop [11] (fun s => ∃ k : Nat, k ≤ xs.length ∧ k ≤ ys.length ∧ s = .int .i64 k ∧ Hid (cmpB xs ys = cmpB (xs.drop k) (ys.drop k))) (fun s => xs.length - (intOf s).toNat)
  case atStart => exact ⟨0, Nat.zero_le _, Nat.zero_le _, rfl, rfl⟩
  case round =>
    obtain ⟨k, hk, hk2, rfl, hc⟩ := hrel
    by_cases hlt : k < xs.length
    · have hlt1 : (k : Int) < (xs.length : Int) := by omega
      have hlt0 : (0 : Int) ≤ (k : Int) := by omega
      obtain ⟨b, off, rfl, hcx⟩ := Hxc.out (by omega)
      have c1 := hcx k hlt
      unfold iv at c1
      by_cases hlt2 : k < ys.length
      · have hlt3 : ¬ (ys.length : Int) ≤ (k : Int) := by omega
        have hlt4 : (k : Int) < (ys.length : Int) := by omega
        obtain ⟨b', off', rfl, hcy⟩ := Hyc.out (by omega)
        have c2 := hcy k hlt2
        unfold iv at c2
        have Hd := Lib.hid (show cmpB xs ys = if xs.getD k 0 < ys.getD k 0 then -1 else if ys.getD k 0 < xs.getD k 0 then 1 else cmpB (xs.drop (k + 1)) (ys.drop (k + 1)) by rw [hc.out, drop_at hlt, drop_at hlt2]; rfl)
        obtain ⟨x, hx'⟩ : ∃ x, x = xs.getD k 0 := ⟨_, rfl⟩
        obtain ⟨y, hy'⟩ : ∃ y, y = ys.getD k 0 := ⟨_, rfl⟩
        rw [← hx', ← hy'] at Hd
        rw [← hx'] at c1
        rw [← hy'] at c2
        clear hx' hy' hcx hcy hc
        go_wp2_with fail
        refine (cmpInt_any _ _ _).mono ?_
        rintro e w' ⟨rfl, rfl⟩
        by_cases h1 : x < y
        · rw [if_pos h1]
          have Hf := Lib.hid (show cmpB xs ys = -1 by rw [Hd.out, if_pos h1])
          go_wp2_with fail
          go_ret
          exact ⟨ret_int Hf.out.symm, rfl⟩
        · by_cases h2 : y < x
          · rw [if_neg h1, if_pos h2]
            have Hf := Lib.hid (show cmpB xs ys = 1 by rw [Hd.out, if_neg h1, if_pos h2])
            go_wp2_with fail
            go_ret
            exact ⟨ret_int Hf.out.symm, rfl⟩
          · rw [if_neg h1, if_neg h2]
            have Hf := Lib.hid (show cmpB xs ys = cmpB (xs.drop (k + 1)) (ys.drop (k + 1)) by rw [Hd.out, if_neg h1, if_neg h2])
            clear Hd
            go_wp2_with fail
            go_round
            case rel => exact ⟨k + 1, by omega, by omega, by go_num, Hf.out⟩
            case measure => simp [intOf]; omega
      · obtain rfl : k = ys.length := by omega
        have hlt3 : (ys.length : Int) ≤ (ys.length : Int) := by omega
        have Hf := Lib.hid (show cmpB xs ys = 1 by rw [hc.out, drop_at hlt, drop_end (Nat.le_refl _)]; rfl)
        clear hc
        go_wp2_with fail
        go_ret
        exact ⟨ret_int Hf.out.symm, rfl⟩
    · obtain rfl : k = xs.length := by omega
      have hlt1 : ¬ (xs.length : Int) < (xs.length : Int) := by omega
      by_cases hl : xs.length < ys.length
      · have hl2 : (xs.length : Int) < (ys.length : Int) := by omega
        have Hf := Lib.hid (show cmpB xs ys = -1 by rw [hc.out, drop_end (Nat.le_refl _), drop_at hl]; rfl)
        clear hc
        go_wp2_with fail
        go_ret
        exact ⟨ret_int Hf.out.symm, rfl⟩
      · have hl2 : ¬ (xs.length : Int) < (ys.length : Int) := by omega
        have Hf := Lib.hid (show cmpB xs ys = 0 by rw [hc.out, drop_end (Nat.le_refl _), drop_end (by omega)]; rfl)
        have hl3 : decide (xs.length < ys.length) = false := by simp; omega
        clear hc
        go_wp2_with fail
        go_ret
        exact ⟨ret_int Hf.out.symm, rfl⟩

end Go.Proofs.Ytajilmfaconjbaa
