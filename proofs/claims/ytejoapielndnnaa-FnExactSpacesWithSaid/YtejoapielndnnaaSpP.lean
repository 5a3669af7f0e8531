/-
  The rows and the free places of the spaces with a string: plain; strings.
-/
import Derived.Test.YtejoapielndnnaaFlW
import Derived.Test.YtejoapielndnnaaMeetR
namespace Go.Proofs.Ytejoapielndnnaa
set_option linter.all false
open Go.RowKit

/-- a string -/
def strOk (s : List Int) : Bool := decide (1 ≤ s.length ∧ s.length ≤ 7 ∧ ∀ x ∈ s, x = 0 ∨ x = 1)
/-- the rows of the first i places -/
def spR (s : List Int) : Nat → List (List Int)
  | 0 => []
  | i + 1 => if s.getD i 0 = 0 then spR s i else spR s i ++ [unitRow s.length i]
/-- the free places of row r with the pivot i, up to column j -/
def spG (s : List Int) (r i j : Nat) : List Nat := ((List.range j).filter fun (c : Nat) => decide (i < c) && decide (s.getD c 0 = 0)).map fun (c : Nat) => r * s.length + c
def spF (s : List Int) : Nat → List Nat
  | 0 => []
  | i + 1 => if s.getD i 0 = 0 then spF s i else spF s i ++ spG s (spR s i).length i s.length
theorem spR_zero {s : List Int} {i : Nat} (h : s.getD i 0 = 0) : spR s (i + 1) = spR s i := by rw [spR, if_pos h]
theorem spR_one {s : List Int} {i : Nat} (h : ¬ s.getD i 0 = 0) : spR s (i + 1) = spR s i ++ [unitRow s.length i] := by rw [spR, if_neg h]
theorem spF_zero {s : List Int} {i : Nat} (h : s.getD i 0 = 0) : spF s (i + 1) = spF s i := by rw [spF, if_pos h]
theorem spF_one {s : List Int} {i : Nat} (h : ¬ s.getD i 0 = 0) : spF s (i + 1) = spF s i ++ spG s (spR s i).length i s.length := by rw [spF, if_neg h]
theorem spG_start (s : List Int) (r i : Nat) : spG s r i (i + 1) = [] := by
  unfold spG
  rw [List.filter_eq_nil_iff.2 ?_]; rfl
  intro c hc
  have := List.mem_range.1 hc
  simp; intro h2; omega
theorem spG_no (s : List Int) (r i j : Nat) (h : ¬ s.getD j 0 = 0) : spG s r i (j + 1) = spG s r i j := by
  unfold spG; rw [List.range_succ, List.filter_append]
  have e : List.filter (fun (c : Nat) => decide (i < c) && decide (s.getD c 0 = 0)) [j] = [] := by
    rw [List.filter_cons, if_neg (by rw [decide_eq_false h]; simp)]; rfl
  rw [e, List.append_nil]
theorem spG_yes (s : List Int) (r i j : Nat) (h1 : i < j) (h : s.getD j 0 = 0) : spG s r i (j + 1) = spG s r i j ++ [r * s.length + j] := by
  unfold spG; rw [List.range_succ, List.filter_append]
  have e : List.filter (fun (c : Nat) => decide (i < c) && decide (s.getD c 0 = 0)) [j] = [j] := by
    rw [List.filter_cons, if_pos (by rw [decide_eq_true h1, decide_eq_true h]; rfl)]; rfl
  rw [e]; simp
theorem spG_len (s : List Int) (r i j : Nat) : (spG s r i j).length ≤ j := by
  unfold spG
  rw [List.length_map]
  exact Nat.le_trans (List.length_filter_le _ _) (by simp)
theorem spR_len (s : List Int) : ∀ i, (spR s i).length ≤ i
  | 0 => Nat.le_refl _
  | i + 1 => by
    have := spR_len s i
    unfold spR; split
    · omega
    · rw [List.length_append]; simp; omega
theorem spF_len (s : List Int) (h7 : s.length ≤ 7) : ∀ i, (spF s i).length ≤ i * 7
  | 0 => Nat.le_refl _
  | i + 1 => by
    have := spF_len s h7 i
    unfold spF; split
    · omega
    · have h2 := spG_len s (spR s i).length i s.length
      rw [List.length_append]; omega
theorem spR_flat (s : List Int) : ∀ i, (spR s i).flatten.length = (spR s i).length * s.length
  | 0 => by simp [spR]
  | i + 1 => by
    have := spR_flat s i
    unfold spR; split
    · exact this
    · rw [List.flatten_append, List.length_append, this, List.length_append, List.length_singleton, Nat.succ_mul]
      simp [unitRow_length]
theorem spF_mem (s : List Int) : ∀ i, ∀ t ∈ spF s i, t < (spR s i).length * s.length
  | 0 => fun t h => absurd h (by simp [spF])
  | i + 1 => fun t h => by
    have ih := spF_mem s i
    by_cases e : s.getD i 0 = 0
    · rw [spF_zero e] at h; rw [spR_zero e]; exact ih t h
    · rw [spF_one e] at h
      rw [spR_one e, List.length_append, List.length_singleton, Nat.succ_mul]
      rcases List.mem_append.1 h with h | h
      · have := ih t h; omega
      · unfold spG at h
        obtain ⟨c, hc, rfl⟩ := List.mem_map.1 h
        have := List.mem_range.1 (List.mem_filter.1 hc).1
        omega
theorem unitRow_nat (n i : Nat) : unitRow n (i : Int) = (List.range n).map fun (j : Nat) => if (j : Int) = (i : Int) then 1 else 0 := rfl

/-- all spaces with a string -/
def spMs (p : Int) (s : List Int) : List Mx × Bool := if primeOk p && strOk s then fillB p (spR s s.length).length s.length (spR s s.length).flatten (spF s s.length) else ([], false)
theorem spMs_no {p : Int} {s : List Int} (h : primeOk p = false ∨ strOk s = false) : spMs p s = ([], false) := by
  unfold spMs; rcases h with h | h <;> simp [h]
theorem spMs_yes {p : Int} {s : List Int} (h : primeOk p = true) (h2 : strOk s = true) : spMs p s = fillB p (spR s s.length).length s.length (spR s s.length).flatten (spF s s.length) := by
  unfold spMs; simp [h, h2]
theorem spR_49 {s : List Int} (h7 : s.length ≤ 7) : (spR s s.length).flatten.length ≤ 49 := by
  rw [spR_flat]
  have := spR_len s s.length
  exact Nat.le_trans (Nat.mul_le_mul (Nat.le_trans this h7) h7) (by omega)
theorem spMs_len (p : Int) (s : List Int) : preM (spMs p s).1 (spMs p s).1.length ≤ 1000000 := by
  unfold spMs
  split
  · rename_i h
    simp only [Bool.and_eq_true] at h
    obtain ⟨_, h7, _⟩ := of_decide_eq_true h.2
    exact fillB_len _ _ _ _ _ (spR_49 h7)
  · simp [preM]

/-! ### strings, as both sides look at them -/
theorem isSize_any (n : Int) (w : World) :
    Calls Try.prog 70 #[.int .i64 n] w fun e w' => e = .returned (.bool (decide (1 ≤ n ∧ n ≤ 7))) ∧ w = w' := by
  go_enter Try.func70, Try.ntmps70
  by_cases h1 : 1 ≤ n
  · by_cases h2 : n ≤ 7
    · go_wp2
      go_ret
      exact ⟨ret_bool (by simp [h1, h2]), rfl⟩
    · go_wp2
      go_ret
      exact ⟨ret_bool (by simp [h1, h2]), rfl⟩
  · go_wp2
    go_ret
    exact ⟨ret_bool (by simp; omega), rfl⟩

theorem strOk_take {s : List Int} (h : ∀ k, k < s.length → s.getD k 0 = 0 ∨ s.getD k 0 = 1) : ∀ x ∈ s, x = 0 ∨ x = 1 := by
  intro x hx
  obtain ⟨k, hk, rfl⟩ := List.getElem_of_mem hx
  have := h k hk
  simpa [List.getD_eq_getElem?_getD, hk] using this
theorem strOk_bad {s : List Int} {k : Nat} (hk : k < s.length) (h0 : ¬ s.getD k 0 = 0) (h1 : ¬ s.getD k 0 = 1) : strOk s = false := by
  unfold strOk
  refine decide_eq_false ?_
  rintro ⟨_, _, h⟩
  have := h (s.getD k 0) (getD_mem hk)
  omega

set_option maxRecDepth 100000 in
set_option maxHeartbeats 1000000 in
theorem implIsString_any (v : Value) (s : List Int) (w : World) (h : Ints w v s) :
    Calls Try.prog 42 #[v] w fun e w' => e = .returned (.bool (strOk s)) ∧ w = w' := by
  obtain ⟨p, cap, rfl, ⟨hx1, hx⟩, hxc⟩ := h
  unfold maxLen at hx
  have Hxc := Lib.hid hxc
  clear hxc
  go_enter Try.func42, Try.ntmps42
  go_wp2
  go_loop [7] (fun s7 => ∃ k : Nat, k ≤ s.length ∧ s7 = .int .i64 k ∧ Hid (∀ j, j < k → s.getD j 0 = 0 ∨ s.getD j 0 = 1)) (fun s7 => s.length - (intOf s7).toNat)
  case atStart => exact ⟨0, Nat.zero_le _, rfl, fun j hj => absurd hj (Nat.not_lt_zero _)⟩
  case round =>
    obtain ⟨k, hk, rfl, hok⟩ := hrel
    by_cases hlt : k < s.length
    · have hlt2 : (k : Int) < (s.length : Int) := by omega
      obtain ⟨b, off, rfl, hc⟩ := Hxc.out (by omega)
      have c1 := hc k hlt
      unfold iv at c1
      obtain ⟨x, hx'⟩ : ∃ x, x = s.getD k 0 := ⟨_, rfl⟩
      rw [← hx'] at c1
      have Hx := Lib.hid hx'
      clear hx' hc
      by_cases e0 : x = 0
      · subst e0
        go_wp2
        go_round
        case rel =>
          refine ⟨k + 1, by omega, by go_num, fun j hj => ?_⟩
          by_cases e : j = k
          · subst e; exact Or.inl Hx.out.symm
          · exact hok.out j (by omega)
        case measure => simp [intOf]; omega
      · by_cases e1 : x = 1
        · subst e1
          go_wp2
          go_round
          case rel =>
            refine ⟨k + 1, by omega, by go_num, fun j hj => ?_⟩
            by_cases e : j = k
            · subst e; exact Or.inr Hx.out.symm
            · exact hok.out j (by omega)
          case measure => simp [intOf]; omega
        · have hz : (x != 0) = true := by simp [e0]
          have hz1 : (x != 1) = true := by simp [e1]
          have hbad := Lib.hid (strOk_bad hlt (by rw [← Hx.out]; exact e0) (by rw [← Hx.out]; exact e1))
          go_wp2
          go_ret
          exact ⟨ret_bool hbad.out.symm, rfl⟩
    · obtain rfl : k = s.length := by omega
      have hlt2 : ¬ (s.length : Int) < (s.length : Int) := by omega
      have He := Lib.hid (show decide (1 ≤ (s.length : Int) ∧ (s.length : Int) ≤ 7) = strOk s by
        unfold strOk
        have := strOk_take hok.out
        by_cases h1 : 1 ≤ s.length ∧ s.length ≤ 7
        · rw [decide_eq_true (by omega), decide_eq_true ⟨h1.1, h1.2, this⟩]
        · rw [decide_eq_false (by omega), decide_eq_false (by intro h; exact h1 ⟨h.1, h.2.1⟩)])
      go_wp2_with fail
      refine (isSize_any _ _).mono ?_
      rintro e w' ⟨rfl, rfl⟩
      rw [He.out]
      go_wp2_with fail
      go_ret
      exact ⟨rfl, rfl⟩

set_option maxRecDepth 100000 in
set_option maxHeartbeats 1000000 in
theorem specIsString_any (v : Value) (s : List Int) (w : World) (h : Ints w v s) :
    Calls Try.prog 37 #[v] w fun e w' => e = .returned (.bool (strOk s)) ∧ w = w' := by
  obtain ⟨p, cap, rfl, ⟨hx1, hx⟩, hxc⟩ := h
  unfold maxLen at hx
  have Hxc := Lib.hid hxc
  clear hxc
  go_enter Try.func37, Try.ntmps37
  go_wp2_with fail
  refine (l1In_any _ _ _ _).mono ?_
  rintro e w' ⟨rfl, rfl⟩
  by_cases hl : 1 ≤ s.length ∧ s.length ≤ 7
  · rw [decide_eq_true (show (1 : Int) ≤ (s.length : Int) ∧ (s.length : Int) ≤ 7 by omega)]
    have Hl := Lib.hid hl
    clear hl
    go_wp2_with fail
    go_loop [3] (fun s3 => ∃ k : Nat, k ≤ s.length ∧ s3 = .int .i64 k ∧ Hid (∀ j, j < k → s.getD j 0 = 0 ∨ s.getD j 0 = 1)) (fun s3 => s.length - (intOf s3).toNat)
    case atStart => exact ⟨0, Nat.zero_le _, rfl, fun j hj => absurd hj (Nat.not_lt_zero _)⟩
    case round =>
      obtain ⟨k, hk, rfl, hok⟩ := hrel
      by_cases hlt : k < s.length
      · have hlt2 : (k : Int) < (s.length : Int) := by omega
        obtain ⟨b, off, rfl, hc⟩ := Hxc.out (by omega)
        have c1 := hc k hlt
        unfold iv at c1
        obtain ⟨x, hx'⟩ : ∃ x, x = s.getD k 0 := ⟨_, rfl⟩
        rw [← hx'] at c1
        have Hx := Lib.hid hx'
        clear hx' hc
        go_wp2_with fail
        refine (l1In_any _ _ _ _).mono ?_
        rintro e w' ⟨rfl, rfl⟩
        by_cases e0 : 0 ≤ x ∧ x ≤ 1
        · rw [decide_eq_true e0]
          have He0 := Lib.hid e0
          clear e0
          go_wp2_with fail
          go_round
          case rel =>
            refine ⟨k + 1, by omega, by go_num, fun j hj => ?_⟩
            by_cases e : j = k
            · subst e; rw [← Hx.out]; have := He0.out; omega
            · exact hok.out j (by omega)
          case measure => simp [intOf]; omega
        · rw [decide_eq_false e0]
          have hbad := Lib.hid (strOk_bad hlt (by rw [← Hx.out]; omega) (by rw [← Hx.out]; omega))
          clear e0
          go_wp2_with fail
          go_ret
          exact ⟨ret_bool hbad.out.symm, rfl⟩
      · obtain rfl : k = s.length := by omega
        have hlt2 : ¬ (s.length : Int) < (s.length : Int) := by omega
        have He := Lib.hid (show strOk s = true from decide_eq_true ⟨Hl.out.1, Hl.out.2, strOk_take hok.out⟩)
        go_wp2_with fail
        go_ret
        exact ⟨ret_bool He.out.symm, rfl⟩
  · rw [decide_eq_false (show ¬ ((1 : Int) ≤ (s.length : Int) ∧ (s.length : Int) ≤ 7) by omega)]
    have He := Lib.hid (show strOk s = false from decide_eq_false fun h => hl ⟨h.1, h.2.1⟩)
    clear hl
    go_wp2_with fail
    go_ret
    exact ⟨ret_bool He.out.symm, rfl⟩
theorem implIsString_b (v : Value) (s : List Int) (b : Bool) (hb : strOk s = b) (w : World) (h : Ints w v s) :
    Calls Try.prog 42 #[v] w fun e w' => e = .returned (.bool b) ∧ w = w' := hb ▸ implIsString_any v s w h
theorem specIsString_b (v : Value) (s : List Int) (b : Bool) (hb : strOk s = b) (w : World) (h : Ints w v s) :
    Calls Try.prog 37 #[v] w fun e w' => e = .returned (.bool b) ∧ w = w' := hb ▸ specIsString_any v s w h

end Go.Proofs.Ytejoapielndnnaa
