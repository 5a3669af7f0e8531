/-
  Values at fixed points: the numbers for them, and what IsGkm asks. Plain.
  What the reference asks of numbers and values; its exchange of two places, codes and places.
  The program's exchange of two places.
  lowered: divided differences along a permutation.
  A map with one entry made by a composite literal; double.
  Divided differences of values: the braid of three. Plain.
  What divided differences do to the values of a polynomial, and what a change by multiples of a number does. Plain.
  Permutations of at most five: what is decided by looking at all of them. Plain.
  Neighbours of permutations of at most five, and the divided differences along any way. Plain.
-/
import Derived.Test.YtlbflckoodjokaaGreatJ9
import Derived.Test.YtlbflckoodjokaaGreatJ2
import Derived.Test.YtlbflckoodjokaaGreatJ3
import Derived.BigRegion
import Derived.Deep.RegionHeld
import Derived.Test.YtlbflckoodjokaaGreatJ1
namespace Go.Proofs.YtlbflckoodjokaaGreat
set_option linter.all false
open Go.RowKit

/-- there is a number for each place -/
def nmOk (N : Int) (y : List Int) : Bool := decide (1 ≤ N) && decide (N ≤ 5) && decide ((y.length : Int) = N) && decide (∀ x ∈ y, -9 ≤ x ∧ x ≤ 9)
def shiftB (N : Int) (y : List Int) : Bool := decide ((y.length : Int) = N) && decide (∀ x ∈ y, -9 ≤ x ∧ x ≤ 9)
/-- the numbers are different -/
def apOk (N : Int) (y : List Int) : Bool := nmOk N y && decide (N ≤ 4) && decide y.Nodup
def mostB (vs : List Int) : Bool := decide (∀ x ∈ vs, -1000000000000 ≤ x ∧ x ≤ 1000000000000)
/-- a list with the numbers at two places exchanged -/
def swapL (w : List Int) (i j : Nat) : List Int := (w.set i (w.getD j 0)).set j (w.getD i 0)
theorem swapL_length (w : List Int) (i j : Nat) : (swapL w i j).length = w.length := by simp [swapL]
theorem swapL_getD {w : List Int} {i j t : Nat} (hi : i < w.length) (hj : j < w.length) : (swapL w i j).getD t 0 = if t = j then w.getD i 0 else if t = i then w.getD j 0 else w.getD t 0 := by
  unfold swapL
  by_cases e1 : t = j
  · subst e1
    rw [if_pos rfl, List.getD_eq_getElem?_getD, List.getElem?_set_self (by simpa using hj)]
    rfl
  · rw [if_neg e1, List.getD_eq_getElem?_getD, List.getElem?_set_ne (fun h => e1 h.symm)]
    by_cases e2 : t = i
    · subst e2
      rw [if_pos rfl, List.getElem?_set_self hi]
      rfl
    · rw [if_neg e2, List.getElem?_set_ne (fun h => e2 h.symm), ← List.getD_eq_getElem?_getD]
theorem swapL_comm {w : List Int} {i j : Nat} (hi : i < w.length) (hj : j < w.length) : swapL w i j = swapL w j i := by
  refine getD_eq_list (by rw [swapL_length, swapL_length]) fun t _ => ?_
  rw [swapL_getD hi hj, swapL_getD hj hi]
  by_cases e1 : t = j
  · by_cases e2 : t = i
    · rw [if_pos e1, if_pos e2, ← e1, ← e2]
    · rw [if_pos e1, if_neg e2, if_pos e1]
  · by_cases e2 : t = i
    · rw [if_neg e1, if_pos e2, if_pos e2]
    · rw [if_neg e1, if_neg e2, if_neg e2, if_neg e1]
/-- the code of a list, and its place among the permutations -/
def cdK (xs : List Int) (i t : Nat) : Nat := ((List.range t).filter fun (s : Nat) => decide (xs.getD (i + 1 + s) 0 < xs.getD i 0)).length
def cdA (xs : List Int) (i : Nat) : Nat := cdK xs i (xs.length - (i + 1))
def plA (xs : List Int) : Nat → Nat
  | 0 => 0
  | i + 1 => plA xs i * (xs.length - i) + cdA xs i
def plN (xs : List Int) : Nat := plA xs xs.length
/-- one list comes before another one -/
def ltL : List Int → List Int → Bool
  | [], [] => false
  | [], _ :: _ => true
  | _ :: _, [] => false
  | x :: xs, y :: ys => if x < y then true else if y < x then false else ltL xs ys
def gkChk (n : Nat) : Bool :=
  (List.range (fact n)).all fun x => decide (((permsL n).getD x []).length = n) && ((permsL n).getD x []).all (fun v => decide (0 ≤ v ∧ v < (n : Int))) && decide (((permsL n).getD x []).Nodup) &&
    (List.range n).all (fun j => (List.range j).all fun i => decide (plN (swapL ((permsL n).getD x []) i j) < fact n) && decide ((permsL n).getD (plN (swapL ((permsL n).getD x []) i j)) [] = swapL ((permsL n).getD x []) i j)) &&
    (List.range (fact n)).all fun z => decide (ltL ((permsL n).getD x []) ((permsL n).getD z []) = decide (x < z))
set_option maxRecDepth 100000 in
theorem gk_all : gkChk 1 = true ∧ gkChk 2 = true ∧ gkChk 3 = true ∧ gkChk 4 = true := by decide +kernel
structure GkN (n : Nat) : Prop where
  len : ∀ x, x < fact n → ((permsL n).getD x []).length = n
  rng : ∀ x t, x < fact n → t < n → ∃ m : Nat, ((permsL n).getD x []).getD t 0 = (m : Int) ∧ m < n
  inj : ∀ x s t, x < fact n → s < t → t < n → ((permsL n).getD x []).getD s 0 ≠ ((permsL n).getD x []).getD t 0
  plc : ∀ x i j, x < fact n → i < j → j < n → plN (swapL ((permsL n).getD x []) i j) < fact n ∧ (permsL n).getD (plN (swapL ((permsL n).getD x []) i j)) [] = swapL ((permsL n).getD x []) i j
  lt : ∀ x z, x < fact n → z < fact n → ltL ((permsL n).getD x []) ((permsL n).getD z []) = decide (x < z)
theorem gkN {n : Nat} (h1 : 1 ≤ n) (h4 : n ≤ 4) : GkN n := by
  have hc : gkChk n = true := by
    have : n = 1 ∨ n = 2 ∨ n = 3 ∨ n = 4 := by omega
    rcases this with rfl | rfl | rfl | rfl
    · exact gk_all.1
    · exact gk_all.2.1
    · exact gk_all.2.2.1
    · exact gk_all.2.2.2
  unfold gkChk at hc
  simp only [List.all_eq_true, List.mem_range, Bool.and_eq_true, decide_eq_true_eq] at hc
  refine ⟨fun x hx => (hc x hx).1.1.1.1, fun x t hx ht => ?_, fun x s t hx hs ht e => ?_, fun x i j hx hi hj => (hc x hx).1.2 j hj i hi, fun x z hx hz => (hc x hx).2 z hz⟩
  · have hl := (hc x hx).1.1.1.1
    have := (hc x hx).1.1.1.2 _ (getD_mem (show t < ((permsL n).getD x []).length by omega))
    exact ⟨(((permsL n).getD x []).getD t 0).toNat, by omega, by omega⟩
  · have hl := (hc x hx).1.1.1.1
    have hn := (hc x hx).1.1.2
    have a : s < ((permsL n).getD x []).length := by omega
    have b : t < ((permsL n).getD x []).length := by omega
    rw [getD_lt a, getD_lt b] at e
    exact List.pairwise_iff_getElem.1 hn s t a b hs e

/-- the condition at one place and two numbers -/
def gkAt (n : Nat) (vs y : List Int) (x i j : Nat) : Prop :=
  (vs.getD x 0 - vs.getD (plN (swapL ((permsL n).getD x []) i j)) 0).tmod (y.getD (((permsL n).getD x []).getD i 0).toNat 0 - y.getD (((permsL n).getD x []).getD j 0).toNat 0) = 0
/-- what IsGkm says -/
def GkIs (N : Int) (vs y : List Int) (b : Bool) : Prop :=
  b = true ↔ apOk N y = true ∧ vs.length = fact N.toNat ∧ mostB vs = true ∧ ∀ x i j, x < fact N.toNat → i < j → j < N.toNat → gkAt N.toNat vs y x i j
theorem GkIs.one {N : Int} {vs y : List Int} {b b' : Bool} (h : GkIs N vs y b) (h' : GkIs N vs y b') : b = b' := by
  unfold GkIs at h h'
  have e : b = true ↔ b' = true := h.trans h'.symm
  cases b <;> cases b' <;> simp_all
theorem GkIs.eps {N : Int} {vs y : List Int} {b : Bool} (h : GkIs N vs y b) : b = Classical.epsilon (GkIs N vs y) := h.one (Classical.epsilon_spec ⟨b, h⟩)
theorem GkIs.no1 {N : Int} {vs y : List Int} (h : apOk N y = false) : GkIs N vs y false := ⟨fun e => (by cases e), fun e => by rw [h] at e; cases e.1⟩
theorem GkIs.no2 {N : Int} {vs y : List Int} (h : ¬ vs.length = fact N.toNat) : GkIs N vs y false := ⟨fun e => (by cases e), fun e => absurd e.2.1 h⟩
theorem GkIs.no3 {N : Int} {vs y : List Int} (h : mostB vs = false) : GkIs N vs y false := ⟨fun e => (by cases e), fun e => by have := e.2.2.1; rw [h] at this; cases this⟩
theorem GkIs.no4 {N : Int} {vs y : List Int} {x i j : Nat} (h1 : x < fact N.toNat) (h2 : i < j) (h3 : j < N.toNat) (h : ¬ gkAt N.toNat vs y x i j) : GkIs N vs y false := ⟨fun e => (by cases e), fun e => absurd (e.2.2.2 x i j h1 h2 h3) h⟩

end Go.Proofs.YtlbflckoodjokaaGreat

namespace Go.Proofs.YtlbflckoodjokaaGreat
set_option linter.all false
open Go.RowKit

theorem nm_no1 {N : Int} {y : List Int} (h : ¬ (1 ≤ N ∧ N ≤ 5)) : nmOk N y = false := by
  unfold nmOk
  by_cases h1 : 1 ≤ N
  · rw [decide_eq_false (show ¬ N ≤ 5 by omega)]; simp
  · rw [decide_eq_false h1]; simp
theorem nm_no2 {N : Int} {y : List Int} (h : ¬ (y.length : Int) = N) : nmOk N y = false := by
  unfold nmOk
  rw [decide_eq_false h]; simp
theorem nm_no3 {N : Int} {y : List Int} {k : Nat} (hk : k < y.length) (h : ¬ (-9 ≤ y.getD k 0 ∧ y.getD k 0 ≤ 9)) : nmOk N y = false := by
  unfold nmOk
  rw [decide_eq_false (show ¬ ∀ x ∈ y, -9 ≤ x ∧ x ≤ 9 from fun e => h (e _ (getD_mem hk)))]; simp
theorem all_of_getD {y : List Int} {Q : Int → Prop} (h : ∀ k, k < y.length → Q (y.getD k 0)) : ∀ x ∈ y, Q x := fun x hx => by
  obtain ⟨k, hk, rfl⟩ := List.mem_iff_getElem.1 hx
  have := h k hk
  rwa [getD_lt hk] at this
theorem nm_yes {N : Int} {y : List Int} (h : 1 ≤ N ∧ N ≤ 5) (hl : (y.length : Int) = N) (hk : ∀ k, k < y.length → -9 ≤ y.getD k 0 ∧ y.getD k 0 ≤ 9) : nmOk N y = true := by
  unfold nmOk
  rw [decide_eq_true h.1, decide_eq_true h.2, decide_eq_true hl, decide_eq_true (all_of_getD hk)]; rfl
theorem nm_facts {N : Int} {y : List Int} (h : nmOk N y = true) : ∃ n : Nat, N = n ∧ 1 ≤ n ∧ n ≤ 5 ∧ y.length = n ∧ ∀ k, k < n → -9 ≤ y.getD k 0 ∧ y.getD k 0 ≤ 9 := by
  unfold nmOk at h
  simp only [Bool.and_eq_true, decide_eq_true_eq] at h
  obtain ⟨⟨⟨h1, h2⟩, h3⟩, h4⟩ := h
  exact ⟨y.length, h3.symm, by omega, by omega, rfl, fun k hk => h4 _ (getD_mem hk)⟩

set_option maxRecDepth 100000 in
set_option maxHeartbeats 2000000 in
theorem l8Numbers_any (N : Int) (v : Value) (y : List Int) (w : World) (h : Ints w v y) :
    Calls Tryz.prog 31 #[.int .i64 N, v] w fun e w' => e = .returned (.bool (nmOk N y)) ∧ w = w' := by
  obtain ⟨p, cap, rfl, ⟨hx1, hx⟩, hxc⟩ := h
  unfold maxLen at hx
  go_enter Tryz.func31, Tryz.ntmps31
  go_wp2_with fail
  by_cases hN : 1 ≤ N ∧ N ≤ 5
  case neg =>
    refine (l1In_no _ _ _ _ hN).mono ?_
    rintro e w1 ⟨rfl, rfl⟩
    go_wp2_with fail
    go_ret
    exact ⟨ret_bool (nm_no1 hN).symm, rfl⟩
  refine (l1In_yes _ _ _ _ hN).mono ?_
  rintro e w1 ⟨rfl, rfl⟩
  by_cases hl : (y.length : Int) = N
  case neg =>
    go_wp2_with fail
    go_ret
    exact ⟨ret_bool (nm_no2 hl).symm, rfl⟩
  have HN := Lib.hid hN
  have Hl := Lib.hid hl
  subst hl
  clear hN
  go_wp2_with fail
  go_loopg [5] y.length (fun g s5 wr => ∃ k : Nat, k ≤ y.length ∧ g = y.length - k ∧ s5 = .int .i64 k ∧ w = wr ∧ Hid (∀ j, j < k → -9 ≤ y.getD j 0 ∧ y.getD j 0 ≤ 9))
  case atStart => exact ⟨0, Nat.zero_le _, rfl, rfl, rfl, Lib.hid fun j hj => absurd hj (Nat.not_lt_zero _)⟩
  case round =>
    obtain ⟨k, hk, rfl, rfl, rfl, hp⟩ := hrel
    by_cases hlt : k < y.length
    · obtain ⟨b, off, rfl, hc⟩ := hxc (by omega)
      obtain ⟨x, hx'⟩ : ∃ x, x = y.getD k 0 := ⟨_, rfl⟩
      have c1 := hc k hlt
      unfold iv at c1
      rw [← hx'] at c1
      have Hx := Lib.hid hx'
      have hk1 : (k : Int) < (y.length : Int) := by omega
      clear hx' hc hxc
      by_cases hr : -9 ≤ x ∧ x ≤ 9
      · go_wp2_with fail
        refine (l1In_yes _ _ _ _ hr).mono ?_
        rintro e w1 ⟨rfl, rfl⟩
        go_wp2_with fail
        go_roundg (y.length - (k + 1))
        case measure => omega
        case rel =>
          refine ⟨k + 1, by omega, rfl, by go_num, rfl, Lib.hid fun j hj => ?_⟩
          by_cases e : j = k
          · subst e; rw [← Hx.out]; exact hr
          · exact hp.out j (by omega)
      · go_wp2_with fail
        refine (l1In_no _ _ _ _ hr).mono ?_
        rintro e w1 ⟨rfl, rfl⟩
        go_wp2_with fail
        go_ret
        exact ⟨ret_bool (nm_no3 hlt (by rw [← Hx.out]; exact hr)).symm, rfl⟩
    · have hk1 : ¬ (k : Int) < (y.length : Int) := by omega
      go_wp2_with fail
      go_ret
      exact ⟨ret_bool (nm_yes HN.out rfl fun j hj => hp.out j (by omega)).symm, rfl⟩

theorem ints_takeP2 {w : World} {p : Option Addr} {cap : Nat} {xs : List Int} (h : Ints w (.slice p xs.length cap) xs) {i : Nat} (hi : i ≤ xs.length) : Ints w (.slice p i cap) (xs.take i) := h.take i hi
/-! ### different numbers -/
theorem ap_no1 {N : Int} {y : List Int} (h : nmOk N y = false) : apOk N y = false := by simp [apOk, h]
theorem ap_no2 {N : Int} {y : List Int} (h : ¬ N ≤ 4) : apOk N y = false := by simp [apOk, h]
theorem nodup_no {y : List Int} {k : Nat} (hk : k < y.length) (h : y.getD k 0 ∈ y.take k) : ¬ y.Nodup := fun hn => by
  obtain ⟨j, hj, e⟩ := List.mem_iff_getElem.1 h
  have hj' : j < k := by rw [List.length_take] at hj; omega
  rw [List.getElem_take, getD_lt hk] at e
  exact List.pairwise_iff_getElem.1 hn j k (by omega) hk hj' e
theorem nodup_yes {y : List Int} (h : ∀ k, k < y.length → ¬ y.getD k 0 ∈ y.take k) : y.Nodup := by
  refine List.pairwise_iff_getElem.2 fun i j hi hj hij e => h j hj ?_
  rw [getD_lt hj, ← e]
  exact List.mem_iff_getElem.2 ⟨i, by rw [List.length_take]; omega, by rw [List.getElem_take]⟩
theorem ap_no3 {N : Int} {y : List Int} {k : Nat} (hk : k < y.length) (h : y.getD k 0 ∈ y.take k) : apOk N y = false := by
  unfold apOk
  rw [decide_eq_false (nodup_no hk h)]; simp
theorem ap_yes {N : Int} {y : List Int} (h1 : nmOk N y = true) (h2 : N ≤ 4) (h : ∀ k, k < y.length → ¬ y.getD k 0 ∈ y.take k) : apOk N y = true := by
  unfold apOk
  rw [h1, decide_eq_true h2, decide_eq_true (nodup_yes h)]; rfl
theorem ap_facts {N : Int} {y : List Int} (h : apOk N y = true) : ∃ n : Nat, N = n ∧ 1 ≤ n ∧ n ≤ 4 ∧ y.length = n ∧ (∀ k, k < n → -9 ≤ y.getD k 0 ∧ y.getD k 0 ≤ 9) ∧ ∀ i j, i < n → j < n → i ≠ j → y.getD i 0 ≠ y.getD j 0 := by
  unfold apOk at h
  simp only [Bool.and_eq_true, decide_eq_true_eq] at h
  obtain ⟨⟨h1, h2⟩, h3⟩ := h
  obtain ⟨n, rfl, a, b, c, d⟩ := nm_facts h1
  refine ⟨n, rfl, a, by omega, c, d, fun i j hi hj hij e => ?_⟩
  rw [getD_lt (show i < y.length by omega), getD_lt (show j < y.length by omega)] at e
  rcases Nat.lt_or_gt_of_ne hij with h | h
  · exact List.pairwise_iff_getElem.1 h3 i j (by omega) (by omega) h e
  · exact List.pairwise_iff_getElem.1 h3 j i (by omega) (by omega) h e.symm

set_option maxRecDepth 100000 in
set_option maxHeartbeats 2000000 in
theorem l8Apart_any (N : Int) (v : Value) (y : List Int) (w : World) (h : Ints w v y) :
    Calls Tryz.prog 13 #[.int .i64 N, v] w fun e w' => e = .returned (.bool (apOk N y)) ∧ Qt w w' := by
  have Hh := Lib.hid h
  obtain ⟨p, cap, rfl, ⟨hx1, hx⟩, hxc⟩ := h
  unfold maxLen at hx
  go_enter Tryz.func13, Tryz.ntmps13
  go_wp2_with fail
  refine (l8Numbers_any _ _ y _ Hh.out).mono ?_
  rintro e w1 ⟨rfl, rfl⟩
  cases hn : nmOk N y with
  | false =>
    go_wp2_with fail
    go_ret
    exact ⟨ret_bool (ap_no1 hn).symm, Qt.refl _⟩
  | true =>
  by_cases h4 : N ≤ 4
  case neg =>
    go_wp2_with fail
    go_ret
    exact ⟨ret_bool (ap_no2 (by omega)).symm, Qt.refl _⟩
  obtain ⟨n, rfl, hn1, hn5, hyl, _⟩ := nm_facts hn
  have Hn := Lib.hid hn
  have Hyl := Lib.hid hyl
  have hn4 : n ≤ 4 := by omega
  have H4 := Lib.hid h4
  have hle : n ≤ cap := by omega
  have hd4 : decide ((4 : Int) < (n : Int)) = false := decide_eq_false (by omega)
  rw [hyl] at Hh hxc ⊢
  clear hn hyl
  go_wp2_with fail
  go_loopg [5] n (fun g s5 wr => ∃ k : Nat, k ≤ n ∧ g = n - k ∧ s5 = .int .i64 k ∧ Qt w wr ∧ Hid (∀ j, j < k → ¬ y.getD j 0 ∈ y.take j))
  case atStart => exact ⟨0, Nat.zero_le _, rfl, rfl, Qt.refl _, Lib.hid fun j hj => absurd hj (Nat.not_lt_zero _)⟩
  case round =>
    obtain ⟨k, hk, rfl, rfl, hq, hp⟩ := hrel
    by_cases hlt : k < n
    · obtain ⟨b, off, rfl, hc⟩ := hxc (by omega)
      obtain ⟨x, hx'⟩ : ∃ x, x = y.getD k 0 := ⟨_, rfl⟩
      have c1 := hq.cell (hc k hlt)
      unfold iv at c1
      rw [← hx'] at c1
      have Hx := Lib.hid hx'
      have hk1 : (k : Int) < (n : Int) := by omega
      have hk2 : (k : Int) ≤ (cap : Int) := by omega
      have HI := Lib.hid (show Ints wr (.slice (some ⟨b, off, none⟩) k cap) (y.take k) by
        have := Hh.out
        rw [← Hyl.out] at this
        exact (ints_takeP2 this (by rw [Hyl.out]; omega)).qt hq)
      obtain ⟨bb, hbb⟩ : ∃ bb, bb = decide (x ∈ y.take k) := ⟨_, rfl⟩
      have Hbb := Lib.hid hbb
      clear hx' hc hxc hbb
      go_wp2_with fail
      go_quiet (first | (go_at_call 32; exact quiet_q (v := .bool bb) ((l1Has_any _ (y.take k) x _ (HI.out.drewN _)).mono fun e w' ⟨h1, h2⟩ => ⟨by rw [h1, ← Hbb.out], h2⟩)))
      cases bb with
      | true =>
        go_wp2_with fail
        go_ret
        exact ⟨ret_bool (ap_no3 (k := k) (by rw [Hyl.out]; exact hlt) (by rw [← Hx.out]; exact of_decide_eq_true Hbb.out.symm)).symm, hq.drewN _⟩
      | false =>
        go_wp2_with fail
        go_roundg (n - (k + 1))
        case measure => omega
        case rel =>
          refine ⟨k + 1, by omega, rfl, by go_num, hq.drewN _, Lib.hid fun j hj => ?_⟩
          by_cases e : j = k
          · subst e; rw [← Hx.out]; exact of_decide_eq_false Hbb.out.symm
          · exact hp.out j (by omega)
    · have hk1 : ¬ (k : Int) < (n : Int) := by omega
      go_wp2_with fail
      go_ret
      exact ⟨ret_bool (ap_yes Hn.out H4.out fun j hj => hp.out j (by have := Hyl.out; omega)).symm, hq⟩

/-! ### values -/
theorem most_no {vs : List Int} {k : Nat} (hk : k < vs.length) (h : ¬ (-1000000000000 ≤ vs.getD k 0 ∧ vs.getD k 0 ≤ 1000000000000)) : mostB vs = false :=
  decide_eq_false fun e => h (e _ (getD_mem hk))
theorem most_yes {vs : List Int} (h : ∀ k, k < vs.length → -1000000000000 ≤ vs.getD k 0 ∧ vs.getD k 0 ≤ 1000000000000) : mostB vs = true := decide_eq_true (all_of_getD h)
theorem most_at {vs : List Int} (h : mostB vs = true) {k : Nat} (hk : k < vs.length) : -1000000000000 ≤ vs.getD k 0 ∧ vs.getD k 0 ≤ 1000000000000 := of_decide_eq_true h _ (getD_mem hk)

/-! ### two places exchanged -/
theorem OwnI.setG {T : TypeId} {w : World} {lo hi g n cap t : Nat} {D : List Int} (h : OwnI T w lo hi (.slice (some ⟨g, 0, none⟩) n cap) D) (ht : t < D.length) (x : Int) : OwnI T (w.setCell ⟨g, t, none⟩ (.int .i64 x)) lo hi (.slice (some ⟨g, 0, none⟩) n cap) (D.set t x) := by
  refine OwnF.ints ?_
  rw [List.length_set]
  refine (h.fn.set t _).congr fun j hj => ?_
  unfold iv
  by_cases e : j = t
  · subst e; simp [List.getD_eq_getElem?_getD, ht]
  · simp [e, List.getD_eq_getElem?_getD, List.getElem?_set_ne (fun h => e h.symm)]

set_option maxRecDepth 100000 in
set_option maxHeartbeats 1000000 in
theorem l1Swap_any (v : Value) (xs : List Int) (i j : Nat) (w : World) (h : Ints w v xs) (hi : i < xs.length) (hj : j < xs.length) (hl : xs.length ≤ 1000) :
    Calls Tryz.prog 83 #[v, .int .i64 (i : Int), .int .i64 (j : Int)] w (RetI w (swapL xs i j)) := by
  have Hh := Lib.hid h
  obtain ⟨p, cap, rfl, ⟨hx1, hx⟩, hxc⟩ := h
  unfold maxLen at hx
  obtain ⟨b, off, rfl, hc⟩ := hxc (by omega)
  have Hc := Lib.hid hc
  clear hc hxc
  go_enter Tryz.func83, Tryz.ntmps83
  go_wp2_with fail
  refine (l1Ints_any _ xs _ Hh.out (by omega)).mono ?_
  rintro e w1 ⟨u, rfl, ho, hb⟩
  have hofn := ho.fn
  obtain ⟨pu, ku, rfl, hku, hku2⟩ := ho.shape
  unfold maxLen at hku2
  obtain ⟨g, rfl, hg1, hg2, hg3⟩ := hofn.at_ (by omega)
  obtain ⟨x, hx'⟩ : ∃ x, x = xs.getD i 0 := ⟨_, rfl⟩
  obtain ⟨y, hy'⟩ : ∃ y, y = xs.getD j 0 := ⟨_, rfl⟩
  have c1 : w1.cell? ⟨b, off + i, none⟩ = some (.int .i64 x) := by rw [hx']; exact cell_below hb (Hc.out i hi)
  have c2 : w1.cell? ⟨b, off + j, none⟩ = some (.int .i64 y) := by rw [hy']; exact cell_below hb (Hc.out j hj)
  have f1 := hofn.frozen i
  have f2 := hofn.frozen j
  have d1 := hofn.cell hi
  have d2 := hofn.cell hj
  obtain ⟨z, d3⟩ : ∃ z, (w1.setCell ⟨g, i, none⟩ (.int .i64 y)).cell? ⟨g, j, none⟩ = some z := ⟨_, (hofn.set i (.int .i64 y)).cell hj⟩
  have hgb : g ≠ b := fun e => by
    have := World.block_lt_of_cell? _ _ (Hc.out i hi)
    have : b < w.heap.size := this
    omega
  have hbg : b ≠ g := fun e => hgb e.symm
  obtain ⟨n, hn⟩ : ∃ n, n = xs.length := ⟨_, rfl⟩
  have Hn := Lib.hid hn
  have Ho := Lib.hid ho
  have Hb := Lib.hid hb
  have Hx := Lib.hid hx'
  have Hy := Lib.hid hy'
  have hi2 : (i : Int) < (n : Int) := by omega
  have hj2 : (j : Int) < (n : Int) := by omega
  rw [← hn] at hx1 hku hi hj ⊢
  clear hofn ho hb hn hx' hy' hgb
  go_wp2_with fail
  go_ret
  refine ⟨_, rfl, ?_, ((Hb.out.setCell (p := ⟨g, i, none⟩) hg1 _).setCell (p := ⟨g, j, none⟩) hg1 _)⟩
  unfold swapL
  rw [← Hx.out, ← Hy.out]
  have o1 := (Ho.out.setG (by rw [← Hn.out]; exact hi) y).setG (t := j) (by rw [List.length_set, ← Hn.out]; exact hj) x
  rw [← Hn.out] at o1
  have := o1.mono (Nat.le_refl _) (show w1.heap.size ≤ ((w1.setCell ⟨g, i, none⟩ (.int .i64 y)).setCell ⟨g, j, none⟩ (.int .i64 x)).heap.size by simp)
  exact this

end Go.Proofs.YtlbflckoodjokaaGreat

namespace Go.Proofs.YtlbflckoodjokaaGreat
set_option linter.all false
open Go.RowKit

set_option maxRecDepth 100000 in
set_option maxHeartbeats 1000000 in
theorem exchanged_any (v : Value) (xs : List Int) (i j : Nat) (w : World) (h : Ints w v xs) (hi : i < xs.length) (hj : j < xs.length) (hij : i ≠ j) (hl : xs.length ≤ 1000) :
    Calls Tryz.prog 77 #[v, .int .i64 (i : Int), .int .i64 (j : Int)] w (RetI w (swapL xs i j)) := by
  have Hh := Lib.hid h
  obtain ⟨p, cap, rfl, ⟨hx1, hx⟩, hxc⟩ := h
  unfold maxLen at hx
  clear hxc
  go_enter Tryz.func77, Tryz.ntmps77
  go_wp2_with fail
  refine (clone_any _ xs _ Hh.out (by omega)).mono ?_
  rintro e w1 ⟨u, rfl, ho, hb⟩
  have hofn := ho.fn
  obtain ⟨pu, ku, rfl, hku, hku2⟩ := ho.shape
  unfold maxLen at hku2
  obtain ⟨g, rfl, hg1, hg2, hg3⟩ := hofn.at_ (by omega)
  obtain ⟨x, hx'⟩ : ∃ x, x = xs.getD i 0 := ⟨_, rfl⟩
  obtain ⟨y, hy'⟩ : ∃ y, y = xs.getD j 0 := ⟨_, rfl⟩
  have f1 := hofn.frozen i
  have f2 := hofn.frozen j
  have d1 := hofn.cell hi
  have d2 := hofn.cell hj
  unfold iv at d1 d2
  rw [← hx'] at d1
  rw [← hy'] at d2
  obtain ⟨z, d3⟩ : ∃ z, (w1.setCell ⟨g, i, none⟩ (.int .i64 y)).cell? ⟨g, j, none⟩ = some z := ⟨_, (hofn.set i (.int .i64 y)).cell hj⟩
  have d3' : (w1.drew.setCell ⟨g, i, none⟩ (.int .i64 y)).cell? ⟨g, j, none⟩ = some z := d3
  obtain ⟨n, hn⟩ : ∃ n, n = xs.length := ⟨_, rfl⟩
  have Hn := Lib.hid hn
  have Ho := Lib.hid ho
  have Hb := Lib.hid hb
  have Hx := Lib.hid hx'
  have Hy := Lib.hid hy'
  have hi2 : (i : Int) < (n : Int) := by omega
  have hj2 : (j : Int) < (n : Int) := by omega
  rw [← hn] at hx1 hku hi hj ⊢
  clear hofn ho hb hn hx' hy'
  go_wp2_with fail
  have hji : j ≠ i := fun e => hij e.symm
  go_region
  go_wp2_with fail
  go_ret
  refine ⟨_, rfl, ?_, ((Hb.out.setCell (p := ⟨g, i, none⟩) hg1 _).setCell (p := ⟨g, j, none⟩) hg1 _).drew⟩
  unfold swapL
  rw [← Hx.out, ← Hy.out]
  have o1 := (Ho.out.setG (by rw [← Hn.out]; exact hi) y).setG (t := j) (by rw [List.length_set, ← Hn.out]; exact hj) x
  rw [← Hn.out] at o1
  have := o1.mono (Nat.le_refl _) (show w1.heap.size ≤ ((w1.setCell ⟨g, i, none⟩ (.int .i64 y)).setCell ⟨g, j, none⟩ (.int .i64 x)).heap.size by simp)
  exact this.below (Below.refl _ _).drew

end Go.Proofs.YtlbflckoodjokaaGreat

namespace Go.Proofs.YtlbflckoodjokaaGreat
set_option linter.all false
set_option maxRecDepth 100000
open Go.RowKit Go.Maps Go.WideMaps Go.WideElems Go.MapKept Go.ChangeMaps Go.ChangeShapes

/-- the first place with a smaller number than behind it -/
def fasc (xs : List Int) : Option Nat := (List.range (xs.length - 1)).find? fun (k : Nat) => decide (xs.getD k 0 < xs.getD (k + 1) 0)
def lowP : Nat → List Int → Pl → Pl
  | 0, _, P => P
  | f + 1, xs, P => match fasc xs with
    | none => P
    | some k => dvP k (lowP f (swapL xs k (k + 1)) P)
def lowOk : Nat → List Int → Bool
  | 0, xs => (fasc xs).isNone
  | f + 1, xs => match fasc xs with
    | none => true
    | some k => lowOk f (swapL xs k (k + 1))
theorem fasc_some {xs : List Int} {k : Nat} (hk : k < xs.length - 1) (h : xs.getD k 0 < xs.getD (k + 1) 0) (h0 : ∀ j, j < k → ¬ xs.getD j 0 < xs.getD (j + 1) 0) : fasc xs = some k := by
  unfold fasc
  rw [List.find?_range_eq_some]
  refine ⟨by simpa using h, by simpa using hk, fun j hj => by simpa using h0 j hj⟩
theorem fasc_none {xs : List Int} (h0 : ∀ j, j < xs.length - 1 → ¬ xs.getD j 0 < xs.getD (j + 1) 0) : fasc xs = none := by
  unfold fasc
  rw [List.find?_eq_none]
  intro j hj
  simpa using h0 j (List.mem_range.1 hj)

set_option maxRecDepth 100000 in
set_option maxHeartbeats 4000000 in
theorem lowered_any (d : Nat) (P : Pl) (hd : d < 1000000) (hd1 : 1 ≤ d) : ∀ (f : Nat) (xs : List Int) (u vw : Value) (nf : Nat) (w : World), lowOk f xs = true → xs.length ≤ 5 → PolV w u d nf P → nf * d ^ f < 1000000000000000 → Ints w vw xs →
    Calls Tryz.prog 73 #[vw, u, .func (.func 74) #[] #[]] w fun e w' => ∃ u', e = .returned u' ∧ PolV w' u' d (nf * d ^ f) (lowP f xs P) ∧ Below w.heap.size w w' := by
  intro f
  induction f using Nat.strongRecOn with
  | _ f ih =>
    intro xs u vw nf w hok hl hp hn hw
    have Hp := Lib.hid hp
    have Hw := Lib.hid hw
    have hge0 : nf ≤ nf * d ^ f := Nat.le_mul_of_pos_right _ (Nat.pow_pos hd1)
    have hasc : ∀ k, fasc xs = some k → ∃ f', f = f' + 1 ∧ lowOk f' (swapL xs k (k + 1)) = true ∧ lowP f xs P = dvP k (lowP f' (swapL xs k (k + 1)) P) := fun k hk => by
      cases f with
      | zero => unfold lowOk at hok; rw [hk] at hok; cases hok
      | succ f' => exact ⟨f', rfl, by unfold lowOk at hok; rw [hk] at hok; exact hok, by rw [lowP, hk]⟩
    have hnone : fasc xs = none → lowP f xs P = P := fun hk => by
      cases f with
      | zero => rfl
      | succ f' => rw [lowP, hk]
    have Hasc := Lib.hid hasc
    have Hnone := Lib.hid hnone
    have Ih := Lib.hid ih
    have Hn := Lib.hid hn
    have Hge := Lib.hid hge0
    obtain ⟨T, hT⟩ : ∃ T, T = nf * d ^ f := ⟨_, rfl⟩
    have HT := Lib.hid hT
    rw [← hT]
    obtain ⟨pw, cw, rfl, ⟨hw1, hw2⟩, hwc⟩ := hw
    obtain ⟨bf, Df, rfl, hf1, hf2⟩ := hp
    unfold maxLen at hw2
    have Hwc := Lib.hid hwc
    obtain ⟨R, hR⟩ : ∃ R, R = lowP f xs P := ⟨_, rfl⟩
    have HR := Lib.hid hR
    rw [← hR]
    clear hwc hf1 hf2 hok ih hT hasc hnone hn hge0 hR
    go_enter Tryz.func73, Tryz.ntmps73
    go_wp2_with fail
    go_loopg [7, 11] xs.length (fun g s7 s11 wr => ∃ k : Nat, k ≤ xs.length ∧ g = xs.length - k ∧ s11 = .int .i64 (k : Int) ∧ Qt w wr ∧ Hid (∀ j, j < k → ¬ xs.getD j 0 < xs.getD (j + 1) 0))
    case atStart => exact ⟨0, by omega, rfl, rfl, Qt.refl _, Lib.hid fun j hj => absurd hj (Nat.not_lt_zero _)⟩
    case round =>
      obtain ⟨k, hk, rfl, rfl, hq, hpre⟩ := hrel
      obtain ⟨wx, rfl⟩ : ∃ x : World, x = wr := ⟨_, rfl⟩
      by_cases hkl : k + 1 < xs.length
      · have hki : (k : Int) < (xs.length : Int) - 1 := by omega
        obtain ⟨bw, ow, rfl, hc⟩ := Hwc.out (by omega)
        have c1 := hq.cell (hc k (by omega))
        have c2 := hq.cell (hc (k + 1) hkl)
        unfold iv at c1 c2
        obtain ⟨x, hx⟩ : ∃ x, x = xs.getD k 0 := ⟨_, rfl⟩
        obtain ⟨y, hy⟩ : ∃ y, y = xs.getD (k + 1) 0 := ⟨_, rfl⟩
        rw [← hx] at c1
        rw [← hy] at c2
        have Hx := Lib.hid hx
        have Hy := Lib.hid hy
        have HQ := Lib.hid hq
        have hk1 : (k : Int) < (xs.length : Int) := by omega
        have hk2 : (k : Int) + 1 < (xs.length : Int) := by omega
        clear hx hy hc hq
        by_cases hxy : x < y
        · go_wp2_with fail
          go_quiet (fail)
          have HQ1 := Lib.hid (HQ.out.drewN nq)
          go_wp2_with fail
          obtain ⟨f', hf', hok', hlow⟩ := Hasc.out k (fasc_some (by omega) (by rw [← Hx.out, ← Hy.out]; exact hxy) fun j hj => Int.not_lt.2 (by have := hpre.out j hj; omega))
          have Hlow := Lib.hid hlow
          have Hok' := Lib.hid hok'
          have Hf' := Lib.hid hf'
          clear hlow hok' hf'
          refine (exchanged_any _ xs k (k + 1) _ (Hw.out.qt HQ1.out) (by omega) hkl (by omega) (by omega)).mono ?_
          rintro e w1 ⟨ue, rfl, hoe, hbe⟩
          have Hoe := Lib.hid hoe.ints
          obtain ⟨pe, ke, rfl, _, _⟩ := hoe.shape
          have Hb1 := Lib.hid ((HQ1.out.below w.heap.size).trans (hbe.mono (Nat.le_of_eq HQ1.out.size.symm)))
          clear hoe hbe
          go_wp2_with fail
          have hT0 : nf * d ^ f' * d = T := by rw [HT.out, Hf'.out, Nat.pow_succ, Nat.mul_assoc]
          have hT1 : nf * d ^ f' ≤ T := by rw [← hT0]; exact Nat.le_mul_of_pos_right _ (by omega)
          have HT0 := Lib.hid hT0
          clear hT0
          refine (Ih.out f' (by have := Hf'.out; omega) (swapL xs k (k + 1)) _ _ nf _ Hok'.out (by rw [swapL_length]; exact hl) (Hp.out.below Hb1.out) (by have := Hn.out; have := HT.out; omega) Hoe.out).mono ?_
          rintro e w2 ⟨u2, rfl, hp2, hb2⟩
          have Hp2 := Lib.hid hp2
          obtain ⟨b2, D2, rfl, _, _⟩ := hp2
          have Hb2 := Lib.hid (Hb1.out.trans (hb2.mono Hb1.out.size))
          clear hb2
          go_wp2_with fail
          refine (divided_any _ k d (nf * d ^ f') _ _ Hp2.out (by omega) hd (by rw [HT0.out]; have := Hn.out; have := HT.out; omega)).mono ?_
          rintro e w3 ⟨u3, rfl, hp3, hb3⟩
          have Hp3 := Lib.hid hp3
          have Hb3 := Lib.hid (Hb2.out.trans (hb3.mono Hb2.out.size))
          obtain ⟨b3, D3, rfl, _, _⟩ := hp3
          clear hb3
          go_wp2_with fail
          go_ret
          refine ⟨_, rfl, ?_, Hb3.out⟩
          rw [HR.out, Hlow.out, ← HT0.out]
          exact Hp3.out
        · go_wp2_with fail
          go_quiet (fail)
          have HQ1 := Lib.hid (HQ.out.drewN nq)
          go_wp2_with fail
          go_roundg (xs.length - (k + 1))
          case measure => omega
          case rel =>
            refine ⟨k + 1, by omega, rfl, by go_num, HQ1.out, Lib.hid fun j hj => ?_⟩
            by_cases e : j = k
            · subst e; rw [← Hx.out, ← Hy.out]; omega
            · exact hpre.out j (by omega)
      · have hki : ¬ (k : Int) < (xs.length : Int) - 1 := by omega
        go_wp2_with fail
        go_ret
        refine ⟨_, rfl, ?_, hq.below _⟩
        rw [HR.out, Hnone.out (fasc_none fun j hj => Int.not_lt.2 (by have := hpre.out j (by omega); omega))]
        exact (Hp.out.below (hq.below _)).mono (Nat.le_refl _) (by rw [HT.out]; exact Hge.out)

end Go.Proofs.YtlbflckoodjokaaGreat

namespace Go.Proofs.YtlbflckoodjokaaGreat
set_option linter.all false
set_option maxRecDepth 100000
open Go.RowKit Go.Maps Go.WideMaps Go.WideElems Go.MapKept Go.ChangeMaps Go.ChangeShapes

theorem wpList_insert_own {w : World} {ops : Array Oper} {rest : List Oper} {o : Oper} {a : Act} {Q : Exit → Act → World → Prop}
    (hg : o.guard = none) (m x v : Operand) (hop : o.op = Op.insert 62 m x v) (b n : Nat) (D : DU)
    (hm : a.eval m = .map (some b)) (hown : OwnMp w b n D) (hn : n < 1000000000000000) (key : Value) (k0 : Lit) (c : Int) (hx : a.eval x = key) (hv : a.eval v = .int .i64 c) (hkey : keyOf Tryz.prog 72 key = some k0)
    (hc : (Lit.int .i64 c).wf = true)
    (hK : ∀ w', OwnMp w' b (n + 1) (D.put k0 (.lit (.int .i64 c))) → w.grownBy w' (some b) → wpList Tryz.prog ops Q rest (a.put o.dst undef) w') :
    wpList Tryz.prog ops Q (o :: rest) a w := by
  refine wpList_plain hg fun K' hK' => ?_
  obtain ⟨w', hrun, r1, r2⟩ := hown.update klaw und41 (by unfold maxLen; omega) hkey (plainElem_int undI hc)
  unfold Oper.wp
  simp [execOp, hop, hm, hx, hv, hrun, Result.andThen]
  exact hK' _ _ (hK w' r1 r2)

/-- the product of the differences, for the longest permutation -/
def topJ (i : Nat) (ys : List Int) : Nat → Pl → Pl
  | 0, T => T
  | m + 1, T => rsP i (topJ i ys m T) ++ sclP (-(ys.getD m 0)) (topJ i ys m T)
def topI (n : Nat) (ys : List Int) : Nat → Pl
  | 0 => [([0, 0, 0, 0, 0, 0, 0], 1)]
  | i + 1 => topJ i ys (n - 1 - i) (topI n ys i)
def dblP (xs ys : List Int) : Pl := lowP 10 xs (topI xs.length ys xs.length)

theorem buildE (w : World) : (Instr.build 72 #[]).run Tryz.prog w = .ok (.agg #[.int .i64 0, .int .i64 0, .int .i64 0, .int .i64 0, .int .i64 0, .int .i64 0, .int .i64 0]) w := by kernel_rfl

end Go.Proofs.YtlbflckoodjokaaGreat

namespace Go.Proofs.YtlbflckoodjokaaGreat
set_option linter.all false
set_option maxRecDepth 100000

theorem cancel {a b : Int} (ha : a ≠ 0) (h : a * b = 0) : b = 0 := (Int.mul_eq_zero.1 h).resolve_left ha
theorem step2 {a b c p q r s u v w : Int} (h1 : a * u = p) (h2 : b * v = q) (h3 : c * w = u - v) : a * b * c * w = b * p - a * q := by
  have : a * b * c * w = a * b * (c * w) := by grind
  rw [this, h3]
  have : a * b * (u - v) = b * (a * u) - a * (b * v) := by grind
  rw [this, h1, h2]
theorem braid (x y z p0 p1 p2 p12 p21 p121 al al2 al12 be be1 de ga ga1 ga2 ga21 ep ep2 : Int) (hxy : x - y ≠ 0) (hxz : x - z ≠ 0) (hyz : y - z ≠ 0)
  (h1 : (x - y) * al = p0 - p1) (h2 : (x - z) * al2 = p2 - p21) (h3 : (y - z) * al12 = p12 - p121)
  (h4 : (y - z) * be = al - al2) (h5 : (x - z) * be1 = al - al12) (h6 : (x - y) * de = be - be1)
  (g1 : (y - z) * ga = p0 - p2) (g2 : (x - z) * ga1 = p1 - p12) (g3 : (x - y) * ga21 = p21 - p121)
  (g4 : (x - y) * ep = ga - ga1) (g5 : (x - z) * ep2 = ga - ga21) : (y - z) * de = ep - ep2 := by
  have e1 := step2 h1 h2 h4 (r := 0) (s := 0)
  have e2 := step2 h1 h3 h5 (r := 0) (s := 0)
  have e3 := step2 g1 g2 g4 (r := 0) (s := 0)
  have e4 := step2 g1 g3 g5 (r := 0) (s := 0)
  clear h1 h2 h3 h4 h5 g1 g2 g3 g4 g5
  have d1 : (x - y) * (x - z) * (y - z) * ((x - y) * de) = (x - y) * (p0 - p1 - p2 + p12 + p21 - p121) := by
    rw [h6]
    have : (x - y) * (x - z) * (y - z) * (be - be1) = (x - y) * (x - z) * (y - z) * be - (x - y) * (y - z) * (x - z) * be1 := by grind
    rw [this, e1, e2]
    grind
  have d2 : (x - y) * (x - z) * (y - z) * (ep - ep2) = (y - z) * (p0 - p1 - p2 + p12 + p21 - p121) := by
    have : (x - y) * (x - z) * (y - z) * (ep - ep2) = (y - z) * (x - z) * (x - y) * ep - (y - z) * (x - y) * (x - z) * ep2 := by grind
    rw [this, e3, e4]
    grind
  clear e1 e2 e3 e4 h6
  have c1 : (x - y) * (x - z) * (y - z) * de = p0 - p1 - p2 + p12 + p21 - p121 := by
    have : (x - y) * ((x - y) * (x - z) * (y - z) * de - (p0 - p1 - p2 + p12 + p21 - p121)) = 0 := by
      have t : ∀ A p : Int, (x - y) * (A * de - p) = A * ((x - y) * de) - (x - y) * p := fun A p => by grind
      rw [t, d1]; omega
    have := cancel hxy this
    omega
  have c2 : (x - y) * (x - z) * (ep - ep2) = p0 - p1 - p2 + p12 + p21 - p121 := by
    have : (y - z) * ((x - y) * (x - z) * (ep - ep2) - (p0 - p1 - p2 + p12 + p21 - p121)) = 0 := by
      have t : ∀ A p : Int, (y - z) * (A * (ep - ep2) - p) = A * (y - z) * (ep - ep2) - (y - z) * p := fun A p => by grind
      rw [t, d2]; omega
    have := cancel hyz this
    omega
  have : (x - y) * ((x - z) * ((y - z) * de - (ep - ep2))) = 0 := by
    have t : (x - y) * ((x - z) * ((y - z) * de - (ep - ep2))) = (x - y) * (x - z) * (y - z) * de - (x - y) * (x - z) * (ep - ep2) := by grind
    rw [t, c1, c2]; omega
  have := cancel hxz (cancel hxy this)
  omega

end Go.Proofs.YtlbflckoodjokaaGreat

namespace Go.Proofs.YtlbflckoodjokaaGreat
set_option linter.all false
set_option maxRecDepth 100000
open Go.RowKit

/-! ### alike but for multiples of N -/
def Mg (N a b : Int) : Prop := ∃ m, a = b + N * m
theorem Mg.refl (N a : Int) : Mg N a a := ⟨0, by simp⟩
theorem Mg.symm {N a b : Int} (h : Mg N a b) : Mg N b a := by
  obtain ⟨m, rfl⟩ := h
  exact ⟨-m, by rw [Int.mul_neg]; omega⟩
theorem Mg.trans {N a b c : Int} (h : Mg N a b) (h' : Mg N b c) : Mg N a c := by
  obtain ⟨m, rfl⟩ := h
  obtain ⟨m', rfl⟩ := h'
  exact ⟨m' + m, by rw [Int.mul_add]; omega⟩
theorem Mg.add {N a b c e : Int} (h : Mg N a b) (h' : Mg N c e) : Mg N (a + c) (b + e) := by
  obtain ⟨m, rfl⟩ := h
  obtain ⟨m', rfl⟩ := h'
  exact ⟨m + m', by rw [Int.mul_add]; omega⟩
theorem Mg.mul {N a b c e : Int} (h : Mg N a b) (h' : Mg N c e) : Mg N (a * c) (b * e) := by
  obtain ⟨m, rfl⟩ := h
  obtain ⟨m', rfl⟩ := h'
  refine ⟨m * e + b * m' + N * m * m', ?_⟩
  grind
theorem Mg.neg {N a b : Int} (h : Mg N a b) : Mg N (-a) (-b) := by
  obtain ⟨m, rfl⟩ := h
  exact ⟨-m, by rw [Int.mul_neg]; omega⟩
theorem Mg.sub {N a b c e : Int} (h : Mg N a b) (h' : Mg N c e) : Mg N (a - c) (b - e) := by
  have := h.add h'.neg
  rw [Int.sub_eq_add_neg, Int.sub_eq_add_neg]
  exact this
theorem Mg.pow {N a b : Int} (h : Mg N a b) : ∀ n : Nat, Mg N (a ^ n) (b ^ n)
  | 0 => by rw [Int.pow_zero, Int.pow_zero]; exact Mg.refl _ _
  | n + 1 => by rw [Int.pow_succ, Int.pow_succ]; exact (Mg.pow h n).mul h
/-- a number that is a multiple of all great numbers is 0 -/
theorem Mg.zero {D : Int} (c : Int) (h : ∀ N, c < N → 0 < N → Mg N D 0) : D = 0 := by
  obtain ⟨K, h1, h2, h3, h4⟩ : ∃ K : Int, c < K ∧ 0 < K ∧ D < K ∧ -D < K := ⟨1 + (c.natAbs : Int) + (D.natAbs : Int), by omega, by omega, by omega, by omega⟩
  obtain ⟨m, hm⟩ := h K h1 h2
  rcases Int.lt_trichotomy m 0 with h0 | h0 | h0
  · have := Int.mul_le_mul_of_nonneg_left (show m ≤ -1 by omega) (show 0 ≤ K by omega)
    rw [Int.mul_neg, Int.mul_one] at this
    omega
  · rw [h0] at hm; simpa using hm
  · have := Int.mul_le_mul_of_nonneg_left (show 1 ≤ m by omega) (show 0 ≤ K by omega)
    rw [Int.mul_one] at this
    omega

theorem Ev_mg {N : Int} {g g' : List Int → Int} (h : ∀ e, Mg N (g e) (g' e)) : ∀ P : Pl, Mg N (Ev P g) (Ev P g')
  | [] => Mg.refl _ _
  | p :: l => ((Mg.refl N p.2).mul (h p.1)).add (Ev_mg h l)
theorem mono_mg {N : Int} {xs xs' : List Int} (h : ∀ i, Mg N (xs.getD i 0) (xs'.getD i 0)) (e : List Int) : Mg N (mono xs e) (mono xs' e) := by
  unfold mono
  have : ∀ n, Mg N (monoK xs e n) (monoK xs' e n) := fun n => by
    induction n with
    | zero => exact Mg.refl _ _
    | succ n ih => exact ih.mul ((h n).pow _)
  exact this 7
/-- two polynomials have values alike but for multiples of N -/
def PMg (N : Int) (P Q : Pl) : Prop := ∀ g, Mg N (Ev P g) (Ev Q g)
theorem PMg.dv {N : Int} {P Q : Pl} (h : PMg N P Q) (k : Nat) : PMg N (dvP k P) (dvP k Q) := fun g => by
  rw [Ev_dv, Ev_dv]; exact h _
theorem PMg.low {N : Int} {P Q : Pl} (h : PMg N P Q) : ∀ f xs, PMg N (lowP f xs P) (lowP f xs Q)
  | 0, _ => h
  | f + 1, xs => by
    rw [lowP, lowP]
    cases fasc xs with
    | none => exact h
    | some k => exact (PMg.low h f _).dv k
theorem PMg.top {N : Int} {ys ys' : List Int} (h : ∀ i, Mg N (ys.getD i 0) (ys'.getD i 0)) (n : Nat) : ∀ i, PMg N (topI n ys i) (topI n ys' i)
  | 0 => fun g => Mg.refl _ _
  | i + 1 => by
    rw [topI, topI]
    have : ∀ m, PMg N (topJ i ys m (topI n ys i)) (topJ i ys' m (topI n ys' i)) := fun m => by
      induction m with
      | zero => exact PMg.top h n i
      | succ m ih =>
        intro g
        rw [topJ, topJ, Ev_append, Ev_append, Ev_rs, Ev_rs, Ev_scl, Ev_scl, Ev_mul, Ev_mul]
        exact (ih _).add ((h m).neg.mul (ih g))
    exact this _

/-! ### exponents are not below 0 -/
def Pos7 (P : Pl) : Prop := ∀ p ∈ P, p.1.length = 7 ∧ ∀ x ∈ p.1, (0 : Int) ≤ x
theorem list7 {e : List Int} (h : e.length = 7) : ∃ a0 a1 a2 a3 a4 a5 a6, e = [a0, a1, a2, a3, a4, a5, a6] := by
  match e, h with
  | [a0, a1, a2, a3, a4, a5, a6], _ => exact ⟨a0, a1, a2, a3, a4, a5, a6, rfl⟩

theorem tele (X Y : Int) (b : Nat) : ∀ (m a : Nat), m ≤ a →
    (X - Y) * ((List.range m).foldl (fun s j => s + X ^ (a - 1 - j) * Y ^ (b + j)) 0) = X ^ a * Y ^ b - X ^ (a - m) * Y ^ (b + m)
  | 0, a, _ => by simp
  | m + 1, a, h => by
    rw [List.range_succ, List.foldl_append, List.foldl_cons, List.foldl_nil, Int.mul_add, tele X Y b m a (by omega)]
    have e1 : a - m = (a - 1 - m) + 1 := by omega
    have e2 : a - (m + 1) = a - 1 - m := by omega
    have e3 : b + (m + 1) = (b + m) + 1 := by omega
    rw [e1, e2, e3, Int.pow_succ X, Int.pow_succ Y]
    grind
theorem Ev_range (f : Nat → List Int) (c : Int) (g : List Int → Int) (n : Nat) : Ev ((List.range n).map fun j => (f j, c)) g = c * (List.range n).foldl (fun s j => s + g (f j)) 0 := by
  induction n with
  | zero => simp [Ev]
  | succ n ih => rw [List.range_succ, List.map_append, Ev_append, ih, List.foldl_append]; simp [Ev, Int.mul_add]
theorem fold_mul (R : Int) (f g : Nat → Int) (n : Nat) (h : ∀ j, j < n → f j = R * g j) : (List.range n).foldl (fun s j => s + f j) 0 = R * (List.range n).foldl (fun s j => s + g j) 0 := by
  induction n with
  | zero => simp
  | succ n ih =>
    rw [List.range_succ, List.foldl_append, List.foldl_append, List.foldl_cons, List.foldl_cons, List.foldl_nil, List.foldl_nil, ih (fun j hj => h j (by omega)), h n (by omega), Int.mul_add]
/-- the monomial with two places told apart -/
theorem mono_two {xs e : List Int} {k : Nat} (hk : k < 4) (he : e.length = 7) (hx : xs.length = 7) : ∃ R : Int, ∀ (s t X Y : Int),
    mono ((xs.set (k + 1) Y).set k X) ((e.set (k + 1) t).set k s) = R * (X ^ s.toNat * Y ^ t.toNat) := by
  obtain ⟨a0, a1, a2, a3, a4, a5, a6, rfl⟩ := list7 he
  obtain ⟨x0, x1, x2, x3, x4, x5, x6, rfl⟩ := list7 hx
  have : k = 0 ∨ k = 1 ∨ k = 2 ∨ k = 3 := by omega
  rcases this with rfl | rfl | rfl | rfl
  · refine ⟨x2 ^ a2.toNat * x3 ^ a3.toNat * x4 ^ a4.toNat * x5 ^ a5.toNat * x6 ^ a6.toNat, fun s t X Y => ?_⟩
    simp [mono, monoK]; ac_rfl
  · refine ⟨x0 ^ a0.toNat * x3 ^ a3.toNat * x4 ^ a4.toNat * x5 ^ a5.toNat * x6 ^ a6.toNat, fun s t X Y => ?_⟩
    simp [mono, monoK]; ac_rfl
  · refine ⟨x0 ^ a0.toNat * x1 ^ a1.toNat * x4 ^ a4.toNat * x5 ^ a5.toNat * x6 ^ a6.toNat, fun s t X Y => ?_⟩
    simp [mono, monoK]; ac_rfl
  · refine ⟨x0 ^ a0.toNat * x1 ^ a1.toNat * x2 ^ a2.toNat * x5 ^ a5.toNat * x6 ^ a6.toNat, fun s t X Y => ?_⟩
    simp [mono, monoK]; ac_rfl
theorem set_two {xs : List Int} {k : Nat} (hk : k + 1 < xs.length) : (xs.set (k + 1) (xs.getD (k + 1) 0)).set k (xs.getD k 0) = xs := by
  have a : ∀ j, j < xs.length → xs.set j (xs.getD j 0) = xs := fun j hj => by rw [getD_lt hj, List.set_getElem_self]
  rw [a (k + 1) hk, a k (by omega)]
theorem swap_set {xs : List Int} {k : Nat} (hk : k + 1 < xs.length) : swapL xs k (k + 1) = (xs.set (k + 1) (xs.getD k 0)).set k (xs.getD (k + 1) 0) := by
  unfold swapL
  rw [List.set_comm _ _ (by omega)]

theorem dvE_val {xs e : List Int} {k : Nat} (hk : k < 4) (he : e.length = 7) (hp : ∀ x ∈ e, (0 : Int) ≤ x) (hx : xs.length = 7) :
    (xs.getD k 0 - xs.getD (k + 1) 0) * Ev (dvE k e) (mono xs) = mono xs e - mono (swapL xs k (k + 1)) e := by
  obtain ⟨R, hR⟩ := mono_two (xs := xs) hk he hx
  obtain ⟨a, ha⟩ : ∃ a : Nat, e.getD k 0 = (a : Int) := ⟨(e.getD k 0).toNat, by have := hp _ (getD_mem (show k < e.length by omega)); omega⟩
  obtain ⟨b, hb⟩ : ∃ b : Nat, e.getD (k + 1) 0 = (b : Int) := ⟨(e.getD (k + 1) 0).toNat, by have := hp _ (getD_mem (show k + 1 < e.length by omega)); omega⟩
  have e1 : mono xs e = R * (xs.getD k 0 ^ a * xs.getD (k + 1) 0 ^ b) := by
    have := hR a b (xs.getD k 0) (xs.getD (k + 1) 0)
    rw [set_two (by omega), ← ha, ← hb, set_two (by omega), ha, hb] at this
    simpa using this
  have e2 : mono (swapL xs k (k + 1)) e = R * (xs.getD (k + 1) 0 ^ a * xs.getD k 0 ^ b) := by
    have := hR a b (xs.getD (k + 1) 0) (xs.getD k 0)
    rw [← swap_set (by omega), ← ha, ← hb, set_two (by omega), ha, hb] at this
    simpa using this
  have e3 : ∀ s t : Int, mono xs (dvS k e s t) = R * (xs.getD k 0 ^ (s - 1 - t).toNat * xs.getD (k + 1) 0 ^ t.toNat) := fun s t => by
    have := hR (s - 1 - t) t (xs.getD k 0) (xs.getD (k + 1) 0)
    rw [set_two (by omega)] at this
    exact this
  rw [e1, e2]
  obtain ⟨X, hX⟩ : ∃ X, X = xs.getD k 0 := ⟨_, rfl⟩
  obtain ⟨Y, hY⟩ : ∃ Y, Y = xs.getD (k + 1) 0 := ⟨_, rfl⟩
  rw [← hX, ← hY] at e3 ⊢
  by_cases hab : e.getD k 0 < e.getD (k + 1) 0
  · rw [dvE_le hab, dvK, Ev_range, ha, hb]
    have hn : ((b : Int) - (a : Int)).toNat = b - a := by omega
    rw [hn, fold_mul R _ (fun j => Y ^ (a + j) * X ^ (b - 1 - j)) _ (fun j hj => by
      rw [e3]
      have h1 : ((a : Int) + (b : Int) - 1 - ((a : Int) + (j : Int))).toNat = b - 1 - j := by omega
      have h2 : ((a : Int) + (j : Int)).toNat = a + j := by omega
      rw [h1, h2, Int.mul_comm (X ^ _)])]
    have t := tele X Y a (b - a) b (by omega)
    have h3 : b - (b - a) = a := by omega
    have h4 : a + (b - a) = b := by omega
    rw [h3, h4] at t
    have h5 : ((List.range (b - a)).foldl (fun s j => s + Y ^ (a + j) * X ^ (b - 1 - j)) 0) = (List.range (b - a)).foldl (fun s j => s + X ^ (b - 1 - j) * Y ^ (a + j)) 0 := by
      congr 1; funext s j; rw [Int.mul_comm (Y ^ _)]
    rw [h5]
    obtain ⟨S, hS⟩ : ∃ S, S = (List.range (b - a)).foldl (fun s j => s + X ^ (b - 1 - j) * Y ^ (a + j)) 0 := ⟨_, rfl⟩
    rw [← hS] at t ⊢
    have : (X - Y) * (-1 * (R * S)) = -(R * ((X - Y) * S)) := by grind
    rw [this, t]
    grind
  · rw [dvE_ge hab, dvK, Ev_range, ha, hb]
    have hn : ((a : Int) - (b : Int)).toNat = a - b := by omega
    rw [hn, fold_mul R _ (fun j => X ^ (a - 1 - j) * Y ^ (b + j)) _ (fun j hj => by
      rw [e3]
      have h1 : ((b : Int) + (a : Int) - 1 - ((b : Int) + (j : Int))).toNat = a - 1 - j := by omega
      have h2 : ((b : Int) + (j : Int)).toNat = b + j := by omega
      rw [h1, h2])]
    have t := tele X Y b (a - b) a (by omega)
    have h3 : a - (a - b) = b := by omega
    have h4 : b + (a - b) = a := by omega
    rw [h3, h4] at t
    obtain ⟨S, hS⟩ : ∃ S, S = (List.range (a - b)).foldl (fun s j => s + X ^ (a - 1 - j) * Y ^ (b + j)) 0 := ⟨_, rfl⟩
    rw [← hS] at t ⊢
    have : (X - Y) * (1 * (R * S)) = R * ((X - Y) * S) := by grind
    rw [this, t]
    grind
theorem dv_val {xs : List Int} {k : Nat} (hk : k < 4) (hx : xs.length = 7) : ∀ {P : Pl}, Pos7 P →
    (xs.getD k 0 - xs.getD (k + 1) 0) * Ev (dvP k P) (mono xs) = Ev P (mono xs) - Ev P (mono (swapL xs k (k + 1)))
  | [], _ => by simp [dvP, Ev]
  | p :: l, h => by
    have ih := dv_val hk hx (P := l) fun q hq => h q (List.mem_cons_of_mem _ hq)
    have hp := h p List.mem_cons_self
    have := dvE_val hk hp.1 hp.2 hx
    rw [Ev_dv] at ih ⊢
    simp only [Ev] at ih ⊢
    rw [Int.mul_add, ih, Int.mul_left_comm, this]
    grind

/-! ### the polynomials have exponents that are not below 0 -/
theorem Pos7.append {P Q : Pl} (h : Pos7 P) (h' : Pos7 Q) : Pos7 (P ++ Q) := fun p hp => (List.mem_append.1 hp).elim (h p) (h' p)
theorem Pos7.scl {P : Pl} (h : Pos7 P) (k : Int) : Pos7 (sclP k P) := fun p hp => by
  obtain ⟨q, hq, rfl⟩ := List.mem_map.1 hp
  exact h q hq
theorem Pos7.rs {P : Pl} (h : Pos7 P) (i : Nat) : Pos7 (rsP i P) := fun p hp => by
  obtain ⟨q, hq, rfl⟩ := List.mem_map.1 hp
  refine ⟨by simpa [rsE] using (h q hq).1, fun x hx => ?_⟩
  rcases List.mem_or_eq_of_mem_set hx with hx | rfl
  · exact (h q hq).2 x hx
  · by_cases hi : i < q.1.length
    · have := (h q hq).2 _ (getD_mem hi); omega
    · rw [List.getD_eq_getElem?_getD, List.getElem?_eq_none (by omega)]; simp
theorem Pos7.dv {P : Pl} (h : Pos7 P) {k : Nat} (hk : k < 4) : Pos7 (dvP k P) := fun p hp => by
  obtain ⟨q, hq, hp⟩ := List.mem_flatMap.1 hp
  obtain ⟨r, hr, rfl⟩ := List.mem_map.1 hp
  have hq' := h q hq
  have h1 := hq'.2 _ (getD_mem (show k < q.1.length by omega))
  have h2 := hq'.2 _ (getD_mem (show k + 1 < q.1.length by omega))
  have key : ∀ s t : Int, 0 ≤ t → t ≤ s - 1 → (dvS k q.1 s t).length = 7 ∧ ∀ x ∈ dvS k q.1 s t, (0 : Int) ≤ x := fun s t ht hs => by
    refine ⟨by simpa [dvS] using hq'.1, fun x hx => ?_⟩
    rcases List.mem_or_eq_of_mem_set hx with hx | rfl
    · rcases List.mem_or_eq_of_mem_set hx with hx | rfl
      · exact hq'.2 x hx
      · exact ht
    · omega
  by_cases hab : q.1.getD k 0 < q.1.getD (k + 1) 0
  · rw [dvE_le hab] at hr
    obtain ⟨j, hj, rfl⟩ := List.mem_map.1 hr
    have := List.mem_range.1 hj
    exact key _ _ (by omega) (by omega)
  · rw [dvE_ge hab] at hr
    obtain ⟨j, hj, rfl⟩ := List.mem_map.1 hr
    have := List.mem_range.1 hj
    exact key _ _ (by omega) (by omega)
theorem fasc_lt {xs : List Int} {k : Nat} (h : fasc xs = some k) : k < xs.length - 1 ∧ xs.getD k 0 < xs.getD (k + 1) 0 ∧ ∀ j, j < k → ¬ xs.getD j 0 < xs.getD (j + 1) 0 := by
  unfold fasc at h
  rw [List.find?_range_eq_some] at h
  obtain ⟨h1, h2, h3⟩ := h
  exact ⟨by simpa using h2, by simpa using h1, fun j hj => by simpa using h3 j hj⟩
theorem Pos7.low {P : Pl} (h : Pos7 P) : ∀ f xs, xs.length ≤ 5 → Pos7 (lowP f xs P)
  | 0, _, _ => h
  | f + 1, xs, hx => by
    rw [lowP]
    cases hf : fasc xs with
    | none => exact h
    | some k => exact (Pos7.low h f _ (by rw [swapL_length]; exact hx)).dv (by have := (fasc_lt hf).1; omega)
theorem Pos7.top (n : Nat) (ys : List Int) : ∀ i, Pos7 (topI n ys i)
  | 0 => fun p hp => by
    obtain rfl := List.mem_singleton.1 hp
    exact ⟨rfl, by simp⟩
  | i + 1 => by
    rw [topI]
    have : ∀ m, Pos7 (topJ i ys m (topI n ys i)) := fun m => by
      induction m with
      | zero => exact Pos7.top n ys i
      | succ m ih => exact (ih.rs i).append (ih.scl _)
    exact this _
/-- the fuel does not matter -/
theorem low_more {P : Pl} : ∀ f g xs, lowOk f xs = true → f ≤ g → lowP g xs P = lowP f xs P
  | 0, 0, _, _, _ => rfl
  | 0, g + 1, xs, h, _ => by
    unfold lowOk at h
    have : fasc xs = none := by simpa using h
    show (match fasc xs with | none => P | some k => dvP k (lowP g (swapL xs k (k + 1)) P)) = P
    rw [this]
  | f + 1, 0, _, _, hg => by omega
  | f + 1, g + 1, xs, h, hg => by
    rw [lowP, lowP]
    unfold lowOk at h
    cases hf : fasc xs with
    | none => rfl
    | some k => rw [hf] at h; dsimp only at h ⊢; rw [low_more f g _ h (by omega)]

end Go.Proofs.YtlbflckoodjokaaGreat

namespace Go.Proofs.YtlbflckoodjokaaGreat
set_option linter.all false
open Go.RowKit

/-! ### permutations: what is decided by looking at all of them -/
theorem toFin {n : Nat} {x : Int} (h : 0 ≤ x ∧ x < (n : Int)) : ∃ a : Fin n, x = ((a : Nat) : Int) := ⟨⟨x.toNat, by omega⟩, by simp; omega⟩
def memB (xs : List Int) : Bool := !permOk xs || (permsL xs.length).contains xs
set_option maxRecDepth 100000 in
theorem mem_1 : ∀ a : Fin 1, memB [((a : Nat) : Int)] = true := by decide +kernel
set_option maxRecDepth 100000 in
theorem mem_2 : ∀ a b : Fin 2, memB [((a : Nat) : Int), ((b : Nat) : Int)] = true := by decide +kernel
set_option maxRecDepth 100000 in
theorem mem_3 : ∀ a b c : Fin 3, memB [((a : Nat) : Int), ((b : Nat) : Int), ((c : Nat) : Int)] = true := by decide +kernel
set_option maxRecDepth 100000 in
theorem mem_4 : ∀ a b c d : Fin 4, memB [((a : Nat) : Int), ((b : Nat) : Int), ((c : Nat) : Int), ((d : Nat) : Int)] = true := by decide +kernel
set_option maxRecDepth 100000 in
theorem mem_5 : ∀ a b c d e : Fin 5, memB [((a : Nat) : Int), ((b : Nat) : Int), ((c : Nat) : Int), ((d : Nat) : Int), ((e : Nat) : Int)] = true := by decide +kernel
theorem perm_mem {xs : List Int} (h : permOk xs = true) (h5 : xs.length ≤ 5) : xs ∈ permsL xs.length := by
  have key : memB xs = true := by
    have hp := h
    simp only [permOk, decide_eq_true_eq] at hp
    obtain ⟨h1, h7, hr, _⟩ := hp
    match xs, h1, h5, hr with
    | [a], _, _, hr =>
      obtain ⟨a, rfl⟩ := toFin (n := 1) (hr a (by simp))
      exact mem_1 a
    | [a, b], _, _, hr =>
      obtain ⟨a, rfl⟩ := toFin (n := 2) (hr a (by simp))
      obtain ⟨b, rfl⟩ := toFin (n := 2) (hr b (by simp))
      exact mem_2 a b
    | [a, b, c], _, _, hr =>
      obtain ⟨a, rfl⟩ := toFin (n := 3) (hr a (by simp))
      obtain ⟨b, rfl⟩ := toFin (n := 3) (hr b (by simp))
      obtain ⟨c, rfl⟩ := toFin (n := 3) (hr c (by simp))
      exact mem_3 a b c
    | [a, b, c, d], _, _, hr =>
      obtain ⟨a, rfl⟩ := toFin (n := 4) (hr a (by simp))
      obtain ⟨b, rfl⟩ := toFin (n := 4) (hr b (by simp))
      obtain ⟨c, rfl⟩ := toFin (n := 4) (hr c (by simp))
      obtain ⟨d, rfl⟩ := toFin (n := 4) (hr d (by simp))
      exact mem_4 a b c d
    | [a, b, c, d, e], _, _, hr =>
      obtain ⟨a, rfl⟩ := toFin (n := 5) (hr a (by simp))
      obtain ⟨b, rfl⟩ := toFin (n := 5) (hr b (by simp))
      obtain ⟨c, rfl⟩ := toFin (n := 5) (hr c (by simp))
      obtain ⟨d, rfl⟩ := toFin (n := 5) (hr d (by simp))
      obtain ⟨e, rfl⟩ := toFin (n := 5) (hr e (by simp))
      exact mem_5 a b c d e
  unfold memB at key
  rw [h] at key
  simpa using key
/-- a check that all permutations of at most five pass -/
def all5 (B : List Int → Bool) : Bool := (List.range 6).all fun n => (permsL n).all fun v => !decide (1 ≤ n) || B v
theorem all5_at {B : List Int → Bool} (h : all5 B = true) {xs : List Int} (hp : permOk xs = true) (h5 : xs.length ≤ 5) : B xs = true := by
  unfold all5 at h
  rw [List.all_eq_true] at h
  have a := h xs.length (List.mem_range.2 (by omega))
  rw [List.all_eq_true] at a
  have b := a xs (perm_mem hp h5)
  have : 1 ≤ xs.length := by simp only [permOk, decide_eq_true_eq] at hp; exact hp.1
  simpa [this] using b

/-- two neighbours exchanged -/
def sw (k : Nat) (v : List Int) : List Int := swapL v k (k + 1)
def ascB (k : Nat) (v : List Int) : Bool := decide (v.getD k 0 < v.getD (k + 1) 0)
/-- the pairs in order -/
def upN (v : List Int) : Nat := ((List.range v.length).map fun j => ((List.range j).filter fun i => decide (v.getD i 0 < v.getD j 0)).length).sum
def ok2B (v : List Int) : Bool := (List.range (v.length - 1)).all fun k => permOk (sw k v) && (if ascB k v then decide (upN (sw k v) + 1 = upN v) && !ascB k (sw k v) else decide (upN (sw k v) = upN v + 1) && ascB k (sw k v))
set_option maxRecDepth 100000 in
theorem ok2_all : all5 ok2B = true := by decide +kernel
theorem sw_length (k : Nat) (v : List Int) : (sw k v).length = v.length := swapL_length _ _ _
structure P5 (n : Nat) (v : List Int) : Prop where
  ok : permOk v = true
  len : v.length = n
  le : n ≤ 5
theorem P5.sw {n : Nat} {v : List Int} (h : P5 n v) {k : Nat} (hk : k + 1 < n) : P5 n (sw k v) := by
  have := all5_at ok2_all h.ok (by have := h.len; have := h.le; omega)
  simp only [ok2B, Bool.and_eq_true, List.all_eq_true, List.mem_range] at this
  exact ⟨(this k (by have := h.len; omega)).1, by rw [sw_length]; exact h.len, h.le⟩
theorem P5.asc {n : Nat} {v : List Int} (h : P5 n v) {k : Nat} (hk : k + 1 < n) (ha : ascB k v = true) : upN (Go.Proofs.YtlbflckoodjokaaGreat.sw k v) + 1 = upN v ∧ ascB k (Go.Proofs.YtlbflckoodjokaaGreat.sw k v) = false := by
  have := all5_at ok2_all h.ok (by have := h.len; have := h.le; omega)
  simp only [ok2B, Bool.and_eq_true, List.all_eq_true, List.mem_range] at this
  have := (this k (by have := h.len; omega)).2
  rw [ha] at this
  simpa using this
theorem P5.desc {n : Nat} {v : List Int} (h : P5 n v) {k : Nat} (hk : k + 1 < n) (ha : ascB k v = false) : upN (Go.Proofs.YtlbflckoodjokaaGreat.sw k v) = upN v + 1 ∧ ascB k (Go.Proofs.YtlbflckoodjokaaGreat.sw k v) = true := by
  have := all5_at ok2_all h.ok (by have := h.len; have := h.le; omega)
  simp only [ok2B, Bool.and_eq_true, List.all_eq_true, List.mem_range] at this
  have := (this k (by have := h.len; omega)).2
  rw [ha] at this
  simpa using this

end Go.Proofs.YtlbflckoodjokaaGreat

namespace Go.Proofs.YtlbflckoodjokaaGreat
set_option linter.all false
set_option maxRecDepth 100000
open Go.RowKit

def lowB (v : List Int) : Bool := lowOk 10 v
def farB (v : List Int) : Bool := (List.range (v.length - 1)).all fun j => (List.range (v.length - 1)).all fun k =>
  !(ascB j v && ascB k v && decide (j + 2 ≤ k)) || (ascB k (sw j v) && ascB j (sw k v) && decide (sw k (sw j v) = sw j (sw k v)))
def nearB (v : List Int) : Bool := (List.range (v.length - 2)).all fun j =>
  !(ascB j v && ascB (j + 1) v) || (ascB (j + 1) (sw j v) && ascB j (sw (j + 1) (sw j v)) && ascB j (sw (j + 1) v) && ascB (j + 1) (sw j (sw (j + 1) v)) && decide (sw j (sw (j + 1) (sw j v)) = sw (j + 1) (sw j (sw (j + 1) v))))
set_option maxRecDepth 100000 in
theorem low_all : all5 lowB = true := by decide +kernel
set_option maxRecDepth 100000 in
theorem far_all : all5 farB = true := by decide +kernel
set_option maxRecDepth 100000 in
theorem near_all : all5 nearB = true := by decide +kernel
theorem P5.low {n : Nat} {v : List Int} (h : P5 n v) : lowOk 10 v = true := all5_at low_all h.ok (by have := h.len; have := h.le; omega)
theorem P5.far {n : Nat} {v : List Int} (h : P5 n v) {j k : Nat} (hk : k + 1 < n) (hjk : j + 2 ≤ k) (ha : ascB j v = true) (hb : ascB k v = true) :
    ascB k (Go.Proofs.YtlbflckoodjokaaGreat.sw j v) = true ∧ ascB j (Go.Proofs.YtlbflckoodjokaaGreat.sw k v) = true ∧ Go.Proofs.YtlbflckoodjokaaGreat.sw k (Go.Proofs.YtlbflckoodjokaaGreat.sw j v) = Go.Proofs.YtlbflckoodjokaaGreat.sw j (Go.Proofs.YtlbflckoodjokaaGreat.sw k v) := by
  have := all5_at far_all h.ok (by have := h.len; have := h.le; omega)
  simp only [farB, List.all_eq_true, List.mem_range] at this
  have := this j (by have := h.len; omega) k (by have := h.len; omega)
  rw [ha, hb] at this
  simpa [hjk, and_assoc] using this
theorem P5.near {n : Nat} {v : List Int} (h : P5 n v) {j : Nat} (hk : j + 2 < n) (ha : ascB j v = true) (hb : ascB (j + 1) v = true) :
    ascB (j + 1) (Go.Proofs.YtlbflckoodjokaaGreat.sw j v) = true ∧ ascB j (Go.Proofs.YtlbflckoodjokaaGreat.sw (j + 1) (Go.Proofs.YtlbflckoodjokaaGreat.sw j v)) = true ∧ ascB j (Go.Proofs.YtlbflckoodjokaaGreat.sw (j + 1) v) = true ∧ ascB (j + 1) (Go.Proofs.YtlbflckoodjokaaGreat.sw j (Go.Proofs.YtlbflckoodjokaaGreat.sw (j + 1) v)) = true ∧
      Go.Proofs.YtlbflckoodjokaaGreat.sw j (Go.Proofs.YtlbflckoodjokaaGreat.sw (j + 1) (Go.Proofs.YtlbflckoodjokaaGreat.sw j v)) = Go.Proofs.YtlbflckoodjokaaGreat.sw (j + 1) (Go.Proofs.YtlbflckoodjokaaGreat.sw j (Go.Proofs.YtlbflckoodjokaaGreat.sw (j + 1) v)) := by
  have := all5_at near_all h.ok (by have := h.len; have := h.le; omega)
  simp only [nearB, List.all_eq_true, List.mem_range] at this
  have := this j (by have := h.len; omega)
  rw [ha, hb] at this
  simpa [and_assoc] using this

end Go.Proofs.YtlbflckoodjokaaGreat
