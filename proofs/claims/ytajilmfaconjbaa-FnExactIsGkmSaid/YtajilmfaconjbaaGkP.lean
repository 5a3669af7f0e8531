/-
  Values at fixed points: the numbers for them, and what IsGkm asks. Plain.
-/
import Derived.Test.YtajilmfaconjbaaPermsLaw
import Derived.Test.YtajilmfaconjbaaMok
namespace Go.Proofs.Ytajilmfaconjbaa
set_option linter.all false
open Go.RowKit

/-- there is a number for each place -/
def nmOk (N : Int) (y : List Int) : Bool := decide (1 ≤ N) && decide (N ≤ 5) && decide ((y.length : Int) = N) && decide (∀ x ∈ y, -9 ≤ x ∧ x ≤ 9)
def shiftB (N : Int) (y : List Int) : Bool := decide ((y.length : Int) = N) && decide (∀ x ∈ y, -9 ≤ x ∧ x ≤ 9)
/-- the numbers are different -/
def apOk (N : Int) (y : List Int) : Bool := nmOk N y && decide (N ≤ 4) && decide y.Nodup
def mostB (vs : List Int) : Bool := decide (∀ x ∈ vs, -1000000000000 ≤ x ∧ x ≤ 1000000000000)
/-- a list with the numbers at two places exchanged -/
def swapL (w : List Int) (i j : Nat) : List Int := (w.set i (w.getD j 0)).set j (w.getD i 0)
theorem swapL_length (w : List Int) (i j : Nat) : (swapL w i j).length = w.length := by simp [swapL]
theorem swapL_getD {w : List Int} {i j t : Nat} (hi : i < w.length) (hj : j < w.length) : (swapL w i j).getD t 0 = if t = j then w.getD i 0 else if t = i then w.getD j 0 else w.getD t 0 := by
  unfold swapL
  by_cases e1 : t = j
  · subst e1
    rw [if_pos rfl, List.getD_eq_getElem?_getD, List.getElem?_set_self (by simpa using hj)]
    rfl
  · rw [if_neg e1, List.getD_eq_getElem?_getD, List.getElem?_set_ne (fun h => e1 h.symm)]
    by_cases e2 : t = i
    · subst e2
      rw [if_pos rfl, List.getElem?_set_self hi]
      rfl
    · rw [if_neg e2, List.getElem?_set_ne (fun h => e2 h.symm), ← List.getD_eq_getElem?_getD]
theorem swapL_comm {w : List Int} {i j : Nat} (hi : i < w.length) (hj : j < w.length) : swapL w i j = swapL w j i := by
  refine getD_eq_list (by rw [swapL_length, swapL_length]) fun t _ => ?_
  rw [swapL_getD hi hj, swapL_getD hj hi]
  by_cases e1 : t = j
  · by_cases e2 : t = i
    · rw [if_pos e1, if_pos e2, ← e1, ← e2]
    · rw [if_pos e1, if_neg e2, if_pos e1]
  · by_cases e2 : t = i
    · rw [if_neg e1, if_pos e2, if_pos e2]
    · rw [if_neg e1, if_neg e2, if_neg e2, if_neg e1]
/-- the code of a list, and its place among the permutations -/
def cdK (xs : List Int) (i t : Nat) : Nat := ((List.range t).filter fun (s : Nat) => decide (xs.getD (i + 1 + s) 0 < xs.getD i 0)).length
def cdA (xs : List Int) (i : Nat) : Nat := cdK xs i (xs.length - (i + 1))
def plA (xs : List Int) : Nat → Nat
  | 0 => 0
  | i + 1 => plA xs i * (xs.length - i) + cdA xs i
def plN (xs : List Int) : Nat := plA xs xs.length
/-- one list comes before another one -/
def ltL : List Int → List Int → Bool
  | [], [] => false
  | [], _ :: _ => true
  | _ :: _, [] => false
  | x :: xs, y :: ys => if x < y then true else if y < x then false else ltL xs ys
def gkChk (n : Nat) : Bool :=
  (List.range (fact n)).all fun x => decide (((permsL n).getD x []).length = n) && ((permsL n).getD x []).all (fun v => decide (0 ≤ v ∧ v < (n : Int))) && decide (((permsL n).getD x []).Nodup) &&
    (List.range n).all (fun j => (List.range j).all fun i => decide (plN (swapL ((permsL n).getD x []) i j) < fact n) && decide ((permsL n).getD (plN (swapL ((permsL n).getD x []) i j)) [] = swapL ((permsL n).getD x []) i j)) &&
    (List.range (fact n)).all fun z => decide (ltL ((permsL n).getD x []) ((permsL n).getD z []) = decide (x < z))
set_option maxRecDepth 100000 in
theorem gk_all : gkChk 1 = true ∧ gkChk 2 = true ∧ gkChk 3 = true ∧ gkChk 4 = true := by decide +kernel
structure GkN (n : Nat) : Prop where
  len : ∀ x, x < fact n → ((permsL n).getD x []).length = n
  rng : ∀ x t, x < fact n → t < n → ∃ m : Nat, ((permsL n).getD x []).getD t 0 = (m : Int) ∧ m < n
  inj : ∀ x s t, x < fact n → s < t → t < n → ((permsL n).getD x []).getD s 0 ≠ ((permsL n).getD x []).getD t 0
  plc : ∀ x i j, x < fact n → i < j → j < n → plN (swapL ((permsL n).getD x []) i j) < fact n ∧ (permsL n).getD (plN (swapL ((permsL n).getD x []) i j)) [] = swapL ((permsL n).getD x []) i j
  lt : ∀ x z, x < fact n → z < fact n → ltL ((permsL n).getD x []) ((permsL n).getD z []) = decide (x < z)
theorem gkN {n : Nat} (h1 : 1 ≤ n) (h4 : n ≤ 4) : GkN n := by
  have hc : gkChk n = true := by
    have : n = 1 ∨ n = 2 ∨ n = 3 ∨ n = 4 := by omega
    rcases this with rfl | rfl | rfl | rfl
    · exact gk_all.1
    · exact gk_all.2.1
    · exact gk_all.2.2.1
    · exact gk_all.2.2.2
  unfold gkChk at hc
  simp only [List.all_eq_true, List.mem_range, Bool.and_eq_true, decide_eq_true_eq] at hc
  refine ⟨fun x hx => (hc x hx).1.1.1.1, fun x t hx ht => ?_, fun x s t hx hs ht e => ?_, fun x i j hx hi hj => (hc x hx).1.2 j hj i hi, fun x z hx hz => (hc x hx).2 z hz⟩
  · have hl := (hc x hx).1.1.1.1
    have := (hc x hx).1.1.1.2 _ (getD_mem (show t < ((permsL n).getD x []).length by omega))
    exact ⟨(((permsL n).getD x []).getD t 0).toNat, by omega, by omega⟩
  · have hl := (hc x hx).1.1.1.1
    have hn := (hc x hx).1.1.2
    have a : s < ((permsL n).getD x []).length := by omega
    have b : t < ((permsL n).getD x []).length := by omega
    rw [getD_lt a, getD_lt b] at e
    exact List.pairwise_iff_getElem.1 hn s t a b hs e

/-- the condition at one place and two numbers -/
def gkAt (n : Nat) (vs y : List Int) (x i j : Nat) : Prop :=
  (vs.getD x 0 - vs.getD (plN (swapL ((permsL n).getD x []) i j)) 0).tmod (y.getD (((permsL n).getD x []).getD i 0).toNat 0 - y.getD (((permsL n).getD x []).getD j 0).toNat 0) = 0
/-- what IsGkm says -/
def GkIs (N : Int) (vs y : List Int) (b : Bool) : Prop :=
  b = true ↔ apOk N y = true ∧ vs.length = fact N.toNat ∧ mostB vs = true ∧ ∀ x i j, x < fact N.toNat → i < j → j < N.toNat → gkAt N.toNat vs y x i j
theorem GkIs.one {N : Int} {vs y : List Int} {b b' : Bool} (h : GkIs N vs y b) (h' : GkIs N vs y b') : b = b' := by
  unfold GkIs at h h'
  have e : b = true ↔ b' = true := h.trans h'.symm
  cases b <;> cases b' <;> simp_all
theorem GkIs.eps {N : Int} {vs y : List Int} {b : Bool} (h : GkIs N vs y b) : b = Classical.epsilon (GkIs N vs y) := h.one (Classical.epsilon_spec ⟨b, h⟩)
theorem GkIs.no1 {N : Int} {vs y : List Int} (h : apOk N y = false) : GkIs N vs y false := ⟨fun e => (by cases e), fun e => by rw [h] at e; cases e.1⟩
theorem GkIs.no2 {N : Int} {vs y : List Int} (h : ¬ vs.length = fact N.toNat) : GkIs N vs y false := ⟨fun e => (by cases e), fun e => absurd e.2.1 h⟩
theorem GkIs.no3 {N : Int} {vs y : List Int} (h : mostB vs = false) : GkIs N vs y false := ⟨fun e => (by cases e), fun e => by have := e.2.2.1; rw [h] at this; cases this⟩
theorem GkIs.no4 {N : Int} {vs y : List Int} {x i j : Nat} (h1 : x < fact N.toNat) (h2 : i < j) (h3 : j < N.toNat) (h : ¬ gkAt N.toNat vs y x i j) : GkIs N vs y false := ⟨fun e => (by cases e), fun e => absurd (e.2.2.2 x i j h1 h2 h3) h⟩

end Go.Proofs.Ytajilmfaconjbaa
