/-
  Permutations of at most five: what is decided by looking at all of them. Plain.
  What the reference asks of numbers and values; its exchange of two places, codes and places.
  The reference's code of a list, and its place among the permutations.
  Lengths and words of permutations. Plain.
  l1Rank, RankAt: how many of the first r numbers of a permutation are less than c.
  The order of permutations by their ranks. Plain.
  The positions of three flags: plain.
  Words, and a permutation after another: plain.
  The positions of three flags, on lists: below the Demazure product, the product where lengths add. Plain.
-/
import Derived.Test.YtpfefjdefopccaaJ11
import Derived.Test.YtpfefjdefopccaaJ4
import Derived.Test.YtpfefjdefopccaaJ10
import Derived.Test.YtpfefjdefopccaaJ1
import Derived.Test.YtpfefjdefopccaaJ2
namespace Go.Proofs.Ytpfefjdefopccaa
set_option linter.all false
open Go.RowKit

/-! ### permutations: what is decided by looking at all of them -/
theorem toFin {n : Nat} {x : Int} (h : 0 ≤ x ∧ x < (n : Int)) : ∃ a : Fin n, x = ((a : Nat) : Int) := ⟨⟨x.toNat, by omega⟩, by simp; omega⟩
def memB (xs : List Int) : Bool := !permOk xs || (permsL xs.length).contains xs
set_option maxRecDepth 100000 in
theorem mem_1 : ∀ a : Fin 1, memB [((a : Nat) : Int)] = true := by decide +kernel
set_option maxRecDepth 100000 in
theorem mem_2 : ∀ a b : Fin 2, memB [((a : Nat) : Int), ((b : Nat) : Int)] = true := by decide +kernel
set_option maxRecDepth 100000 in
theorem mem_3 : ∀ a b c : Fin 3, memB [((a : Nat) : Int), ((b : Nat) : Int), ((c : Nat) : Int)] = true := by decide +kernel
set_option maxRecDepth 100000 in
theorem mem_4 : ∀ a b c d : Fin 4, memB [((a : Nat) : Int), ((b : Nat) : Int), ((c : Nat) : Int), ((d : Nat) : Int)] = true := by decide +kernel
set_option maxRecDepth 100000 in
theorem mem_5 : ∀ a b c d e : Fin 5, memB [((a : Nat) : Int), ((b : Nat) : Int), ((c : Nat) : Int), ((d : Nat) : Int), ((e : Nat) : Int)] = true := by decide +kernel
theorem perm_mem {xs : List Int} (h : permOk xs = true) (h5 : xs.length ≤ 5) : xs ∈ permsL xs.length := by
  have key : memB xs = true := by
    have hp := h
    simp only [permOk, decide_eq_true_eq] at hp
    obtain ⟨h1, h7, hr, _⟩ := hp
    match xs, h1, h5, hr with
    | [a], _, _, hr =>
      obtain ⟨a, rfl⟩ := toFin (n := 1) (hr a (by simp))
      exact mem_1 a
    | [a, b], _, _, hr =>
      obtain ⟨a, rfl⟩ := toFin (n := 2) (hr a (by simp))
      obtain ⟨b, rfl⟩ := toFin (n := 2) (hr b (by simp))
      exact mem_2 a b
    | [a, b, c], _, _, hr =>
      obtain ⟨a, rfl⟩ := toFin (n := 3) (hr a (by simp))
      obtain ⟨b, rfl⟩ := toFin (n := 3) (hr b (by simp))
      obtain ⟨c, rfl⟩ := toFin (n := 3) (hr c (by simp))
      exact mem_3 a b c
    | [a, b, c, d], _, _, hr =>
      obtain ⟨a, rfl⟩ := toFin (n := 4) (hr a (by simp))
      obtain ⟨b, rfl⟩ := toFin (n := 4) (hr b (by simp))
      obtain ⟨c, rfl⟩ := toFin (n := 4) (hr c (by simp))
      obtain ⟨d, rfl⟩ := toFin (n := 4) (hr d (by simp))
      exact mem_4 a b c d
    | [a, b, c, d, e], _, _, hr =>
      obtain ⟨a, rfl⟩ := toFin (n := 5) (hr a (by simp))
      obtain ⟨b, rfl⟩ := toFin (n := 5) (hr b (by simp))
      obtain ⟨c, rfl⟩ := toFin (n := 5) (hr c (by simp))
      obtain ⟨d, rfl⟩ := toFin (n := 5) (hr d (by simp))
      obtain ⟨e, rfl⟩ := toFin (n := 5) (hr e (by simp))
      exact mem_5 a b c d e
  unfold memB at key
  rw [h] at key
  simpa using key
/-- a check that all permutations of at most five pass -/
def all5 (B : List Int → Bool) : Bool := (List.range 6).all fun n => (permsL n).all fun v => !decide (1 ≤ n) || B v
theorem all5_at {B : List Int → Bool} (h : all5 B = true) {xs : List Int} (hp : permOk xs = true) (h5 : xs.length ≤ 5) : B xs = true := by
  unfold all5 at h
  rw [List.all_eq_true] at h
  have a := h xs.length (List.mem_range.2 (by omega))
  rw [List.all_eq_true] at a
  have b := a xs (perm_mem hp h5)
  have : 1 ≤ xs.length := by simp only [permOk, decide_eq_true_eq] at hp; exact hp.1
  simpa [this] using b

/-- two neighbours exchanged -/
def sw (k : Nat) (v : List Int) : List Int := swapL v k (k + 1)
def ascB (k : Nat) (v : List Int) : Bool := decide (v.getD k 0 < v.getD (k + 1) 0)
/-- the pairs in order -/
def upN (v : List Int) : Nat := ((List.range v.length).map fun j => ((List.range j).filter fun i => decide (v.getD i 0 < v.getD j 0)).length).sum
def ok2B (v : List Int) : Bool := (List.range (v.length - 1)).all fun k => permOk (sw k v) && (if ascB k v then decide (upN (sw k v) + 1 = upN v) && !ascB k (sw k v) else decide (upN (sw k v) = upN v + 1) && ascB k (sw k v))
set_option maxRecDepth 100000 in
theorem ok2_all : all5 ok2B = true := by decide +kernel
theorem sw_length (k : Nat) (v : List Int) : (sw k v).length = v.length := swapL_length _ _ _
structure P5 (n : Nat) (v : List Int) : Prop where
  ok : permOk v = true
  len : v.length = n
  le : n ≤ 5
theorem P5.sw {n : Nat} {v : List Int} (h : P5 n v) {k : Nat} (hk : k + 1 < n) : P5 n (sw k v) := by
  have := all5_at ok2_all h.ok (by have := h.len; have := h.le; omega)
  simp only [ok2B, Bool.and_eq_true, List.all_eq_true, List.mem_range] at this
  exact ⟨(this k (by have := h.len; omega)).1, by rw [sw_length]; exact h.len, h.le⟩
theorem P5.asc {n : Nat} {v : List Int} (h : P5 n v) {k : Nat} (hk : k + 1 < n) (ha : ascB k v = true) : upN (Go.Proofs.Ytpfefjdefopccaa.sw k v) + 1 = upN v ∧ ascB k (Go.Proofs.Ytpfefjdefopccaa.sw k v) = false := by
  have := all5_at ok2_all h.ok (by have := h.len; have := h.le; omega)
  simp only [ok2B, Bool.and_eq_true, List.all_eq_true, List.mem_range] at this
  have := (this k (by have := h.len; omega)).2
  rw [ha] at this
  simpa using this
theorem P5.desc {n : Nat} {v : List Int} (h : P5 n v) {k : Nat} (hk : k + 1 < n) (ha : ascB k v = false) : upN (Go.Proofs.Ytpfefjdefopccaa.sw k v) = upN v + 1 ∧ ascB k (Go.Proofs.Ytpfefjdefopccaa.sw k v) = true := by
  have := all5_at ok2_all h.ok (by have := h.len; have := h.le; omega)
  simp only [ok2B, Bool.and_eq_true, List.all_eq_true, List.mem_range] at this
  have := (this k (by have := h.len; omega)).2
  rw [ha] at this
  simpa using this

end Go.Proofs.Ytpfefjdefopccaa

namespace Go.Proofs.Ytpfefjdefopccaa
set_option linter.all false
open Go.RowKit

theorem nm_no1 {N : Int} {y : List Int} (h : ¬ (1 ≤ N ∧ N ≤ 5)) : nmOk N y = false := by
  unfold nmOk
  by_cases h1 : 1 ≤ N
  · rw [decide_eq_false (show ¬ N ≤ 5 by omega)]; simp
  · rw [decide_eq_false h1]; simp
theorem nm_no2 {N : Int} {y : List Int} (h : ¬ (y.length : Int) = N) : nmOk N y = false := by
  unfold nmOk
  rw [decide_eq_false h]; simp
theorem nm_no3 {N : Int} {y : List Int} {k : Nat} (hk : k < y.length) (h : ¬ (-9 ≤ y.getD k 0 ∧ y.getD k 0 ≤ 9)) : nmOk N y = false := by
  unfold nmOk
  rw [decide_eq_false (show ¬ ∀ x ∈ y, -9 ≤ x ∧ x ≤ 9 from fun e => h (e _ (getD_mem hk)))]; simp
theorem all_of_getD {y : List Int} {Q : Int → Prop} (h : ∀ k, k < y.length → Q (y.getD k 0)) : ∀ x ∈ y, Q x := fun x hx => by
  obtain ⟨k, hk, rfl⟩ := List.mem_iff_getElem.1 hx
  have := h k hk
  rwa [getD_lt hk] at this
theorem nm_yes {N : Int} {y : List Int} (h : 1 ≤ N ∧ N ≤ 5) (hl : (y.length : Int) = N) (hk : ∀ k, k < y.length → -9 ≤ y.getD k 0 ∧ y.getD k 0 ≤ 9) : nmOk N y = true := by
  unfold nmOk
  rw [decide_eq_true h.1, decide_eq_true h.2, decide_eq_true hl, decide_eq_true (all_of_getD hk)]; rfl
theorem nm_facts {N : Int} {y : List Int} (h : nmOk N y = true) : ∃ n : Nat, N = n ∧ 1 ≤ n ∧ n ≤ 5 ∧ y.length = n ∧ ∀ k, k < n → -9 ≤ y.getD k 0 ∧ y.getD k 0 ≤ 9 := by
  unfold nmOk at h
  simp only [Bool.and_eq_true, decide_eq_true_eq] at h
  obtain ⟨⟨⟨h1, h2⟩, h3⟩, h4⟩ := h
  exact ⟨y.length, h3.symm, by omega, by omega, rfl, fun k hk => h4 _ (getD_mem hk)⟩

theorem ints_takeP2 {w : World} {p : Option Addr} {cap : Nat} {xs : List Int} (h : Ints w (.slice p xs.length cap) xs) {i : Nat} (hi : i ≤ xs.length) : Ints w (.slice p i cap) (xs.take i) := h.take i hi
/-! ### different numbers -/
theorem ap_no1 {N : Int} {y : List Int} (h : nmOk N y = false) : apOk N y = false := by simp [apOk, h]
theorem ap_no2 {N : Int} {y : List Int} (h : ¬ N ≤ 4) : apOk N y = false := by simp [apOk, h]
theorem nodup_no {y : List Int} {k : Nat} (hk : k < y.length) (h : y.getD k 0 ∈ y.take k) : ¬ y.Nodup := fun hn => by
  obtain ⟨j, hj, e⟩ := List.mem_iff_getElem.1 h
  have hj' : j < k := by rw [List.length_take] at hj; omega
  rw [List.getElem_take, getD_lt hk] at e
  exact List.pairwise_iff_getElem.1 hn j k (by omega) hk hj' e
theorem nodup_yes {y : List Int} (h : ∀ k, k < y.length → ¬ y.getD k 0 ∈ y.take k) : y.Nodup := by
  refine List.pairwise_iff_getElem.2 fun i j hi hj hij e => h j hj ?_
  rw [getD_lt hj, ← e]
  exact List.mem_iff_getElem.2 ⟨i, by rw [List.length_take]; omega, by rw [List.getElem_take]⟩
theorem ap_no3 {N : Int} {y : List Int} {k : Nat} (hk : k < y.length) (h : y.getD k 0 ∈ y.take k) : apOk N y = false := by
  unfold apOk
  rw [decide_eq_false (nodup_no hk h)]; simp
theorem ap_yes {N : Int} {y : List Int} (h1 : nmOk N y = true) (h2 : N ≤ 4) (h : ∀ k, k < y.length → ¬ y.getD k 0 ∈ y.take k) : apOk N y = true := by
  unfold apOk
  rw [h1, decide_eq_true h2, decide_eq_true (nodup_yes h)]; rfl
theorem ap_facts {N : Int} {y : List Int} (h : apOk N y = true) : ∃ n : Nat, N = n ∧ 1 ≤ n ∧ n ≤ 4 ∧ y.length = n ∧ (∀ k, k < n → -9 ≤ y.getD k 0 ∧ y.getD k 0 ≤ 9) ∧ ∀ i j, i < n → j < n → i ≠ j → y.getD i 0 ≠ y.getD j 0 := by
  unfold apOk at h
  simp only [Bool.and_eq_true, decide_eq_true_eq] at h
  obtain ⟨⟨h1, h2⟩, h3⟩ := h
  obtain ⟨n, rfl, a, b, c, d⟩ := nm_facts h1
  refine ⟨n, rfl, a, by omega, c, d, fun i j hi hj hij e => ?_⟩
  rw [getD_lt (show i < y.length by omega), getD_lt (show j < y.length by omega)] at e
  rcases Nat.lt_or_gt_of_ne hij with h | h
  · exact List.pairwise_iff_getElem.1 h3 i j (by omega) (by omega) h e
  · exact List.pairwise_iff_getElem.1 h3 j i (by omega) (by omega) h e.symm

/-! ### values -/
theorem most_no {vs : List Int} {k : Nat} (hk : k < vs.length) (h : ¬ (-1000000000000 ≤ vs.getD k 0 ∧ vs.getD k 0 ≤ 1000000000000)) : mostB vs = false :=
  decide_eq_false fun e => h (e _ (getD_mem hk))
theorem most_yes {vs : List Int} (h : ∀ k, k < vs.length → -1000000000000 ≤ vs.getD k 0 ∧ vs.getD k 0 ≤ 1000000000000) : mostB vs = true := decide_eq_true (all_of_getD h)
theorem most_at {vs : List Int} (h : mostB vs = true) {k : Nat} (hk : k < vs.length) : -1000000000000 ≤ vs.getD k 0 ∧ vs.getD k 0 ≤ 1000000000000 := of_decide_eq_true h _ (getD_mem hk)

/-! ### two places exchanged -/
theorem OwnI.setG {T : TypeId} {w : World} {lo hi g n cap t : Nat} {D : List Int} (h : OwnI T w lo hi (.slice (some ⟨g, 0, none⟩) n cap) D) (ht : t < D.length) (x : Int) : OwnI T (w.setCell ⟨g, t, none⟩ (.int .i64 x)) lo hi (.slice (some ⟨g, 0, none⟩) n cap) (D.set t x) := by
  refine OwnF.ints ?_
  rw [List.length_set]
  refine (h.fn.set t _).congr fun j hj => ?_
  unfold iv
  by_cases e : j = t
  · subst e; simp [List.getD_eq_getElem?_getD, ht]
  · simp [e, List.getD_eq_getElem?_getD, List.getElem?_set_ne (fun h => e h.symm)]

end Go.Proofs.Ytpfefjdefopccaa

namespace Go.Proofs.Ytpfefjdefopccaa
set_option linter.all false
open Go.RowKit

theorem cdK_yes {xs : List Int} {i t : Nat} (h : xs.getD (i + 1 + t) 0 < xs.getD i 0) : cdK xs i (t + 1) = cdK xs i t + 1 := by
  unfold cdK
  rw [List.range_succ, List.filter_append]
  simp only [List.filter_cons, List.filter_nil, h, decide_true, if_true, List.length_append, List.length_singleton]
theorem cdK_no {xs : List Int} {i t : Nat} (h : ¬ xs.getD (i + 1 + t) 0 < xs.getD i 0) : cdK xs i (t + 1) = cdK xs i t := by
  unfold cdK
  rw [List.range_succ, List.filter_append]
  have e : List.filter (fun (s : Nat) => decide (xs.getD (i + 1 + s) 0 < xs.getD i 0)) [t] = [] := by
    rw [List.filter_cons, decide_eq_false h]; rfl
  rw [e, List.append_nil]
theorem cdK_le (xs : List Int) (i t : Nat) : cdK xs i t ≤ t := by
  unfold cdK
  exact Nat.le_trans (List.length_filter_le _ _) (by simp)
def cdF (xs : List Int) (i t j : Nat) : Nat := if j < i then cdA xs j else if j = i then cdK xs i t else 0
def cdL (xs : List Int) : List Int := (List.range xs.length).map fun i => (cdA xs i : Int)
theorem cdL_length (xs : List Int) : (cdL xs).length = xs.length := by simp [cdL]
theorem cdL_getD {xs : List Int} {i : Nat} (h : i < xs.length) : (cdL xs).getD i 0 = (cdA xs i : Int) := by simp [cdL, List.getD_eq_getElem?_getD, h]

end Go.Proofs.Ytpfefjdefopccaa

namespace Go.Proofs.Ytpfefjdefopccaa
set_option linter.all false
open Go.RowKit

def lnK (xs : List Int) : Nat → Nat
  | 0 => 0
  | k + 1 => lnK xs k + cdA xs k
/-- how many inversions -/
def lnN (xs : List Int) : Nat := lnK xs xs.length
theorem lnK_le (xs : List Int) (h : xs.length ≤ 10) : ∀ k, k ≤ xs.length → lnK xs k ≤ k * 10
  | 0, _ => Nat.le_refl _
  | k + 1, hk => by
    have a := lnK_le xs h k (by omega)
    have b := cdK_le xs k (xs.length - (k + 1))
    rw [lnK]
    unfold cdA
    omega
/-- the first place where a list goes down -/
def fdN (b : List Int) : Nat := ((List.range (b.length - 1)).find? fun k => !ascB k b).getD 0
def frN (w : List Int) : Nat := fdN (invL w)
/-- the values k and k + 1 exchanged -/
def frV (w : List Int) (k : Nat) : List Int := (w.set ((invL w).getD k 0).toNat ((k + 1 : Nat) : Int)).set ((invL w).getD (k + 1) 0).toNat (k : Int)
def frS (w : List Int) : List Int := frV w (frN w)
def firL : Nat → List Int → List Nat
  | 0, _ => []
  | f + 1, w => frN w :: firL f (frS w)
/-- the word of the reference -/
def fstL (w : List Int) : List Nat := firL (lnN w) w
/-- a word played -/
def play (r : List Nat) (u : List Int) : List Int := r.foldl (fun u k => sw k u) u

def firB (w : List Int) : Bool := decide (lnN w = 0) || (decide (frN w + 1 < w.length) && !ascB (frN w) (invL w) && (List.range (frN w)).all (fun j => ascB j (invL w)) && permOk (frS w) && decide (lnN (frS w) + 1 = lnN w) && (invL w).all (fun x => decide (0 ≤ x ∧ x < (w.length : Int))))
def wrdB (w : List Int) : Bool := decide (play (fstL w) (idL w.length) = w) && (fstL w).all (fun k => decide (k + 1 < w.length)) && decide ((fstL w).length ≤ 10) && decide (lnN w + upN w = w.length * (w.length - 1) / 2)
set_option maxRecDepth 100000 in
theorem fir_all : all5 firB = true := by decide +kernel
set_option maxRecDepth 100000 in
theorem wrd_all : all5 wrdB = true := by decide +kernel
structure FirAt (w : List Int) : Prop where
  lt : frN w + 1 < w.length
  down : ascB (frN w) (invL w) = false
  up : ∀ j, j < frN w → ascB j (invL w) = true
  ok : permOk (frS w) = true
  less : lnN (frS w) + 1 = lnN w
  rng : ∀ j, j < w.length → ∃ m : Nat, (invL w).getD j 0 = (m : Int) ∧ m < w.length
theorem fir_at {n : Nat} {w : List Int} (h : P5 n w) (h0 : lnN w ≠ 0) : FirAt w := by
  have := all5_at fir_all h.ok (by have := h.len; have := h.le; omega)
  unfold firB at this
  rw [decide_eq_false h0, Bool.false_or] at this
  simp only [Bool.and_eq_true, decide_eq_true_eq, List.all_eq_true, List.mem_range] at this
  obtain ⟨⟨⟨⟨⟨h1, h2⟩, h3⟩, h4⟩, h5⟩, h6⟩ := this
  refine ⟨h1, by simpa using h2, h3, h4, h5, fun j hj => ?_⟩
  have := h6 _ (getD_mem (show j < (invL w).length by rw [invL_length]; exact hj))
  exact ⟨((invL w).getD j 0).toNat, by omega, by omega⟩
theorem wrd_at {n : Nat} {w : List Int} (h : P5 n w) : play (fstL w) (idL n) = w ∧ (∀ k ∈ fstL w, k + 1 < n) ∧ (fstL w).length ≤ 10 ∧ lnN w + upN w = n * (n - 1) / 2 := by
  have := all5_at wrd_all h.ok (by have := h.len; have := h.le; omega)
  unfold wrdB at this
  rw [h.len] at this
  simp only [Bool.and_eq_true, decide_eq_true_eq, List.all_eq_true] at this
  exact ⟨this.1.1.1, this.1.1.2, this.1.2, this.2⟩
theorem P5.mk' {w : List Int} (h : permOk w = true) (h5 : w.length ≤ 5) : P5 w.length w := ⟨h, rfl, h5⟩
theorem P5.rng {n : Nat} {w : List Int} (h : P5 n w) {j : Nat} (hj : j < n) : ∃ m : Nat, w.getD j 0 = (m : Int) ∧ m < n := by
  have hp := h.ok
  simp only [permOk, decide_eq_true_eq] at hp
  have := hp.2.2.1 _ (getD_mem (show j < w.length by rw [h.len]; exact hj))
  rw [h.len] at this
  exact ⟨(w.getD j 0).toNat, by omega, by omega⟩
theorem P5.id {n : Nat} (h1 : 1 ≤ n) (h5 : n ≤ 5) : P5 n (idL n) := ⟨idL_ok h1 (by omega), idL_length n, h5⟩

end Go.Proofs.Ytpfefjdefopccaa

namespace Go.Proofs.Ytpfefjdefopccaa
set_option linter.all false
open Go.RowKit

theorem cell_kept {w w' : World} {a : Addr} {v : Value} (hb : Below w.heap.size w w') (h : w.cell? a = some v) : w'.cell? a = some v := by
  rw [hb.cell (World.block_lt_of_cell? _ _ h)]; exact h
def rkL (xs : List Int) (c : Int) : Nat → Nat
  | 0 => 0
  | r + 1 => rkL xs c r + if xs.getD r 0 < c then 1 else 0
theorem rkL_le (xs : List Int) (c : Int) : ∀ r, rkL xs c r ≤ r
  | 0 => Nat.le_refl _
  | r + 1 => by have := rkL_le xs c r; unfold rkL; split <;> omega

set_option maxRecDepth 100000 in
set_option maxHeartbeats 2000000 in
theorem implRankAt_any (v : Value) (xs : List Int) (r c : Nat) (w : World) (h : Ints w v xs) (hp : permOk xs = true) (hr : r ≤ xs.length) (hc : c ≤ xs.length) (hx : xs.length ≤ 7) (h0 : 0 < xs.length) :
    Calls Try.prog 28 #[v, .int .i64 (r : Int), .int .i64 (c : Int)] w fun e w' => e = .returned (.int .i64 (rkL xs c r : Nat)) ∧ Below w.heap.size w w' := by
  have H := Lib.hid h
  have Hp := Lib.hid hp
  obtain ⟨p, cap, rfl, ⟨hx1, hx2⟩, hxc⟩ := h
  unfold maxLen at hx2
  obtain ⟨b, off, rfl, hcx⟩ := hxc h0
  have Hcx := Lib.hid hcx
  have t1 : decide ((r : Int) < 0) = false := decide_eq_false (by omega)
  have t2 : decide (xs.length < r) = false := decide_eq_false (by omega)
  have t3 : decide ((c : Int) < 0) = false := decide_eq_false (by omega)
  have t4 : decide (xs.length < c) = false := decide_eq_false (by omega)
  have hrk : (r : Int) ≤ (cap : Int) := by omega
  clear hxc hp hcx
  go_enter Try.func28, Try.ntmps28
  go_wp2_with fail
  refine (implIsPerm_b _ xs _ Hp.out _ H.out).mono ?_
  rintro e w1 ⟨rfl, hb⟩
  have Hb := Lib.hid hb
  clear hb
  go_wp2_with fail
  clear t1 t2 t3 t4
  go_loopg [7, 9, 37] r (fun g s7 s9 s37 wr => ∃ (k n : Nat), k ≤ r ∧ g = r - k ∧ s37 = .int .i64 k ∧ s7 = .int .i64 n ∧ n ≤ k ∧ Hid (n = rkL xs c k) ∧ Qt w1 wr)
  case atStart => exact ⟨0, 0, Nat.zero_le _, rfl, rfl, rfl, Nat.le_refl _, rfl, Qt.refl _⟩
  case round =>
    obtain ⟨k, n, hk, rfl, rfl, rfl, hnk, hn, hq⟩ := hrel
    by_cases hlt : k < r
    · have c1 := hq.cell (cell_kept Hb.out (Hcx.out k (by omega)))
      unfold iv at c1
      have hs : rkL xs c (k + 1) = rkL xs c k + if xs.getD k 0 < c then 1 else 0 := rfl
      generalize xs.getD k 0 = y at c1 hs
      by_cases hy : y < c
      · rw [if_pos hy] at hs
        have Hs := Lib.hid hs
        clear hs
        go_wp2_with fail
        go_roundg (r - (k + 1))
        case measure => omega
        case rel => exact ⟨k + 1, n + 1, by omega, rfl, by go_num, by go_num, by omega, by unfold Hid; rw [Hs.out, ← hn.out], hq⟩
      · rw [if_neg hy] at hs
        have hy2 : decide (y < (c : Int)) = false := decide_eq_false hy
        have Hs := Lib.hid hs
        clear hs
        go_wp2_with fail
        go_roundg (r - (k + 1))
        case measure => omega
        case rel => exact ⟨k + 1, n, by omega, rfl, by go_num, rfl, by omega, by unfold Hid; rw [Hs.out, ← hn.out, Nat.add_zero], hq⟩
    · obtain rfl : k = r := by omega
      go_wp2_with fail
      go_ret
      rw [← hn.out]
      exact ⟨rfl, Hb.out.trans (hq.below _)⟩

end Go.Proofs.Ytpfefjdefopccaa

namespace Go.Proofs.Ytpfefjdefopccaa
set_option linter.all false
open Go.RowKit

/-- one permutation below another one, by the ranks -/
def blwB (v w : List Int) : Bool := (List.range (v.length + 1)).all fun r => (List.range (v.length + 1)).all fun c => decide (rkL w (c : Int) r ≤ rkL v (c : Int) r)
/-- a check that all pairs of permutations of at most four pass -/
def pair4 (B : List Int → List Int → Bool) : Bool := (List.range 5).all fun n => (permsL n).all fun v => (permsL n).all fun w => !decide (1 ≤ n) || B v w
theorem pair4_at {B : List Int → List Int → Bool} (h : pair4 B = true) {v w : List Int} {n : Nat} (hv : P5 n v) (hw : P5 n w) (h4 : n ≤ 4) : B v w = true := by
  unfold pair4 at h
  rw [List.all_eq_true] at h
  have a := h n (List.mem_range.2 (by omega))
  rw [List.all_eq_true] at a
  have mv := perm_mem hv.ok (by rw [hv.len]; omega)
  have mw := perm_mem hw.ok (by rw [hw.len]; omega)
  rw [hv.len] at mv
  rw [hw.len] at mw
  have b := a v mv
  rw [List.all_eq_true] at b
  have c := b w mw
  have : 1 ≤ n := by have := hv.ok; simp only [permOk, decide_eq_true_eq] at this; have := hv.len; omega
  simpa [this] using c
def bruB (v w : List Int) : Bool := (List.range (v.length - 1)).all fun k => !ascB k w || decide (blwB v (sw k w) = (blwB v w || (!ascB k v && blwB (sw k v) w)))
def blidB (v : List Int) : Bool := decide (blwB v (idL v.length) = decide (idL v.length = v)) && (decide (lnN v = 0) || (List.range (v.length - 1)).any fun k => !ascB k v)
set_option maxRecDepth 100000 in
theorem bru_all : pair4 bruB = true := by decide +kernel
set_option maxRecDepth 100000 in
theorem blid_all : all5 blidB = true := by decide +kernel
theorem bru_at {n : Nat} {v w : List Int} (hv : P5 n v) (hw : P5 n w) (h4 : n ≤ 4) {k : Nat} (hk : k + 1 < n) (ha : ascB k w = true) : blwB v (sw k w) = (blwB v w || (!ascB k v && blwB (sw k v) w)) := by
  have := pair4_at bru_all hv hw h4
  simp only [bruB, List.all_eq_true, List.mem_range] at this
  have := this k (by rw [hv.len]; omega)
  rw [ha] at this
  simpa using this
theorem blid_at {n : Nat} {v : List Int} (hv : P5 n v) : blwB v (idL n) = decide (idL n = v) ∧ (lnN v = 0 ∨ ∃ k, k + 1 < n ∧ ascB k v = false) := by
  have := all5_at blid_all hv.ok (by have := hv.len; have := hv.le; omega)
  simp only [blidB, Bool.and_eq_true, decide_eq_true_eq, Bool.or_eq_true, List.any_eq_true, List.mem_range] at this
  rw [hv.len] at this
  refine ⟨this.1, this.2.imp_right fun ⟨k, hk, h⟩ => ⟨k, by omega, by simpa using h⟩⟩
theorem id_of_len {n : Nat} {w : List Int} (hw : P5 n w) (h0 : lnN w = 0) : w = idL n := by
  have := (wrd_at hw).1
  unfold fstL at this
  rw [h0] at this
  exact this.symm
theorem len_desc {n : Nat} {w : List Int} (hw : P5 n w) {k : Nat} (hk : k + 1 < n) (ha : ascB k w = false) : lnN (sw k w) + 1 = lnN w := by
  have a := (wrd_at hw).2.2.2
  have b := (wrd_at (hw.sw hk)).2.2.2
  have c := (hw.desc hk ha).1
  omega
end Go.Proofs.Ytpfefjdefopccaa

namespace Go.Proofs.Ytpfefjdefopccaa
set_option linter.all false
set_option maxRecDepth 100000
open Go.RowKit

/-! ### a flag changed at one member -/
/-- the position of two flags, as a function -/
def Ps (P : Int) (n : Nat) (A B : Nat → Nat → Int) (p : Nat → Nat) : Prop := ∃ r, RkF P n A B r ∧ ∀ i, i < n → p i < n ∧ Rk.At r i (p i)
section
variable {P : Int} {n : Nat} {A A' B C : Nat → Nat → Int} {p q : Nat → Nat}
theorem Ps.ex (ha : FlM P n A) (hb : FlM P n B) : ∃ p, Ps P n A B p := by
  obtain ⟨p, q, r, h, hp, _⟩ := rel_fun ha hb
  exact ⟨p, r, h, hp⟩
theorem Ps.lt (h : Ps P n A B p) {i : Nat} (hi : i < n) : p i < n := by
  obtain ⟨r, _, hp⟩ := h
  exact (hp i hi).1
theorem Ps.inj (ha : FlM P n A) (hb : FlM P n B) (h : Ps P n A B p) {i k : Nat} (hi : i < n) (hk : k < n) (e : p i = p k) : i = k := by
  obtain ⟨r, hr, hp⟩ := h
  exact (hr.rk ha hb).inj hi hk (hp i hi).1 (hp i hi).2 (by rw [e]; exact (hp k hk).2)
theorem stack_in {i j : Nat} (h : Sp P n (i + j) (stackM i A B) (A i)) : SameSp P n (i + 1 + j) (stackM (i + 1) A B) (i + j) (stackM i A B) := by
  refine ⟨fun t ht => ?_, fun t ht => ?_⟩
  · by_cases h2 : t < i
    · have := Sp.row (p := P) (C := n) (M := stackM i A B) (n := i + j) (i := t) (by omega)
      rw [stackM_lt h2] at this
      rw [stackM_lt (by omega)]; exact this
    · by_cases h3 : t = i
      · subst h3; rw [stackM_lt (by omega)]; exact h
      · have := Sp.row (p := P) (C := n) (M := stackM i A B) (n := i + j) (i := t - 1) (by omega)
        rw [stackM_ge (by omega), show t - 1 - i = t - (i + 1) by omega] at this
        rw [stackM_ge (by omega)]; exact this
  · by_cases h2 : t < i
    · have := Sp.row (p := P) (C := n) (M := stackM (i + 1) A B) (n := i + 1 + j) (i := t) (by omega)
      rw [stackM_lt (by omega)] at this
      rw [stackM_lt h2]; exact this
    · have := Sp.row (p := P) (C := n) (M := stackM (i + 1) A B) (n := i + 1 + j) (i := t + 1) (by omega)
      rw [stackM_ge (by omega), show t + 1 - (i + 1) = t - i by omega] at this
      rw [stackM_ge h2]; exact this
/-- a row lies in what the rows before it and j of the other's span just if it comes in before j -/
theorem Ps.iff (ha : FlM P n A) (hb : FlM P n B) (h : Ps P n A B p) {i j : Nat} (hi : i < n) (hj : j ≤ n) : Sp P n (i + j) (stackM i A B) (A i) ↔ p i < j := by
  obtain ⟨r, hr, hp⟩ := h
  have hP := (primeOk_range ha.pr).1
  have hR := hr.rk ha hb
  constructor
  · intro hs
    have e : r (i + 1) j = r i j := (hr (i + 1) j (by omega) hj).one hP ((hr i j (by omega) hj).same (stack_in hs))
    rcases Nat.lt_or_ge (p i) j with h1 | h1
    · exact h1
    · have := hR.at_before hi (hp i hi).1 (hp i hi).2 h1
      omega
  · intro hlt
    have := hR.flat_on hi (j - (p i + 1)) (p i + 1) (by omega) (hp i hi).2.2
    rw [show p i + 1 + (j - (p i + 1)) = j by omega] at this
    exact hr.in_span hP hi hj this
/-- the same members up to i: the same for what lies in them and another's -/
theorem stack_mem {i j : Nat} (h : SameSp P n i A i A') : SameSp P n (i + j) (stackM i A B) (i + j) (stackM i A' B) := by
  have key : ∀ X Y : Nat → Nat → Int, (∀ t, t < i → Sp P n i Y (X t)) → ∀ t, t < i + j → Sp P n (i + j) (stackM i Y B) (stackM i X B t) := fun X Y h t ht => by
    by_cases h2 : t < i
    · rw [stackM_lt h2]
      refine (h t h2).trans fun s hs => ?_
      have := Sp.row (p := P) (C := n) (M := stackM i Y B) (n := i + j) (i := s) (by omega)
      rwa [stackM_lt hs] at this
    · rw [stackM_ge h2]
      have := Sp.row (p := P) (C := n) (M := stackM i Y B) (n := i + j) (i := t) (by omega)
      rwa [stackM_ge h2] at this
  exact ⟨key A A' h.1, key A' A h.2⟩

/-- row k + 1 with c of row k is put before row k -/
def bumpM (P : Int) (k : Nat) (c : Int) (A : Nat → Nat → Int) (i x : Nat) : Int := if i = k then (A (k + 1) x + c * A k x) % P else if i = k + 1 then A k x else A i x
theorem bump_lt {k i : Nat} {c : Int} (h : i ≠ k) (h2 : i ≠ k + 1) : bumpM P k c A i = A i := by funext x; unfold bumpM; rw [if_neg h, if_neg h2]
theorem bump_1 {k : Nat} {c : Int} : bumpM P k c A (k + 1) = A k := by funext x; unfold bumpM; rw [if_neg (by omega), if_pos rfl]
theorem bump_0 {k : Nat} {c : Int} : bumpM P k c A k = fun x => (A (k + 1) x + c * A k x) % P := by funext x; unfold bumpM; rw [if_pos rfl]
theorem eqv_mod {C : Nat} {u : Nat → Int} : Eqv P C (fun x => u x % P) u := fun j _ => by
  have := Int.mul_ediv_add_emod (u j) P
  exact ⟨-(u j / P), by dsimp only; rw [Int.mul_neg]; omega⟩
theorem bump_sp {N k : Nat} {c : Int} {M : Nat → Nat → Int} : Sp P n N M (A (k + 1)) → Sp P n N M (A k) → Sp P n N M (bumpM P k c A k) := fun h1 h2 => by
  rw [bump_0]
  exact (h1.comb c h2).eqv fun j hj => by
    have := eqv_mod (P := P) (C := n) (u := fun x => A (k + 1) x + c * A k x) j hj
    obtain ⟨d, hd⟩ := this
    dsimp only at hd
    exact ⟨-d, by dsimp only; rw [Int.mul_neg]; omega⟩
theorem bump_back {N k : Nat} {c : Int} {M : Nat → Nat → Int} : Sp P n N M (bumpM P k c A k) → Sp P n N M (A k) → Sp P n N M (A (k + 1)) := fun h1 h2 => by
  rw [bump_0] at h1
  refine (h1.comb (-c) h2).eqv fun j hj => ?_
  have := eqv_mod (P := P) (C := n) (u := fun x => A (k + 1) x + c * A k x) j hj
  obtain ⟨d, hd⟩ := this
  refine ⟨d, ?_⟩
  dsimp only at hd ⊢
  rw [Int.neg_mul]
  omega
theorem bump_same {k i : Nat} {c : Int} (hi : i ≠ k + 1) : SameSp P n i A i (bumpM P k c A) := by
  have keyA : ∀ t, t < i → Sp P n i (bumpM P k c A) (A t) := fun t ht => by
    by_cases h0 : t = k
    · subst h0
      have := Sp.row (p := P) (C := n) (M := bumpM P t c A) (n := i) (i := t + 1) (by omega)
      rwa [bump_1] at this
    · by_cases h1 : t = k + 1
      · subst h1
        refine bump_back (c := c) (Sp.row (by omega)) ?_
        have := Sp.row (p := P) (C := n) (M := bumpM P k c A) (n := i) (i := k + 1) (by omega)
        rwa [bump_1] at this
      · have := Sp.row (p := P) (C := n) (M := bumpM P k c A) (n := i) (i := t) ht
        rwa [bump_lt h0 h1] at this
  refine ⟨keyA, fun t ht => ?_⟩
  by_cases h0 : t = k
  · subst h0
    exact bump_sp (Sp.row (by omega)) (Sp.row ht)
  · by_cases h1 : t = k + 1
    · subst h1; rw [bump_1]; exact Sp.row (by omega)
    · rw [bump_lt h0 h1]; exact Sp.row ht
theorem bump_fl (ha : FlM P n A) {k : Nat} (hk : k + 1 < n) (c : Int) : FlM P n (bumpM P k c A) := by
  have hP := (primeOk_range ha.pr).1
  refine ⟨ha.pr, fun t x => ?_, ha.rk.same (bump_same (by omega)).symm⟩
  unfold bumpM
  split
  · exact ⟨Int.emod_nonneg _ (by omega), Int.emod_lt_of_pos _ (by omega)⟩
  · split
    · exact ha.rng _ _
    · exact ha.rng _ _
/-- the positions to any flag differ at most at k and k + 1 -/
theorem bump_far (ha : FlM P n A) (hc : FlM P n C) {k : Nat} (hk : k + 1 < n) {c : Int} (h : Ps P n A C p) (h' : Ps P n (bumpM P k c A) C q) {i : Nat} (hi : i < n) (h0 : i ≠ k) (h1 : i ≠ k + 1) : p i = q i := by
  have hb := bump_fl ha hk c
  have key : ∀ j, j ≤ n → (p i < j ↔ q i < j) := fun j hj => by
    rw [← h.iff ha hc hi hj, ← h'.iff hb hc hi hj, bump_lt h0 h1]
    have hs := stack_mem (B := C) (j := j) (bump_same (P := P) (n := n) (A := A) (k := k) (i := i) (c := c) h1)
    exact ⟨fun x => x.trans hs.1, fun x => x.trans hs.2⟩
  have a := h.lt hi
  have b := h'.lt hi
  have x := key (p i + 1) (by omega)
  have y := key (q i + 1) (by omega)
  omega
/-- where the changed flag ascends, the other does not have the same position -/
theorem bump_up (ha : FlM P n A) (hc : FlM P n C) {k : Nat} (hk : k + 1 < n) {c : Int} (h : Ps P n A C p) (h' : Ps P n (bumpM P k c A) C q) (hq : q k < q (k + 1)) : ¬ (p k = q k ∧ p (k + 1) = q (k + 1)) := fun ⟨e1, e2⟩ => by
  have hb := bump_fl ha hk c
  have hq1 := h'.lt (i := k) (by omega)
  have i1 := (h'.iff hb hc (i := k) (j := q k + 1) (by omega) (by omega)).2 (by omega)
  have i2 := (h.iff ha hc (i := k) (j := q k + 1) (by omega) (by omega)).2 (by omega)
  have hs := stack_mem (B := C) (j := q k + 1) (bump_same (P := P) (n := n) (A := A) (k := k) (i := k) (c := c) (by omega))
  have i3 := i1.trans hs.2
  have i4 := bump_back i3 i2
  have i5 : Sp P n (k + 1 + (q k + 1)) (stackM (k + 1) A C) (A (k + 1)) := i4.trans fun t ht => by
    by_cases h2 : t < k
    · rw [stackM_lt h2]
      have := Sp.row (p := P) (C := n) (M := stackM (k + 1) A C) (n := k + 1 + (q k + 1)) (i := t) (by omega)
      rwa [stackM_lt (by omega)] at this
    · rw [stackM_ge h2]
      have := Sp.row (p := P) (C := n) (M := stackM (k + 1) A C) (n := k + 1 + (q k + 1)) (i := t + 1) (by omega)
      rwa [stackM_ge (by omega), show t + 1 - (k + 1) = t - k by omega] at this
  have := (h.iff ha hc (i := k + 1) (j := q k + 1) (by omega) (by omega)).1 i5
  omega
/-- where a position descends, the flag can be changed so that the position to the other is exchanged -/
theorem bump_ex (ha : FlM P n A) (hb : FlM P n B) {k : Nat} (hk : k + 1 < n) (h : Ps P n A B p) (hd : p (k + 1) < p k) : ∃ c, ∀ q, Ps P n (bumpM P k c A) B q → q k ≤ p (k + 1) := by
  have hp1 := h.lt (i := k + 1) (by omega)
  have i1 := (h.iff ha hb (i := k + 1) (j := p (k + 1) + 1) (by omega) (by omega)).2 (by omega)
  obtain ⟨c, hc⟩ := i1.coef
  refine ⟨-(c k), fun q hq => ?_⟩
  have hf := bump_fl ha hk (-(c k))
  have hin : Sp P n (k + (p (k + 1) + 1)) (stackM k A B) (bumpM P k (-(c k)) A k) := by
    refine Sp.of_coef (fun t => if t < k then c t else c (t + 1)) fun j hj => ?_
    have h1 := hc j hj
    have e1 : sm (k + 1 + (p (k + 1) + 1)) (fun i => c i * stackM (k + 1) A B i j) = c k * A k j + sm (k + (p (k + 1) + 1)) (fun i => (if i < k then c i else c (i + 1)) * stackM k A B i j) := by
      rw [show k + 1 + (p (k + 1) + 1) = k + (1 + (p (k + 1) + 1)) by omega, sm_split, show k + (p (k + 1) + 1) = k + (p (k + 1) + 1) from rfl, sm_split k (p (k + 1) + 1), sm_split 1]
      have a1 : sm k (fun i => c i * stackM (k + 1) A B i j) = sm k fun i => (if i < k then c i else c (i + 1)) * stackM k A B i j := sm_congr fun t ht => by rw [if_pos ht, stackM_lt ht, stackM_lt (by omega)]
      have a2 : sm 1 (fun i => c (k + i) * stackM (k + 1) A B (k + i) j) = c k * A k j := by
        rw [show (1 : Nat) = 0 + 1 from rfl]
        simp only [sm]
        rw [Nat.add_zero, stackM_lt (by omega)]; omega
      have a3 : sm (p (k + 1) + 1) (fun i => c (k + (1 + i)) * stackM (k + 1) A B (k + (1 + i)) j) = sm (p (k + 1) + 1) fun i => (if k + i < k then c (k + i) else c (k + i + 1)) * stackM k A B (k + i) j := sm_congr fun t ht => by
        rw [if_neg (by omega), stackM_ge (by omega), stackM_ge (by omega), show k + (1 + t) - (k + 1) = k + t - k by omega, show k + (1 + t) = k + t + 1 by omega]
      rw [a1, a2, a3]; omega
    rw [e1] at h1
    obtain ⟨d, hd⟩ := h1
    have := eqv_mod (P := P) (C := n) (u := fun x => A (k + 1) x + -(c k) * A k x) j hj
    obtain ⟨e, he⟩ := this
    dsimp only at he
    rw [bump_0]
    refine ⟨e + d, ?_⟩
    dsimp only
    rw [Int.mul_add]
    rw [Int.neg_mul] at he ⊢
    omega
  have hs := stack_mem (B := B) (j := p (k + 1) + 1) (bump_same (P := P) (n := n) (A := A) (k := k) (i := k) (c := -(c k)) (by omega))
  have := (hq.iff hf hb (i := k) (j := p (k + 1) + 1) (by omega) (by omega)).1 (hin.trans hs.1)
  omega
end

end Go.Proofs.Ytpfefjdefopccaa

namespace Go.Proofs.Ytpfefjdefopccaa
set_option linter.all false
set_option maxRecDepth 100000
open Go.RowKit

/-! ### words -/
def upK1 (k : Nat) (b : List Int) : List Int := if ascB k b then sw k b else b
def dmz (x : List Nat) (v : List Int) : List Int := x.foldl (fun w k => upK1 k w) v
theorem dmz_snoc (x : List Nat) (k : Nat) (v : List Int) : dmz (x ++ [k]) v = upK1 k (dmz x v) := by simp [dmz]
theorem dmz_append (x y : List Nat) (v : List Int) : dmz (x ++ y) v = dmz y (dmz x v) := by simp [dmz]
theorem play_snoc' (r : List Nat) (k : Nat) (u : List Int) : play (r ++ [k]) u = sw k (play r u) := by simp [play]
theorem play_ok {n : Nat} : ∀ (r : List Nat) (u : List Int), P5 n u → (∀ j ∈ r, j + 1 < n) → P5 n (play r u)
  | [], _, h, _ => h
  | k :: r, u, h, hr => play_ok r (sw k u) (h.sw (hr k List.mem_cons_self)) fun j hj => hr j (List.mem_cons_of_mem _ hj)
theorem ln_asc {n : Nat} {v : List Int} (h : P5 n v) {k : Nat} (hk : k + 1 < n) (ha : ascB k v = true) : lnN (sw k v) = lnN v + 1 := by
  have a := (wrd_at h).2.2.2
  have b := (wrd_at (h.sw hk)).2.2.2
  have c := (h.asc hk ha).1
  omega
theorem ln_step {n : Nat} {v : List Int} (h : P5 n v) {k : Nat} (hk : k + 1 < n) : lnN (sw k v) ≤ lnN v + 1 := by
  cases ha : ascB k v with
  | true => rw [ln_asc h hk ha]; exact Nat.le_refl _
  | false => have := len_desc h hk ha; omega
theorem ln_play {n : Nat} : ∀ (r : List Nat) (u : List Int), P5 n u → (∀ j ∈ r, j + 1 < n) → lnN (play r u) ≤ lnN u + r.length
  | [], _, _, _ => Nat.le_refl _
  | k :: r, u, h, hr => by
    have h1 := ln_play r (sw k u) (h.sw (hr k List.mem_cons_self)) fun j hj => hr j (List.mem_cons_of_mem _ hj)
    have h2 := ln_step h (hr k List.mem_cons_self)
    show lnN (play r (sw k u)) ≤ _
    rw [List.length_cons]; omega
/-- the last letter of a word that is as long as can be -/
theorem last_up {n : Nat} {r : List Nat} {k : Nat} {u : List Int} (hu : P5 n u) (hr : ∀ j ∈ r ++ [k], j + 1 < n) (h : lnN (play (r ++ [k]) u) = lnN u + (r ++ [k]).length) :
    k + 1 < n ∧ (∀ j ∈ r, j + 1 < n) ∧ P5 n (play r u) ∧ lnN (play r u) = lnN u + r.length ∧ ascB k (play r u) = true := by
  have hk : k + 1 < n := hr k (by simp)
  have hr' : ∀ j ∈ r, j + 1 < n := fun j hj => hr j (by simp [hj])
  have hp := play_ok r u hu hr'
  have h1 := ln_play r u hu hr'
  rw [play_snoc', List.length_append] at h
  simp only [List.length_singleton] at h
  have h2 := ln_step hp hk
  refine ⟨hk, hr', hp, by omega, ?_⟩
  cases ha : ascB k (play r u) with
  | true => rfl
  | false => have := len_desc hp hk ha; omega
/-- a word that makes longer at each step -/
theorem dmz_play {n : Nat} : ∀ (m : Nat) (r : List Nat) (u : List Int), r.length = m → P5 n u → (∀ j ∈ r, j + 1 < n) → lnN (play r u) = lnN u + r.length → dmz r u = play r u
  | 0, r, u, hm, _, _, _ => by rw [List.length_eq_zero_iff.1 hm]; rfl
  | m + 1, r, u, hm, hu, hr, h => by
    obtain ⟨r', k, rfl⟩ : ∃ r' k, r = r' ++ [k] := by
      rcases List.eq_nil_or_concat r with e | ⟨r', k, e⟩
      · rw [e] at hm; simp at hm
      · exact ⟨r', k, by simpa using e⟩
    obtain ⟨hk, hr', hp, hl, ha⟩ := last_up hu hr h
    rw [dmz_snoc, dmz_play m r' u (by simpa using hm) hu hr' hl, play_snoc', upK1, if_pos ha]
/-- a permutation after another -/
def cmpL (v u : List Int) : List Int := u.map fun x => v.getD x.toNat 0
theorem cmpL_length (v u : List Int) : (cmpL v u).length = u.length := by simp [cmpL]
theorem cmpL_getD {v u : List Int} {i : Nat} (h : i < u.length) : (cmpL v u).getD i 0 = v.getD (u.getD i 0).toNat 0 := by simp [cmpL, List.getD_eq_getElem?_getD, h]
theorem cmpL_sw (v u : List Int) {k : Nat} (hk : k + 1 < u.length) : cmpL v (sw k u) = sw k (cmpL v u) := by
  refine getD_eq_list (by rw [cmpL_length, sw_length, sw_length, cmpL_length]) fun j hj => ?_
  rw [cmpL_length, sw_length] at hj
  rw [cmpL_getD (by rw [sw_length]; exact hj)]
  unfold sw
  rw [swapL_getD (by omega) hk, swapL_getD (by rw [cmpL_length]; omega) (by rw [cmpL_length]; exact hk), cmpL_getD (by omega), cmpL_getD hk, cmpL_getD hj]
  by_cases h1 : j = k + 1
  · rw [if_pos h1, if_pos h1]
  · rw [if_neg h1, if_neg h1]
    by_cases h2 : j = k
    · rw [if_pos h2, if_pos h2]
    · rw [if_neg h2, if_neg h2]
theorem cmpL_id {n : Nat} {v : List Int} (hv : v.length = n) : cmpL v (idL n) = v := by
  refine getD_eq_list (by rw [cmpL_length, idL_length, hv]) fun j hj => ?_
  rw [cmpL_length, idL_length] at hj
  rw [cmpL_getD (by rw [idL_length]; exact hj), idL_getD hj, Int.toNat_natCast]
theorem cmpL_play {n : Nat} {v : List Int} : ∀ (r : List Nat) (u : List Int), u.length = n → (∀ j ∈ r, j + 1 < n) → cmpL v (play r u) = play r (cmpL v u)
  | [], _, _, _ => rfl
  | k :: r, u, hu, hr => by
    show cmpL v (play r (sw k u)) = play r (sw k (cmpL v u))
    rw [cmpL_play r (sw k u) (by rw [sw_length]; exact hu) fun j hj => hr j (List.mem_cons_of_mem _ hj), cmpL_sw v u (by rw [hu]; exact hr k List.mem_cons_self)]


end Go.Proofs.Ytpfefjdefopccaa

namespace Go.Proofs.Ytpfefjdefopccaa
set_option linter.all false
set_option maxRecDepth 100000
open Go.RowKit

/-! ### the order, by ranks -/
theorem sw_at {a : List Int} {k t : Nat} (hk : k + 1 < a.length) : (sw k a).getD t 0 = if t = k + 1 then a.getD k 0 else if t = k then a.getD (k + 1) 0 else a.getD t 0 := by
  unfold sw
  exact swapL_getD (by omega) hk
theorem swap_sw {x : List Int} {k : Nat} (hk : k + 1 < x.length) : sw k (sw k x) = x := by
  refine getD_eq_list (by rw [sw_length, sw_length]) fun t _ => ?_
  rw [sw_at (by rw [sw_length]; exact hk), sw_at hk, sw_at hk, sw_at hk, if_neg (show ¬ k = k + 1 by omega), if_pos rfl, if_pos rfl]
  by_cases h1 : t = k + 1
  · rw [if_pos h1, h1]
  · rw [if_neg h1, if_neg h1]
    by_cases h2 : t = k
    · rw [if_pos h2, h2]
    · rw [if_neg h2, if_neg h2]
theorem rk_sw {a : List Int} {k : Nat} (hk : k + 1 < a.length) (c : Int) : ∀ r, rkL (sw k a) c r = if r = k + 1 then rkL a c k + (if a.getD (k + 1) 0 < c then 1 else 0) else rkL a c r
  | 0 => by rw [if_neg (by omega)]; rfl
  | r + 1 => by
    have ih := rk_sw hk c r
    show rkL (sw k a) c r + (if (sw k a).getD r 0 < c then 1 else 0) = _
    rw [ih, sw_at hk]
    by_cases h1 : r = k + 1
    · subst h1
      rw [if_pos rfl, if_pos rfl, if_neg (show ¬ k + 1 + 1 = k + 1 by omega)]
      show _ = rkL a c k + (if a.getD k 0 < c then 1 else 0) + (if a.getD (k + 1) 0 < c then 1 else 0)
      omega
    · rw [if_neg h1, if_neg h1]
      by_cases h2 : r = k
      · subst h2
        rw [if_pos rfl, if_pos rfl]
      · rw [if_neg h2, if_neg (show ¬ r + 1 = k + 1 by omega)]; rfl
def BlR (n : Nat) (a b : List Int) : Prop := ∀ r c : Nat, r ≤ n → c ≤ n → rkL b (c : Int) r ≤ rkL a (c : Int) r
theorem blR {n : Nat} {a b : List Int} (ha : a.length = n) : blwB a b = true ↔ BlR n a b := by
  unfold blwB BlR
  simp only [List.all_eq_true, List.mem_range, decide_eq_true_eq, ha]
  exact ⟨fun h r c hr hc => h r (by omega) c (by omega), fun h r hr c hc => h r c (by omega) (by omega)⟩
theorem br_up {n : Nat} {a b : List Int} (hb : b.length = n) {k : Nat} (hk : k + 1 < n) (h : BlR n a b) : BlR n a (upK1 k b) := fun r c hr hc => by
  unfold upK1
  cases hs : ascB k b with
  | false => exact h r c hr hc
  | true =>
    have hs' : b.getD k 0 < b.getD (k + 1) 0 := of_decide_eq_true hs
    rw [if_pos rfl, rk_sw (by omega)]
    by_cases e : r = k + 1
    · subst e
      rw [if_pos rfl]
      have h1 := h (k + 1) c hr hc
      have h2 : rkL b (c : Int) (k + 1) = rkL b (c : Int) k + (if b.getD k 0 < (c : Int) then 1 else 0) := rfl
      rw [h2] at h1
      by_cases x : b.getD (k + 1) 0 < (c : Int)
      · rw [if_pos x]
        rw [if_pos (by omega)] at h1
        exact h1
      · rw [if_neg x]; omega
    · rw [if_neg e]; exact h r c hr hc
theorem br_sw {n : Nat} {a b : List Int} (ha : a.length = n) (hb : b.length = n) {k : Nat} (hk : k + 1 < n) (h : BlR n a b) : BlR n (sw k a) (upK1 k b) := fun r c hr hc => by
  have hu := br_up hb hk h
  obtain ⟨b', hb'⟩ : ∃ b', b' = upK1 k b := ⟨_, rfl⟩
  have hd : b'.getD (k + 1) 0 ≤ b'.getD k 0 := by
    rw [hb']
    unfold upK1
    cases hs : ascB k b with
    | false => exact Int.not_lt.1 (of_decide_eq_false hs)
    | true =>
      have hs' : b.getD k 0 < b.getD (k + 1) 0 := of_decide_eq_true hs
      rw [if_pos rfl, sw_at (by omega), sw_at (by omega), if_pos rfl, if_neg (by omega), if_pos rfl]; omega
  rw [← hb'] at hu ⊢
  rw [rk_sw (by omega)]
  by_cases e : r = k + 1
  · subst e
    rw [if_pos rfl]
    have h0 := hu k c (by omega) hc
    have h2 := hu (k + 2) c (by omega) hc
    have e1 : rkL b' (c : Int) (k + 2) = rkL b' (c : Int) k + (if b'.getD k 0 < (c : Int) then 1 else 0) + (if b'.getD (k + 1) 0 < (c : Int) then 1 else 0) := rfl
    have e2 : rkL a (c : Int) (k + 2) = rkL a (c : Int) k + (if a.getD k 0 < (c : Int) then 1 else 0) + (if a.getD (k + 1) 0 < (c : Int) then 1 else 0) := rfl
    have e3 : rkL b' (c : Int) (k + 1) = rkL b' (c : Int) k + (if b'.getD k 0 < (c : Int) then 1 else 0) := rfl
    rw [e1, e2] at h2
    rw [e3]
    have b1 : (if a.getD k 0 < (c : Int) then 1 else 0) ≤ 1 := by split <;> omega
    by_cases x : b'.getD k 0 < (c : Int)
    · rw [if_pos x] at h2 ⊢
      rw [if_pos (show b'.getD (k + 1) 0 < (c : Int) by omega)] at h2
      omega
    · rw [if_neg x]; omega
  · rw [if_neg e]; exact hu r c hr hc
theorem br_refl (n : Nat) (a : List Int) : BlR n a a := fun _ _ _ _ => Nat.le_refl _

/-! ### two functions that differ at two neighbours -/
theorem two_near {n : Nat} {p q : Nat → Nat} {k : Nat} (hk : k + 1 < n) (hp : ∀ i, i < n → p i < n) (sq : ∀ j, j < n → ∃ s, s < n ∧ q s = j) (ip : ∀ i j, i < n → j < n → p i = p j → i = j)
    (h : ∀ i, i < n → i ≠ k → i ≠ k + 1 → p i = q i) : (p k = q k ∧ p (k + 1) = q (k + 1)) ∨ (p k = q (k + 1) ∧ p (k + 1) = q k) := by
  have key : ∀ t, t = k ∨ t = k + 1 → p t = q k ∨ p t = q (k + 1) := fun t ht => by
    have htn : t < n := by omega
    obtain ⟨s, hs, e⟩ : ∃ s, s < n ∧ q s = p t := sq _ (hp t htn)
    by_cases h1 : s = k
    · left; rw [← e, h1]
    · by_cases h2 : s = k + 1
      · right; rw [← e, h2]
      · have := h s hs h1 h2
        rw [e] at this
        have := ip s t hs htn this
        omega
  have a := key k (.inl rfl)
  have b := key (k + 1) (.inr rfl)
  have c : p k ≠ p (k + 1) := fun e => by have := ip k (k + 1) (by omega) hk e; omega
  omega

/-! ### three flags -/
section
variable {P : Int} {n : Nat} {A B C : Nat → Nat → Int} {p q w v : Nat → Nat}
theorem Ps.sur (ha : FlM P n A) (hb : FlM P n B) (h : Ps P n A B p) : ∀ j, j < n → ∃ s, s < n ∧ p s = j := fun j hj => by
  obtain ⟨r, hr, hp⟩ := h
  have hR := hr.rk ha hb
  obtain ⟨i, hi, e⟩ := hR.swap.at_ex hj
  exact ⟨i, hi, hR.at_one hi (hp i hi).1 hj (hp i hi).2 (hR.swap.at_swap hj hi e)⟩
theorem Ps.one (ha : FlM P n A) (hb : FlM P n B) (h : Ps P n A B p) (h' : Ps P n A B q) {i : Nat} (hi : i < n) : p i = q i := by
  have a := h.lt hi
  have b := h'.lt hi
  have x := (h.iff ha hb hi (j := p i + 1) (by omega)).symm.trans (h'.iff ha hb hi (by omega))
  have y := (h.iff ha hb hi (j := q i + 1) (by omega)).symm.trans (h'.iff ha hb hi (by omega))
  omega
theorem Ps.of_same (hs : ∀ i, i ≤ n → SameSp P n i A i B) (h : Ps P n A C p) : Ps P n B C p := by
  obtain ⟨r, hr, hp⟩ := h
  exact ⟨r, fun i j hi hj => (hr i j hi hj).same (stack_mem (hs i hi)).symm, hp⟩
theorem Ps.id_same (ha : FlM P n A) (hb : FlM P n B) (h : Ps P n A B p) (hid : ∀ i, i < n → p i = i) : ∀ i, i ≤ n → SameSp P n i A i B := fun i hi => by
  obtain ⟨r, hr, hp⟩ := h
  have hP := (primeOk_range ha.pr).1
  have hd := (hr.rk ha hb).diag (fun t ht => by have := (hp t ht).2; rwa [hid t ht] at this) i hi
  have hri := hr i i hi hi
  rw [hd] at hri
  have s1 : SameSp P n i A (i + i) (stackM i A B) := HasRank.same_of_sub hP hri (ha.part hi) fun t ht => by
    have := Sp.row (p := P) (C := n) (M := stackM i A B) (n := i + i) (i := t) (by omega)
    rwa [stackM_lt ht] at this
  have s2 : SameSp P n i B (i + i) (stackM i A B) := HasRank.same_of_sub hP hri (hb.part hi) fun t ht => by
    have := Sp.row (p := P) (C := n) (M := stackM i A B) (n := i + i) (i := i + t) (by omega)
    rwa [stackM_ge (by omega), show i + t - i = t by omega] at this
  exact s1.trans s2.symm
theorem Ps.p5 (ha : FlM P n A) (hb : FlM P n B) (h : Ps P n A B p) (h1 : 1 ≤ n) (h5 : n ≤ 5) : P5 n (qL n p) :=
  ⟨qL_perm h1 (by omega) (fun i hi => h.lt hi) fun i k hi hk e => h.inj ha hb hi hk e, qL_length n p, h5⟩
theorem qL_sw {k : Nat} (hk : k + 1 < n) (h0 : p k = q (k + 1)) (h1 : p (k + 1) = q k) (h : ∀ i, i < n → i ≠ k → i ≠ k + 1 → p i = q i) : qL n p = sw k (qL n q) := by
  refine getD_eq_list (by rw [sw_length, qL_length, qL_length]) fun j hj => ?_
  rw [qL_length] at hj
  rw [qL_getD hj, sw_at (by rw [qL_length]; exact hk), qL_getD hk, qL_getD (show k < n by omega), qL_getD hj]
  by_cases e1 : j = k + 1
  · rw [if_pos e1, e1, h1]
  · rw [if_neg e1]
    by_cases e0 : j = k
    · rw [if_pos e0, e0, h0]
    · rw [if_neg e0, h j hj e0 e1]
theorem tri_go (hb : FlM P n B) (hc : FlM P n C) (h1 : 1 ≤ n) (h5 : n ≤ 5) (hv : Ps P n B C v) : ∀ (m : Nat) (x : List Nat) (A : Nat → Nat → Int) (p w : Nat → Nat), x.length = m → FlM P n A → Ps P n A B p → Ps P n A C w →
    (∀ j ∈ x, j + 1 < n) → play x (idL n) = qL n p → lnN (qL n p) = x.length → BlR n (qL n w) (dmz x (qL n v)) ∧ (lnN (play x (qL n v)) = lnN (qL n v) + x.length → qL n w = play x (qL n v)) := by
  have hi5 := P5.id h1 h5
  have hi0 : lnN (idL n) = 0 := by
    have a := (blid_at hi5).1
    have b := (blid_at hi5).2
    rcases b with b | ⟨k, hk, b⟩
    · exact b
    · unfold ascB at b
      rw [idL_getD (by omega), idL_getD hk] at b
      simp at b; omega
  have hv5 := hv.p5 hb hc h1 h5
  intro m
  induction m with
  | zero =>
    intro x A p w hm ha hp hw hr hpl hl
    obtain rfl := List.length_eq_zero_iff.1 hm
    have hpi : ∀ i, i < n → p i = i := fun i hi => by
      have : (qL n p).getD i 0 = (idL n).getD i 0 := by rw [← hpl]; rfl
      rw [qL_getD hi, idL_getD hi] at this
      exact Int.ofNat.inj this
    have hw2 := hw.of_same (hp.id_same ha hb hpi)
    have e : qL n w = qL n v := qL_congr fun k hk => hw2.one hb hc hv hk
    exact ⟨by rw [e]; exact br_refl n _, fun _ => e⟩
  | succ m ih =>
    intro x A p w hm ha hp hw hr hpl hl
    obtain ⟨x', k, rfl⟩ : ∃ r' k, x = r' ++ [k] := by
      rcases List.eq_nil_or_concat x with e | ⟨r', k, e⟩
      · rw [e] at hm; simp at hm
      · exact ⟨r', k, by simpa using e⟩
    have hm' : x'.length = m := by simpa using hm
    obtain ⟨hk, hr', hU5, hUl, hUa⟩ := last_up hi5 hr (by rw [hpl, hl, hi0]; omega)
    rw [hi0, Nat.zero_add] at hUl
    rw [play_snoc'] at hpl
    have hdp : p (k + 1) < p k := by
      have a : (qL n p).getD k 0 = (play x' (idL n)).getD (k + 1) 0 := by rw [← hpl, sw_at (by rw [hU5.len]; exact hk), if_neg (by omega), if_pos rfl]
      have b : (qL n p).getD (k + 1) 0 = (play x' (idL n)).getD k 0 := by rw [← hpl, sw_at (by rw [hU5.len]; exact hk), if_pos rfl]
      have c : (play x' (idL n)).getD k 0 < (play x' (idL n)).getD (k + 1) 0 := of_decide_eq_true hUa
      rw [← a, ← b, qL_getD (show k < n by omega), qL_getD hk] at c
      omega
    obtain ⟨c, hcx⟩ := bump_ex ha hb hk hp hdp
    have ha' := bump_fl ha hk c
    obtain ⟨q, hq⟩ := Ps.ex ha' hb
    obtain ⟨w', hw'⟩ := Ps.ex ha' hc
    have hqk := hcx q hq
    have hfar : ∀ i, i < n → i ≠ k → i ≠ k + 1 → p i = q i := fun i hi h0 h1 => bump_far ha hb hk hp hq hi h0 h1
    have hswp : p k = q (k + 1) ∧ p (k + 1) = q k := by
      rcases two_near hk (fun i hi => hp.lt hi) (hq.sur ha' hb) (fun i j hi hj e => hp.inj ha hb hi hj e) hfar with ⟨e, _⟩ | e
      · omega
      · exact e
    have hqU : qL n q = play x' (idL n) := by
      have := qL_sw hk hswp.1 hswp.2 hfar
      rw [this] at hpl
      have h2 := congrArg (sw k) hpl
      rw [swap_sw (by rw [hU5.len]; exact hk), swap_sw (by rw [qL_length]; exact hk)] at h2
      exact h2.symm
    obtain ⟨i1, i2⟩ := ih x' _ q w' hm' ha' hq hw' hr' hqU.symm (by rw [hqU, hUl])
    have hfw : ∀ i, i < n → i ≠ k → i ≠ k + 1 → w i = w' i := fun i hi h0 h1 => bump_far ha hc hk hw hw' hi h0 h1
    have htw := two_near hk (fun i hi => hw.lt hi) (hw'.sur ha' hc) (fun i j hi hj e => hw.inj ha hc hi hj e) hfw
    have hd' : (dmz x' (qL n v)).length = n := by
      have : ∀ (r : List Nat) (u : List Int), (dmz r u).length = u.length := fun r => by
        induction r with
        | nil => exact fun _ => rfl
        | cons j r ih =>
          intro u
          show (dmz r (upK1 j u)).length = _
          rw [ih]
          unfold upK1
          split
          · exact sw_length _ _
          · rfl
      rw [this, qL_length]
    rw [dmz_snoc, play_snoc']
    constructor
    · rcases htw with ⟨e0, e1⟩ | ⟨e0, e1⟩
      · have e : qL n w = qL n w' := qL_congr fun i hi => by
          by_cases h0 : i = k
          · rw [h0, e0]
          · by_cases h1 : i = k + 1
            · rw [h1, e1]
            · exact hfw i hi h0 h1
        rw [e]
        exact br_up hd' hk i1
      · rw [qL_sw hk e0 e1 hfw]
        exact br_sw (qL_length n w') hd' hk i1
    · intro hlen
      have hl2 : lnN (play (x' ++ [k]) (qL n v)) = lnN (qL n v) + (x' ++ [k]).length := by rw [play_snoc']; exact hlen
      obtain ⟨_, _, hp5, hpl2, hpa⟩ := last_up hv5 hr hl2
      have hW := i2 hpl2
      have hup : w' k < w' (k + 1) := by
        have c : (play x' (qL n v)).getD k 0 < (play x' (qL n v)).getD (k + 1) 0 := of_decide_eq_true hpa
        rw [← hW, qL_getD (show k < n by omega), qL_getD hk] at c
        omega
      rcases htw with e | ⟨e0, e1⟩
      · exact absurd e (bump_up ha hc hk hw hw' hup)
      · rw [qL_sw hk e0 e1 hfw, hW]
/-- what the law asks, for a reduced word of the first position -/
theorem tri_all (ha : FlM P n A) (hb : FlM P n B) (hc : FlM P n C) (h1 : 1 ≤ n) (h5 : n ≤ 5) (hp : Ps P n A B p) (hv : Ps P n B C v) (hw : Ps P n A C w) {x y : List Nat} (hx : ∀ j ∈ x, j + 1 < n) (hy : ∀ j ∈ y, j + 1 < n)
    (ex : play x (idL n) = qL n p) (lx : lnN (qL n p) = x.length) (ey : play y (idL n) = qL n v) (ly : lnN (qL n v) = y.length) :
    blwB (qL n w) (dmz (y ++ x) (idL n)) = true ∧ (lnN (cmpL (qL n v) (qL n p)) = lnN (qL n p) + lnN (qL n v) → qL n w = cmpL (qL n v) (qL n p)) := by
  have hi5 := P5.id h1 h5
  have hi0 : lnN (idL n) = 0 := by
    rcases (blid_at hi5).2 with b | ⟨k, hk, b⟩
    · exact b
    · unfold ascB at b
      rw [idL_getD (by omega), idL_getD hk] at b
      simp at b; omega
  have hv5 := hv.p5 hb hc h1 h5
  obtain ⟨a, b⟩ := tri_go hb hc h1 h5 hv _ x A p w rfl ha hp hw hx ex lx
  have hcm : cmpL (qL n v) (qL n p) = play x (qL n v) := by
    rw [← ex, cmpL_play x (idL n) (idL_length n) hx, cmpL_id (qL_length n v)]
  refine ⟨?_, fun hl => ?_⟩
  · rw [dmz_append, dmz_play _ y (idL n) rfl hi5 hy (by rw [ey, ly, hi0]; omega), ey]
    exact (blR (qL_length n w)).2 a
  · rw [hcm] at hl ⊢
    exact b (by omega)
end

end Go.Proofs.Ytpfefjdefopccaa
