/-
  Permutations of at most five: what is decided by looking at all of them. Plain.
  slices.IndexFunc for a number other than 0, impl.pivot, impl.scaledTo1.
  More on a region that draws its order and makes a box somewhere in it: where the box lies when it is made first, and what a write into it leaves.
  l1Ints, l7Copy, l7Inverse, l7Top.
  What the reference asks of numbers and values; its exchange of two places, codes and places.
  The reference's code of a list, and its place among the permutations.
  For regions that draw their order: append as a step; what is kept of two boxes and the result's cell.
  The inverse permutation, on both sides.
-/
import Derived.Test.YtklpaannmdbmiaaJ3
import Derived.Test.YtklpaannmdbmiaaJ2
namespace Go.Proofs.Ytklpaannmdbmiaa
set_option linter.all false
open Go.RowKit

/-! ### permutations: what is decided by looking at all of them -/
theorem toFin {n : Nat} {x : Int} (h : 0 ≤ x ∧ x < (n : Int)) : ∃ a : Fin n, x = ((a : Nat) : Int) := ⟨⟨x.toNat, by omega⟩, by simp; omega⟩
def memB (xs : List Int) : Bool := !permOk xs || (permsL xs.length).contains xs
set_option maxRecDepth 100000 in
theorem mem_1 : ∀ a : Fin 1, memB [((a : Nat) : Int)] = true := by decide +kernel
set_option maxRecDepth 100000 in
theorem mem_2 : ∀ a b : Fin 2, memB [((a : Nat) : Int), ((b : Nat) : Int)] = true := by decide +kernel
set_option maxRecDepth 100000 in
theorem mem_3 : ∀ a b c : Fin 3, memB [((a : Nat) : Int), ((b : Nat) : Int), ((c : Nat) : Int)] = true := by decide +kernel
set_option maxRecDepth 100000 in
theorem mem_4 : ∀ a b c d : Fin 4, memB [((a : Nat) : Int), ((b : Nat) : Int), ((c : Nat) : Int), ((d : Nat) : Int)] = true := by decide +kernel
set_option maxRecDepth 100000 in
theorem mem_5 : ∀ a b c d e : Fin 5, memB [((a : Nat) : Int), ((b : Nat) : Int), ((c : Nat) : Int), ((d : Nat) : Int), ((e : Nat) : Int)] = true := by decide +kernel
theorem perm_mem {xs : List Int} (h : permOk xs = true) (h5 : xs.length ≤ 5) : xs ∈ permsL xs.length := by
  have key : memB xs = true := by
    have hp := h
    simp only [permOk, decide_eq_true_eq] at hp
    obtain ⟨h1, h7, hr, _⟩ := hp
    match xs, h1, h5, hr with
    | [a], _, _, hr =>
      obtain ⟨a, rfl⟩ := toFin (n := 1) (hr a (by simp))
      exact mem_1 a
    | [a, b], _, _, hr =>
      obtain ⟨a, rfl⟩ := toFin (n := 2) (hr a (by simp))
      obtain ⟨b, rfl⟩ := toFin (n := 2) (hr b (by simp))
      exact mem_2 a b
    | [a, b, c], _, _, hr =>
      obtain ⟨a, rfl⟩ := toFin (n := 3) (hr a (by simp))
      obtain ⟨b, rfl⟩ := toFin (n := 3) (hr b (by simp))
      obtain ⟨c, rfl⟩ := toFin (n := 3) (hr c (by simp))
      exact mem_3 a b c
    | [a, b, c, d], _, _, hr =>
      obtain ⟨a, rfl⟩ := toFin (n := 4) (hr a (by simp))
      obtain ⟨b, rfl⟩ := toFin (n := 4) (hr b (by simp))
      obtain ⟨c, rfl⟩ := toFin (n := 4) (hr c (by simp))
      obtain ⟨d, rfl⟩ := toFin (n := 4) (hr d (by simp))
      exact mem_4 a b c d
    | [a, b, c, d, e], _, _, hr =>
      obtain ⟨a, rfl⟩ := toFin (n := 5) (hr a (by simp))
      obtain ⟨b, rfl⟩ := toFin (n := 5) (hr b (by simp))
      obtain ⟨c, rfl⟩ := toFin (n := 5) (hr c (by simp))
      obtain ⟨d, rfl⟩ := toFin (n := 5) (hr d (by simp))
      obtain ⟨e, rfl⟩ := toFin (n := 5) (hr e (by simp))
      exact mem_5 a b c d e
  unfold memB at key
  rw [h] at key
  simpa using key
/-- a check that all permutations of at most five pass -/
def all5 (B : List Int → Bool) : Bool := (List.range 6).all fun n => (permsL n).all fun v => !decide (1 ≤ n) || B v
theorem all5_at {B : List Int → Bool} (h : all5 B = true) {xs : List Int} (hp : permOk xs = true) (h5 : xs.length ≤ 5) : B xs = true := by
  unfold all5 at h
  rw [List.all_eq_true] at h
  have a := h xs.length (List.mem_range.2 (by omega))
  rw [List.all_eq_true] at a
  have b := a xs (perm_mem hp h5)
  have : 1 ≤ xs.length := by simp only [permOk, decide_eq_true_eq] at hp; exact hp.1
  simpa [this] using b

/-- two neighbours exchanged -/
def sw (k : Nat) (v : List Int) : List Int := swapL v k (k + 1)
def ascB (k : Nat) (v : List Int) : Bool := decide (v.getD k 0 < v.getD (k + 1) 0)
/-- the pairs in order -/
def upN (v : List Int) : Nat := ((List.range v.length).map fun j => ((List.range j).filter fun i => decide (v.getD i 0 < v.getD j 0)).length).sum
def ok2B (v : List Int) : Bool := (List.range (v.length - 1)).all fun k => permOk (sw k v) && (if ascB k v then decide (upN (sw k v) + 1 = upN v) && !ascB k (sw k v) else decide (upN (sw k v) = upN v + 1) && ascB k (sw k v))
set_option maxRecDepth 100000 in
theorem ok2_all : all5 ok2B = true := by decide +kernel
theorem sw_length (k : Nat) (v : List Int) : (sw k v).length = v.length := swapL_length _ _ _
structure P5 (n : Nat) (v : List Int) : Prop where
  ok : permOk v = true
  len : v.length = n
  le : n ≤ 5
theorem P5.sw {n : Nat} {v : List Int} (h : P5 n v) {k : Nat} (hk : k + 1 < n) : P5 n (sw k v) := by
  have := all5_at ok2_all h.ok (by have := h.len; have := h.le; omega)
  simp only [ok2B, Bool.and_eq_true, List.all_eq_true, List.mem_range] at this
  exact ⟨(this k (by have := h.len; omega)).1, by rw [sw_length]; exact h.len, h.le⟩
theorem P5.asc {n : Nat} {v : List Int} (h : P5 n v) {k : Nat} (hk : k + 1 < n) (ha : ascB k v = true) : upN (Go.Proofs.Ytklpaannmdbmiaa.sw k v) + 1 = upN v ∧ ascB k (Go.Proofs.Ytklpaannmdbmiaa.sw k v) = false := by
  have := all5_at ok2_all h.ok (by have := h.len; have := h.le; omega)
  simp only [ok2B, Bool.and_eq_true, List.all_eq_true, List.mem_range] at this
  have := (this k (by have := h.len; omega)).2
  rw [ha] at this
  simpa using this
theorem P5.desc {n : Nat} {v : List Int} (h : P5 n v) {k : Nat} (hk : k + 1 < n) (ha : ascB k v = false) : upN (Go.Proofs.Ytklpaannmdbmiaa.sw k v) = upN v + 1 ∧ ascB k (Go.Proofs.Ytklpaannmdbmiaa.sw k v) = true := by
  have := all5_at ok2_all h.ok (by have := h.len; have := h.le; omega)
  simp only [ok2B, Bool.and_eq_true, List.all_eq_true, List.mem_range] at this
  have := (this k (by have := h.len; omega)).2
  rw [ha] at this
  simpa using this

end Go.Proofs.Ytklpaannmdbmiaa

namespace Go.Proofs.Ytklpaannmdbmiaa
set_option linter.all false
open Go.RowKit

/-- the first place with a number other than 0; -1: none -/
def pivL (xs : List Int) : Int := if xs.findIdx (fun x => x != 0) < xs.length then (xs.findIdx (fun x => x != 0) : Nat) else -1
theorem pivL_at {xs : List Int} {k : Nat} (hk : k < xs.length) (h1 : xs.getD k 0 ≠ 0) (h0 : ∀ j, j < k → xs.getD j 0 = 0) : pivL xs = k := by
  have e : xs.findIdx (fun x => x != 0) = k := by
    rw [List.findIdx_eq hk]
    refine ⟨?_, fun j hj => ?_⟩
    · rw [List.getD_eq_getElem?_getD, List.getElem?_eq_getElem hk, Option.getD_some] at h1
      simpa using h1
    · have := h0 j hj
      rw [List.getD_eq_getElem?_getD, List.getElem?_eq_getElem (by omega), Option.getD_some] at this
      simpa using this
  unfold pivL
  rw [e, if_pos hk]
theorem pivL_none {xs : List Int} (h0 : ∀ j, j < xs.length → xs.getD j 0 = 0) : pivL xs = -1 := by
  have e : xs.findIdx (fun x => x != 0) = xs.length := by
    rw [List.findIdx_eq_length]
    intro x hx
    obtain ⟨j, hj, rfl⟩ := List.mem_iff_getElem.1 hx
    have := h0 j hj
    rw [List.getD_eq_getElem?_getD, List.getElem?_eq_getElem hj, Option.getD_some] at this
    simpa using this
  unfold pivL
  rw [e, if_neg (by omega)]
theorem pivL_cases (xs : List Int) : (pivL xs = -1 ∧ ∀ j, j < xs.length → xs.getD j 0 = 0) ∨ ∃ k, pivL xs = (k : Nat) ∧ k < xs.length ∧ xs.getD k 0 ≠ 0 ∧ ∀ j, j < k → xs.getD j 0 = 0 := by
  by_cases h : ∃ k, k < xs.length ∧ xs.getD k 0 ≠ 0
  · have : ∃ k, k < xs.length ∧ xs.getD k 0 ≠ 0 ∧ ∀ j, j < k → xs.getD j 0 = 0 := by
      obtain ⟨k, hk, h1⟩ := h
      induction k using Nat.strongRecOn with
      | _ k ih =>
        by_cases h2 : ∃ j, j < k ∧ xs.getD j 0 ≠ 0
        · obtain ⟨j, hj, h3⟩ := h2
          exact ih j hj (by omega) h3
        · exact ⟨k, hk, h1, fun j hj => Classical.byContradiction fun h3 => h2 ⟨j, hj, h3⟩⟩
    obtain ⟨k, hk, h1, h2⟩ := this
    exact .inr ⟨k, pivL_at hk h1 h2, hk, h1, h2⟩
  · have h0 : ∀ j, j < xs.length → xs.getD j 0 = 0 := fun j hj => Classical.byContradiction fun h3 => h ⟨j, hj, h3⟩
    exact .inl ⟨pivL_none h0, h0⟩

set_option maxRecDepth 100000 in
set_option maxHeartbeats 1000000 in
theorem indexNz_any (v : Value) (xs : List Int) (w : World) (h : Ints w v xs) :
    Calls Try.prog 57 #[v, .func (.func 58) #[] #[]] w fun e w' => e = .returned (.int .i64 (pivL xs)) ∧ Qt w w' := by
  obtain ⟨p, cap, rfl, ⟨hx1, hx⟩, hxc⟩ := h
  unfold maxLen at hx
  go_enter Try.func57, Try.ntmps57
  go_wp2
  go_loopg [5, 8] xs.length (fun g s5 i wr => ∃ k : Nat, k ≤ xs.length ∧ g = xs.length - k ∧ i = .int .i64 k ∧ Qt w wr ∧ Hid (∀ j, j < k → xs.getD j 0 = 0))
  case atStart => exact ⟨0, Nat.zero_le _, rfl, rfl, Qt.refl _, fun j hj => absurd hj (Nat.not_lt_zero _)⟩
  case round =>
    obtain ⟨k, hk, rfl, rfl, hq, hp⟩ := hrel
    by_cases hlt : k < xs.length
    · obtain ⟨b, off, rfl, hc⟩ := hxc (by omega)
      have c1 := hq.cell (hc k hlt)
      unfold iv at c1
      generalize hy : xs.getD k 0 = y at c1
      have Hy := Lib.hid hy
      clear hxc hc hy
      by_cases e : y = 0
      · subst e
        go_wp2
        go_roundg (xs.length - (k + 1))
        case measure => omega
        case rel =>
          refine ⟨k + 1, by omega, rfl, by go_num, hq, fun j hj => ?_⟩
          by_cases e : j = k
          · subst e; exact Hy.out
          · exact hp.out j (by omega)
      · have he : (y != 0) = true := by simp [e]
        go_wp2
        go_ret
        have h1 : pivL xs = k := pivL_at hlt (by rw [Hy.out]; exact e) hp.out
        rw [h1]
        exact ⟨rfl, hq⟩
    · go_wp2
      go_ret
      obtain rfl : k = xs.length := by omega
      rw [pivL_none hp.out]
      exact ⟨rfl, hq⟩

set_option maxRecDepth 100000 in
theorem pivot_any (v : Value) (xs : List Int) (w : World) (h : Ints w v xs) :
    Calls Try.prog 45 #[v] w fun e w' => e = .returned (.int .i64 (pivL xs)) ∧ Qt w w' := by
  have hn := indexNz_any v xs w h
  generalize pivL xs = r at hn
  obtain ⟨p, cap, rfl, ⟨hx1, hx⟩, hxc⟩ := h
  have Hn := Lib.hid hn
  clear hn hxc
  go_enter Try.func45, Try.ntmps45
  go_wp2_with fail
  refine Hn.out.mono ?_
  rintro e w1 ⟨rfl, hq⟩
  go_wp2_with fail
  go_ret
  exact ⟨rfl, hq⟩

theorem inv_ex {p x : Int} (hp : primeOk p = true) (h0 : 0 < x) (h1 : x < p) : ∃ k : Int, 1 ≤ k ∧ k < p ∧ k * x % p = 1 := by
  rcases of_decide_eq_true hp with rfl | rfl | rfl | rfl
  · obtain rfl : x = 1 := by omega
    exact ⟨1, by decide⟩
  · rcases (show x = 1 ∨ x = 2 by omega) with rfl | rfl
    · exact ⟨1, by decide⟩
    · exact ⟨2, by decide⟩
  · rcases (show x = 1 ∨ x = 2 ∨ x = 3 ∨ x = 4 by omega) with rfl | rfl | rfl | rfl
    · exact ⟨1, by decide⟩
    · exact ⟨3, by decide⟩
    · exact ⟨2, by decide⟩
    · exact ⟨4, by decide⟩
  · rcases (show x = 1 ∨ x = 2 ∨ x = 3 ∨ x = 4 ∨ x = 5 ∨ x = 6 by omega) with rfl | rfl | rfl | rfl | rfl | rfl
    · exact ⟨1, by decide⟩
    · exact ⟨4, by decide⟩
    · exact ⟨5, by decide⟩
    · exact ⟨2, by decide⟩
    · exact ⟨3, by decide⟩
    · exact ⟨6, by decide⟩

/-- reads, then changes of one block -/
theorem grown_qt {w w1 w2 : World} {o : Option Nat} (hq : Qt w w1) (hg : w1.grownBy w2 o) : w.grownBy w2 o := by
  have hb := hq.below 0
  have hs := hq.size
  have hh := hq.heap
  exact ⟨hg.os.trans hb.os, hg.tape.trans hb.tape, hg.output.trans hb.output, by have := hg.size; omega, fun k hk hne => by rw [hg.block k (by omega) hne, hh]⟩

def scaleL (p k : Int) (xs : List Int) : List Int := (List.range xs.length).map fun (j : Nat) => (k * xs.getD j 0) % p
theorem scaleL_length (p k : Int) (xs : List Int) : (scaleL p k xs).length = xs.length := by simp [scaleL]
theorem scaleL_getD {p k : Int} {xs : List Int} {j : Nat} (h : j < xs.length) : (scaleL p k xs).getD j 0 = (k * xs.getD j 0) % p := by
  simp [scaleL, List.getD_eq_getElem?_getD, h]

set_option maxRecDepth 100000 in
set_option maxHeartbeats 1000000 in
theorem scaledTo1_any (v : Value) (xs : List Int) (p : Int) (K : Nat) (lo hi : Nat) (w : World) (h : OwnI 3 w lo hi v xs) (hxs : ∀ j, 0 ≤ xs.getD j 0 ∧ xs.getD j 0 < p) (hp : primeOk p = true) (hK : pivL xs = K) (hKl : K < xs.length) (hK0 : xs.getD K 0 ≠ 0) :
    Calls Try.prog 46 #[v, .int .i64 p] w fun e w' => ∃ k : Int, e = .returned (.tuple #[]) ∧ 1 ≤ k ∧ k < p ∧ k * xs.getD K 0 % p = 1 ∧ OwnI 3 w' lo hi v (scaleL p k xs) ∧ w.grownBy w' v.ownBlock := by
  obtain ⟨a, cap, rfl, hnc, hcm, _⟩ := h.fn.shape
  unfold maxLen at hcm
  obtain ⟨hp2, hp7⟩ := primeOk_range hp
  obtain ⟨x, hx⟩ : ∃ x, x = xs.getD K 0 := ⟨_, rfl⟩
  have hx0 := hxs K
  rw [← hx] at hx0
  obtain ⟨k0, hk1, hk2, hk3⟩ := inv_ex hp (show 0 < x by omega) hx0.2
  have hpiv := pivot_any _ xs w h.ints
  rw [hK] at hpiv
  have Hpiv := Lib.hid hpiv
  obtain ⟨g', rfl, hg1, hg2, hg3⟩ := h.fn.at_ (show 0 < xs.length by omega)
  have c1 : w.cell? ⟨g', K, none⟩ = some (.int .i64 x) := by rw [h.fn.cell hKl]; simp [iv, hx]
  have Hf := Lib.hid h.fn
  have Hxs := Lib.hid hxs
  have Hx := Lib.hid hx
  have Hk3 := Lib.hid hk3
  have C1 := Lib.hid c1
  clear hxs hx hp hk3 h hK hK0 hpiv c1
  go_enter Try.func46, Try.ntmps46
  go_wp2_with fail
  refine Hpiv.out.mono ?_
  rintro e w1 ⟨rfl, hq⟩
  have c1 := hq.cell C1.out
  have Hq := Lib.hid hq
  clear hq
  go_wp2_with fail
  obtain ⟨k0n, rfl⟩ := Int.eq_ofNat_of_zero_le (show (0 : Int) ≤ k0 by omega)
  go_loopg [5] (k0n - 1) (fun g s5 wr => ∃ k : Nat, 1 ≤ k ∧ k ≤ k0n ∧ g = k0n - k ∧ s5 = .int .i64 k ∧ wr = w1)
  case atStart => exact ⟨1, Nat.le_refl _, by omega, rfl, rfl, rfl⟩
  case round =>
    obtain ⟨k, hka, hkb, rfl, rfl, rfl⟩ := hrel
    have hm0 : 0 ≤ (k : Int) * x := Int.mul_nonneg (by omega) (by omega)
    have hm1 : (k : Int) * x ≤ 7 * 7 := Int.mul_le_mul (by omega) (by omega) (by omega) (by omega)
    by_cases he : (k : Int) * x % p = 1
    · have he2 : ((k : Int) * x % p != 1) = false := by simpa using he
      have hp0 : ¬ p = 0 := by omega
      have e1 : Int.tmod ((k : Int) * x) p = (k : Int) * x % p := Int.tmod_eq_emod_of_nonneg hm0
      have b5 : 0 ≤ (k : Int) * x % p := Int.emod_nonneg _ (by omega)
      have b6 : (k : Int) * x % p < p := Int.emod_lt_of_pos _ (by omega)
      have He := Lib.hid he
      have H1 := Lib.hid (Hf.out.below (Hq.out.below _))
      clear he
      go_wp2_with fail
      clear e1 b5 b6 he2 hm0 hm1 c1
      obtain ⟨wo, rfl⟩ : ∃ x : World, x = wr := ⟨_, rfl⟩
      go_loopg [6, 22] xs.length (fun g s6 i wr => ∃ j : Nat, j ≤ xs.length ∧ g = xs.length - j ∧ i = .int .i64 j ∧ World.grownBy wo wr (Value.ownBlock (.slice (some ⟨g', 0, none⟩) xs.length cap)) ∧
        OwnF wr lo hi 3 (.slice (some ⟨g', 0, none⟩) xs.length cap) xs.length (fun t => if t < j then .int .i64 (((k : Int) * xs.getD t 0) % p) else iv xs t))
      case atStart => exact ⟨0, Nat.zero_le _, rfl, rfl, World.grownBy.refl _ _, H1.out.congr fun t _ => by simp⟩
      case round =>
        obtain ⟨j, hj, rfl, rfl, hg, hr⟩ := hrel
        by_cases hlt : j < xs.length
        · obtain ⟨y, hy⟩ : ∃ y, y = xs.getD j 0 := ⟨_, rfl⟩
          have c1 : wr.cell? ⟨g', j, none⟩ = some (.int .i64 y) := by rw [hr.cell hlt]; simp [iv, hy]
          have c3 := hr.frozen j
          have sy := Hxs.out j
          rw [← hy] at sy
          have hm0 : 0 ≤ (k : Int) * y := Int.mul_nonneg (by omega) sy.1
          have hm1 : (k : Int) * y ≤ 7 * 7 := Int.mul_le_mul (by omega) (by omega) (by omega) (by omega)
          have e1 : Int.tmod ((k : Int) * y) p = (k : Int) * y % p := Int.tmod_eq_emod_of_nonneg hm0
          have b5 : 0 ≤ (k : Int) * y % p := Int.emod_nonneg _ (by omega)
          have b6 : (k : Int) * y % p < p := Int.emod_lt_of_pos _ (by omega)
          have Hy := Lib.hid hy
          have Hg := Lib.hid hg
          have Hr := Lib.hid hr
          clear hy hg hr
          go_wp2_with fail
          go_roundg (xs.length - (j + 1))
          case measure => omega
          case rel =>
            refine ⟨j + 1, by omega, rfl, by go_num, ?_, OwnF.congr (f := fun t => if t = j then .int .i64 (((k : Int) * y) % p) else if t < j then .int .i64 (((k : Int) * xs.getD t 0) % p) else iv xs t) ?_ fun t ht => ?_⟩
            · exact ⟨Hg.out.os, Hg.out.tape, Hg.out.output, by simpa [World.setCell] using Hg.out.size, fun i hi hne => (Below.heap_setCell _ _ _ _ (by simpa [Value.ownBlock] using hne)).trans (Hg.out.block i hi hne)⟩
            · exact Hr.out.set j _
            · by_cases e : t = j
              · subst e
                simp only [if_true, show t < t + 1 by omega]
                rw [Hy.out]
              · by_cases e2 : t < j
                · simp only [e, if_false, e2, if_true, show t < j + 1 by omega]
                · simp only [e, if_false, e2, show ¬ t < j + 1 by omega]
        · go_wp2_with fail
          go_end0
          refine ⟨k, rfl, by omega, by omega, by rw [← Hx.out]; exact He.out, OwnF.ints ?_, ?_⟩
          · obtain rfl : j = xs.length := by omega
            rw [scaleL_length]
            exact hr.congr fun t ht => by simp only [ht, if_true]; rw [iv, scaleL_getD ht]
          · exact grown_qt Hq.out hg
    · have hlt : k < k0n := by
        rcases Nat.lt_or_ge k k0n with h1 | h1
        · exact h1
        · exact absurd (by rw [show k = k0n by omega]; exact Hk3.out) he
      have he2 : ((k : Int) * x % p != 1) = true := by simpa using he
      have hp0 : ¬ p = 0 := by omega
      have e1 : Int.tmod ((k : Int) * x) p = (k : Int) * x % p := Int.tmod_eq_emod_of_nonneg hm0
      have b5 : 0 ≤ (k : Int) * x % p := Int.emod_nonneg _ (by omega)
      have b6 : (k : Int) * x % p < p := Int.emod_lt_of_pos _ (by omega)
      clear he
      go_wp2_with fail
      go_roundg (k0n - (k + 1))
      case measure => omega
      case rel => exact ⟨k + 1, by omega, by omega, rfl, by go_num, rfl⟩

end Go.Proofs.Ytklpaannmdbmiaa

namespace Go.Proofs.Ytklpaannmdbmiaa
set_option linter.all false
open Go.RowKit

theorem alloc_drew_top (w : World) (o : Obj) : (w.alloc o).drew.heap[w.heap.size]? = some o := heap_alloc_top w o
theorem set4_all {w : World} {b : Nat} {x0 x1 x2 x3 : Value} {T : TypeId} (h : w.heap[b]? = some (.cells #[x0, x1, x2, x3] T (0, 0))) (y0 y1 y2 y3 : Value) :
    ((((w.setCell ⟨b, 0, none⟩ y0).setCell ⟨b, 1, none⟩ y1).setCell ⟨b, 2, none⟩ y2).setCell ⟨b, 3, none⟩ y3).heap[b]? = some (.cells #[y0, y1, y2, y3] T (0, 0)) := by
  have e := heap_setCell_at (heap_setCell_at (heap_setCell_at (heap_setCell_at h 0 y0) 1 y1) 2 y2) 3 y3
  simpa using e

/-- a pointer to a box that was made after wr, with the matrix M in it, whose numbers lie in blocks made after wr -/
def CutBox (T TM : TypeId) (wr wc : World) (M : Mx) (s : Value) : Prop :=
  ∃ q p k lo hi, s = .pointer (some ⟨q, 0, none⟩) ∧ wr.heap.size ≤ q ∧ wc.heap[q]? = some (.cells #[.int .i64 M.P, .int .i64 M.R, .int .i64 M.C, .slice p M.D.length k] TM) ∧
    OwnI T wc lo hi (.slice p M.D.length k) M.D ∧ (q < lo ∨ hi ≤ q) ∧ wr.heap.size ≤ lo ∧ hi ≤ wc.heap.size ∧ q < wc.heap.size ∧ Below wr.heap.size wr wc
theorem cutBox_alloc {T TM : TypeId} {wr w : World} {M : Mx} {p : Option Addr} {k lo : Nat} (hB : Below wr.heap.size wr w)
    (ho : OwnI T w lo w.heap.size (.slice p M.D.length k) M.D) (hlo : wr.heap.size ≤ lo) :
    CutBox T TM wr (w.alloc (.cells #[.int .i64 M.P, .int .i64 M.R, .int .i64 M.C, .slice p M.D.length k] TM)) M (.pointer (some ⟨w.heap.size, 0, none⟩)) :=
  ⟨_, _, _, _, _, rfl, hB.size, heap_alloc_top _ _, OwnI.below ho (below_alloc _ _), Or.inr (Nat.le_refl _), hlo, by simp, by simp, hB.alloc hB.size _⟩
theorem cutBox_set {T TM : TypeId} {wr w : World} {M : Mx} {p : Option Addr} {k lo q : Nat} {x0 x1 x2 x3 : Value} (hB : Below wr.heap.size wr w)
    (hz : w.heap[q]? = some (.cells #[x0, x1, x2, x3] TM)) (ho : OwnI T w lo w.heap.size (.slice p M.D.length k) M.D) (hlo : wr.heap.size ≤ lo) (hq : q < lo) (hr : wr.heap.size ≤ q) :
    CutBox T TM wr ((((w.setCell ⟨q, 0, none⟩ (.int .i64 M.P)).setCell ⟨q, 1, none⟩ (.int .i64 M.R)).setCell ⟨q, 2, none⟩ (.int .i64 M.C)).setCell ⟨q, 3, none⟩ (.slice p M.D.length k)) M (.pointer (some ⟨q, 0, none⟩)) :=
  ⟨_, _, _, _, _, rfl, hr, set4_all hz _ _ _ _, own_set4 ho (Or.inl hq) _ _ _ _, Or.inl hq, hlo, by simp, by have := blk_lt hz; simpa using this, below_set4 hB hr _ _ _ _⟩

end Go.Proofs.Ytklpaannmdbmiaa

namespace Go.Proofs.Ytklpaannmdbmiaa
set_option linter.all false
open Go.RowKit

set_option maxRecDepth 100000 in
set_option maxHeartbeats 400000 in
theorem l1Ints_any (v : Value) (xs : List Int) (w : World) (h : Ints w v xs) (hl : xs.length ≤ 1000000) :
    Calls Try.prog 38 #[v] w (RetI w xs) := by
  have hI := Lib.hid h
  obtain ⟨p, cap, rfl, ⟨hx1, hx2⟩, hxc⟩ := h
  have Hb1 := Lib.hid (show 0 + xs.length ≤ maxLen by unfold maxLen; omega)
  have Hb2 := Lib.hid (show (0 + xs.length) * 8 ≤ 140737488355328 by omega)
  clear hxc
  go_enter Try.func38, Try.ntmps38
  go_wp2_with (at_builtin; go_must (refine wpList_append_F rfl (.tmp 3) (.tmp 4) 24 rfl 3 (.int .i64 0) 8 Try.underlying24 info_int rfl w.heap.size (w.heap.size + 1) _ 0 (fun _ => undef) rfl (OwnF.made0 w _ _) (by simp) (by simp) _ _ _ rfl (hI.out.below (below_alloc w _)) (fun j _ => iv_one _ j) Hb1.out Hb2.out ?_; intro v' w' ho' hg'))
  go_ret
  refine ⟨_, rfl, OwnF.ints ?_, (below_alloc w _).trans (grownBy_below hg' (OwnF.made0 w 3 (fun _ => undef)).blocks (Nat.le_refl _) (by simp))⟩
  rw [Nat.zero_add] at ho'
  exact ho'.congr fun j _ => by simp

/-- the argument's box, and a block for the result, whatever it holds -/
theorem keep5 {w W W' : World} {a0 a1 a2 a3 : Addr} {v0 v1 v2 v3 : Value} {b : Nat} {T : TypeId} (hb : Below W.heap.size W W')
    (h : ((W.cell? a0 = some v0 ∧ W.cell? a1 = some v1 ∧ W.cell? a2 = some v2 ∧ W.cell? a3 = some v3) ∧ ∃ y0 y1 y2 y3, W.heap[b]? = some (.cells #[y0, y1, y2, y3] T (0, 0))) ∧ Below w.heap.size w W) :
    ((W'.cell? a0 = some v0 ∧ W'.cell? a1 = some v1 ∧ W'.cell? a2 = some v2 ∧ W'.cell? a3 = some v3) ∧ ∃ y0 y1 y2 y3, W'.heap[b]? = some (.cells #[y0, y1, y2, y3] T (0, 0))) ∧ Below w.heap.size w W' := by
  obtain ⟨⟨⟨h0, h1, h2, h3⟩, y0, y1, y2, y3, hy⟩, hB⟩ := h
  exact ⟨⟨⟨cell_below hb h0, cell_below hb h1, cell_below hb h2, cell_below hb h3⟩, y0, y1, y2, y3, blk_later hy hb⟩, hB.trans (hb.mono hB.size)⟩
theorem keep5_gen {w W W' : World} {b1 o0 o1 o2 o3 : Nat} {v0 v1 v2 v3 z0 z1 z2 z3 : Value} {b : Nat} {T : TypeId} (hh : W'.heap[b1]? = W.heap[b1]?) (hy : W'.heap[b]? = some (.cells #[z0, z1, z2, z3] T (0, 0))) (hB : Below w.heap.size w W')
    (h : W.cell? ⟨b1, o0, none⟩ = some v0 ∧ W.cell? ⟨b1, o1, none⟩ = some v1 ∧ W.cell? ⟨b1, o2, none⟩ = some v2 ∧ W.cell? ⟨b1, o3, none⟩ = some v3) :
    ((W'.cell? ⟨b1, o0, none⟩ = some v0 ∧ W'.cell? ⟨b1, o1, none⟩ = some v1 ∧ W'.cell? ⟨b1, o2, none⟩ = some v2 ∧ W'.cell? ⟨b1, o3, none⟩ = some v3) ∧ ∃ y0 y1 y2 y3, W'.heap[b]? = some (.cells #[y0, y1, y2, y3] T (0, 0))) ∧ Below w.heap.size w W' := by
  obtain ⟨h0, h1, h2, h3⟩ := h
  refine ⟨⟨⟨?_, ?_, ?_, ?_⟩, z0, z1, z2, z3, hy⟩, hB⟩
  · rw [World.cell?_of_block (w := W) hh]; exact h0
  · rw [World.cell?_of_block (w := W) hh]; exact h1
  · rw [World.cell?_of_block (w := W) hh]; exact h2
  · rw [World.cell?_of_block (w := W) hh]; exact h3
theorem keep5_set {w W : World} {b1 o0 o1 o2 o3 : Nat} {v0 v1 v2 v3 : Value} {b : Nat} {T : TypeId} (hne : b1 ≠ b) (hbw : w.heap.size ≤ b) (x0 x1 x2 x3 : Value)
    (h : ((W.cell? ⟨b1, o0, none⟩ = some v0 ∧ W.cell? ⟨b1, o1, none⟩ = some v1 ∧ W.cell? ⟨b1, o2, none⟩ = some v2 ∧ W.cell? ⟨b1, o3, none⟩ = some v3) ∧ ∃ y0 y1 y2 y3, W.heap[b]? = some (.cells #[y0, y1, y2, y3] T (0, 0))) ∧ Below w.heap.size w W) :
    ((((((W.setCell ⟨b, 0, none⟩ x0).setCell ⟨b, 1, none⟩ x1).setCell ⟨b, 2, none⟩ x2).setCell ⟨b, 3, none⟩ x3).cell? ⟨b1, o0, none⟩ = some v0 ∧ ((((W.setCell ⟨b, 0, none⟩ x0).setCell ⟨b, 1, none⟩ x1).setCell ⟨b, 2, none⟩ x2).setCell ⟨b, 3, none⟩ x3).cell? ⟨b1, o1, none⟩ = some v1 ∧
      ((((W.setCell ⟨b, 0, none⟩ x0).setCell ⟨b, 1, none⟩ x1).setCell ⟨b, 2, none⟩ x2).setCell ⟨b, 3, none⟩ x3).cell? ⟨b1, o2, none⟩ = some v2 ∧ ((((W.setCell ⟨b, 0, none⟩ x0).setCell ⟨b, 1, none⟩ x1).setCell ⟨b, 2, none⟩ x2).setCell ⟨b, 3, none⟩ x3).cell? ⟨b1, o3, none⟩ = some v3) ∧
      ∃ y0 y1 y2 y3, ((((W.setCell ⟨b, 0, none⟩ x0).setCell ⟨b, 1, none⟩ x1).setCell ⟨b, 2, none⟩ x2).setCell ⟨b, 3, none⟩ x3).heap[b]? = some (.cells #[y0, y1, y2, y3] T (0, 0))) ∧
      Below w.heap.size w ((((W.setCell ⟨b, 0, none⟩ x0).setCell ⟨b, 1, none⟩ x1).setCell ⟨b, 2, none⟩ x2).setCell ⟨b, 3, none⟩ x3) := by
  obtain ⟨⟨hc, y0, y1, y2, y3, hy⟩, hB⟩ := h
  have hh : ((((W.setCell ⟨b, 0, none⟩ x0).setCell ⟨b, 1, none⟩ x1).setCell ⟨b, 2, none⟩ x2).setCell ⟨b, 3, none⟩ x3).heap[b1]? = W.heap[b1]? := by
    rw [Below.heap_setCell _ _ _ _ (show b1 ≠ (⟨b, 3, none⟩ : Addr).block from hne), Below.heap_setCell _ _ _ _ (show b1 ≠ (⟨b, 2, none⟩ : Addr).block from hne), Below.heap_setCell _ _ _ _ (show b1 ≠ (⟨b, 1, none⟩ : Addr).block from hne), Below.heap_setCell _ _ _ _ (show b1 ≠ (⟨b, 0, none⟩ : Addr).block from hne)]
  have hy4 := set4_all hy x0 x1 x2 x3
  have hB4 := below_set4 hB hbw x0 x1 x2 x3
  exact keep5_gen hh hy4 hB4 hc
theorem s5_blk {w W : World} {a0 a1 a2 a3 : Addr} {v0 v1 v2 v3 : Value} {b : Nat} {T : TypeId}
    (h : ((W.cell? a0 = some v0 ∧ W.cell? a1 = some v1 ∧ W.cell? a2 = some v2 ∧ W.cell? a3 = some v3) ∧ ∃ y0 y1 y2 y3, W.heap[b]? = some (.cells #[y0, y1, y2, y3] T (0, 0))) ∧ Below w.heap.size w W) :
    ∃ y0 y1 y2 y3, W.heap[b]? = some (.cells #[y0, y1, y2, y3] T (0, 0)) := h.1.2

/-- the box of a matrix argument and the result's cell -/
theorem box2_start (w : World) (T T2 : TypeId) (P R C : Int) (d : Value) :
    ((w.alloc (.cells #[.int .i64 P, .int .i64 R, .int .i64 C, d] T)).alloc (.cells #[.int .i64 0, .int .i64 0, .int .i64 0, .slice none 0 0] T2)).heap[w.heap.size]? = some (.cells #[.int .i64 P, .int .i64 R, .int .i64 C, d] T (0, 0)) ∧
    ((w.alloc (.cells #[.int .i64 P, .int .i64 R, .int .i64 C, d] T)).alloc (.cells #[.int .i64 0, .int .i64 0, .int .i64 0, .slice none 0 0] T2)).heap[w.heap.size + 1]? = some (.cells #[.int .i64 0, .int .i64 0, .int .i64 0, .slice none 0 0] T2 (0, 0)) := by
  refine ⟨?_, heap_alloc_at _ _ (by simp)⟩
  rw [heap_alloc_low _ _ (by simp)]; exact heap_alloc_top _ _

end Go.Proofs.Ytklpaannmdbmiaa

namespace Go.Proofs.Ytklpaannmdbmiaa
set_option linter.all false
open Go.RowKit

theorem nm_no1 {N : Int} {y : List Int} (h : ¬ (1 ≤ N ∧ N ≤ 5)) : nmOk N y = false := by
  unfold nmOk
  by_cases h1 : 1 ≤ N
  · rw [decide_eq_false (show ¬ N ≤ 5 by omega)]; simp
  · rw [decide_eq_false h1]; simp
theorem nm_no2 {N : Int} {y : List Int} (h : ¬ (y.length : Int) = N) : nmOk N y = false := by
  unfold nmOk
  rw [decide_eq_false h]; simp
theorem nm_no3 {N : Int} {y : List Int} {k : Nat} (hk : k < y.length) (h : ¬ (-9 ≤ y.getD k 0 ∧ y.getD k 0 ≤ 9)) : nmOk N y = false := by
  unfold nmOk
  rw [decide_eq_false (show ¬ ∀ x ∈ y, -9 ≤ x ∧ x ≤ 9 from fun e => h (e _ (getD_mem hk)))]; simp
theorem all_of_getD {y : List Int} {Q : Int → Prop} (h : ∀ k, k < y.length → Q (y.getD k 0)) : ∀ x ∈ y, Q x := fun x hx => by
  obtain ⟨k, hk, rfl⟩ := List.mem_iff_getElem.1 hx
  have := h k hk
  rwa [getD_lt hk] at this
theorem nm_yes {N : Int} {y : List Int} (h : 1 ≤ N ∧ N ≤ 5) (hl : (y.length : Int) = N) (hk : ∀ k, k < y.length → -9 ≤ y.getD k 0 ∧ y.getD k 0 ≤ 9) : nmOk N y = true := by
  unfold nmOk
  rw [decide_eq_true h.1, decide_eq_true h.2, decide_eq_true hl, decide_eq_true (all_of_getD hk)]; rfl
theorem nm_facts {N : Int} {y : List Int} (h : nmOk N y = true) : ∃ n : Nat, N = n ∧ 1 ≤ n ∧ n ≤ 5 ∧ y.length = n ∧ ∀ k, k < n → -9 ≤ y.getD k 0 ∧ y.getD k 0 ≤ 9 := by
  unfold nmOk at h
  simp only [Bool.and_eq_true, decide_eq_true_eq] at h
  obtain ⟨⟨⟨h1, h2⟩, h3⟩, h4⟩ := h
  exact ⟨y.length, h3.symm, by omega, by omega, rfl, fun k hk => h4 _ (getD_mem hk)⟩

theorem ints_takeP2 {w : World} {p : Option Addr} {cap : Nat} {xs : List Int} (h : Ints w (.slice p xs.length cap) xs) {i : Nat} (hi : i ≤ xs.length) : Ints w (.slice p i cap) (xs.take i) := h.take i hi
/-! ### different numbers -/
theorem ap_no1 {N : Int} {y : List Int} (h : nmOk N y = false) : apOk N y = false := by simp [apOk, h]
theorem ap_no2 {N : Int} {y : List Int} (h : ¬ N ≤ 4) : apOk N y = false := by simp [apOk, h]
theorem nodup_no {y : List Int} {k : Nat} (hk : k < y.length) (h : y.getD k 0 ∈ y.take k) : ¬ y.Nodup := fun hn => by
  obtain ⟨j, hj, e⟩ := List.mem_iff_getElem.1 h
  have hj' : j < k := by rw [List.length_take] at hj; omega
  rw [List.getElem_take, getD_lt hk] at e
  exact List.pairwise_iff_getElem.1 hn j k (by omega) hk hj' e
theorem nodup_yes {y : List Int} (h : ∀ k, k < y.length → ¬ y.getD k 0 ∈ y.take k) : y.Nodup := by
  refine List.pairwise_iff_getElem.2 fun i j hi hj hij e => h j hj ?_
  rw [getD_lt hj, ← e]
  exact List.mem_iff_getElem.2 ⟨i, by rw [List.length_take]; omega, by rw [List.getElem_take]⟩
theorem ap_no3 {N : Int} {y : List Int} {k : Nat} (hk : k < y.length) (h : y.getD k 0 ∈ y.take k) : apOk N y = false := by
  unfold apOk
  rw [decide_eq_false (nodup_no hk h)]; simp
theorem ap_yes {N : Int} {y : List Int} (h1 : nmOk N y = true) (h2 : N ≤ 4) (h : ∀ k, k < y.length → ¬ y.getD k 0 ∈ y.take k) : apOk N y = true := by
  unfold apOk
  rw [h1, decide_eq_true h2, decide_eq_true (nodup_yes h)]; rfl
theorem ap_facts {N : Int} {y : List Int} (h : apOk N y = true) : ∃ n : Nat, N = n ∧ 1 ≤ n ∧ n ≤ 4 ∧ y.length = n ∧ (∀ k, k < n → -9 ≤ y.getD k 0 ∧ y.getD k 0 ≤ 9) ∧ ∀ i j, i < n → j < n → i ≠ j → y.getD i 0 ≠ y.getD j 0 := by
  unfold apOk at h
  simp only [Bool.and_eq_true, decide_eq_true_eq] at h
  obtain ⟨⟨h1, h2⟩, h3⟩ := h
  obtain ⟨n, rfl, a, b, c, d⟩ := nm_facts h1
  refine ⟨n, rfl, a, by omega, c, d, fun i j hi hj hij e => ?_⟩
  rw [getD_lt (show i < y.length by omega), getD_lt (show j < y.length by omega)] at e
  rcases Nat.lt_or_gt_of_ne hij with h | h
  · exact List.pairwise_iff_getElem.1 h3 i j (by omega) (by omega) h e
  · exact List.pairwise_iff_getElem.1 h3 j i (by omega) (by omega) h e.symm

/-! ### values -/
theorem most_no {vs : List Int} {k : Nat} (hk : k < vs.length) (h : ¬ (-1000000000000 ≤ vs.getD k 0 ∧ vs.getD k 0 ≤ 1000000000000)) : mostB vs = false :=
  decide_eq_false fun e => h (e _ (getD_mem hk))
theorem most_yes {vs : List Int} (h : ∀ k, k < vs.length → -1000000000000 ≤ vs.getD k 0 ∧ vs.getD k 0 ≤ 1000000000000) : mostB vs = true := decide_eq_true (all_of_getD h)
theorem most_at {vs : List Int} (h : mostB vs = true) {k : Nat} (hk : k < vs.length) : -1000000000000 ≤ vs.getD k 0 ∧ vs.getD k 0 ≤ 1000000000000 := of_decide_eq_true h _ (getD_mem hk)

/-! ### two places exchanged -/
theorem OwnI.setG {T : TypeId} {w : World} {lo hi g n cap t : Nat} {D : List Int} (h : OwnI T w lo hi (.slice (some ⟨g, 0, none⟩) n cap) D) (ht : t < D.length) (x : Int) : OwnI T (w.setCell ⟨g, t, none⟩ (.int .i64 x)) lo hi (.slice (some ⟨g, 0, none⟩) n cap) (D.set t x) := by
  refine OwnF.ints ?_
  rw [List.length_set]
  refine (h.fn.set t _).congr fun j hj => ?_
  unfold iv
  by_cases e : j = t
  · subst e; simp [List.getD_eq_getElem?_getD, ht]
  · simp [e, List.getD_eq_getElem?_getD, List.getElem?_set_ne (fun h => e h.symm)]

set_option maxRecDepth 100000 in
set_option maxHeartbeats 1000000 in
theorem l1Swap_any (v : Value) (xs : List Int) (i j : Nat) (w : World) (h : Ints w v xs) (hi : i < xs.length) (hj : j < xs.length) (hl : xs.length ≤ 1000) :
    Calls Try.prog 41 #[v, .int .i64 (i : Int), .int .i64 (j : Int)] w (RetI w (swapL xs i j)) := by
  have Hh := Lib.hid h
  obtain ⟨p, cap, rfl, ⟨hx1, hx⟩, hxc⟩ := h
  unfold maxLen at hx
  obtain ⟨b, off, rfl, hc⟩ := hxc (by omega)
  have Hc := Lib.hid hc
  clear hc hxc
  go_enter Try.func41, Try.ntmps41
  go_wp2_with fail
  refine (l1Ints_any _ xs _ Hh.out (by omega)).mono ?_
  rintro e w1 ⟨u, rfl, ho, hb⟩
  have hofn := ho.fn
  obtain ⟨pu, ku, rfl, hku, hku2⟩ := ho.shape
  unfold maxLen at hku2
  obtain ⟨g, rfl, hg1, hg2, hg3⟩ := hofn.at_ (by omega)
  obtain ⟨x, hx'⟩ : ∃ x, x = xs.getD i 0 := ⟨_, rfl⟩
  obtain ⟨y, hy'⟩ : ∃ y, y = xs.getD j 0 := ⟨_, rfl⟩
  have c1 : w1.cell? ⟨b, off + i, none⟩ = some (.int .i64 x) := by rw [hx']; exact cell_below hb (Hc.out i hi)
  have c2 : w1.cell? ⟨b, off + j, none⟩ = some (.int .i64 y) := by rw [hy']; exact cell_below hb (Hc.out j hj)
  have f1 := hofn.frozen i
  have f2 := hofn.frozen j
  have d1 := hofn.cell hi
  have d2 := hofn.cell hj
  obtain ⟨z, d3⟩ : ∃ z, (w1.setCell ⟨g, i, none⟩ (.int .i64 y)).cell? ⟨g, j, none⟩ = some z := ⟨_, (hofn.set i (.int .i64 y)).cell hj⟩
  have hgb : g ≠ b := fun e => by
    have := World.block_lt_of_cell? _ _ (Hc.out i hi)
    have : b < w.heap.size := this
    omega
  have hbg : b ≠ g := fun e => hgb e.symm
  obtain ⟨n, hn⟩ : ∃ n, n = xs.length := ⟨_, rfl⟩
  have Hn := Lib.hid hn
  have Ho := Lib.hid ho
  have Hb := Lib.hid hb
  have Hx := Lib.hid hx'
  have Hy := Lib.hid hy'
  have hi2 : (i : Int) < (n : Int) := by omega
  have hj2 : (j : Int) < (n : Int) := by omega
  rw [← hn] at hx1 hku hi hj ⊢
  clear hofn ho hb hn hx' hy' hgb
  go_wp2_with fail
  go_ret
  refine ⟨_, rfl, ?_, ((Hb.out.setCell (p := ⟨g, i, none⟩) hg1 _).setCell (p := ⟨g, j, none⟩) hg1 _)⟩
  unfold swapL
  rw [← Hx.out, ← Hy.out]
  have o1 := (Ho.out.setG (by rw [← Hn.out]; exact hi) y).setG (t := j) (by rw [List.length_set, ← Hn.out]; exact hj) x
  rw [← Hn.out] at o1
  have := o1.mono (Nat.le_refl _) (show w1.heap.size ≤ ((w1.setCell ⟨g, i, none⟩ (.int .i64 y)).setCell ⟨g, j, none⟩ (.int .i64 x)).heap.size by simp)
  exact this

end Go.Proofs.Ytklpaannmdbmiaa

namespace Go.Proofs.Ytklpaannmdbmiaa
set_option linter.all false
open Go.RowKit

theorem cdK_yes {xs : List Int} {i t : Nat} (h : xs.getD (i + 1 + t) 0 < xs.getD i 0) : cdK xs i (t + 1) = cdK xs i t + 1 := by
  unfold cdK
  rw [List.range_succ, List.filter_append]
  simp only [List.filter_cons, List.filter_nil, h, decide_true, if_true, List.length_append, List.length_singleton]
theorem cdK_no {xs : List Int} {i t : Nat} (h : ¬ xs.getD (i + 1 + t) 0 < xs.getD i 0) : cdK xs i (t + 1) = cdK xs i t := by
  unfold cdK
  rw [List.range_succ, List.filter_append]
  have e : List.filter (fun (s : Nat) => decide (xs.getD (i + 1 + s) 0 < xs.getD i 0)) [t] = [] := by
    rw [List.filter_cons, decide_eq_false h]; rfl
  rw [e, List.append_nil]
theorem cdK_le (xs : List Int) (i t : Nat) : cdK xs i t ≤ t := by
  unfold cdK
  exact Nat.le_trans (List.length_filter_le _ _) (by simp)
def cdF (xs : List Int) (i t j : Nat) : Nat := if j < i then cdA xs j else if j = i then cdK xs i t else 0
def cdL (xs : List Int) : List Int := (List.range xs.length).map fun i => (cdA xs i : Int)
theorem cdL_length (xs : List Int) : (cdL xs).length = xs.length := by simp [cdL]
theorem cdL_getD {xs : List Int} {i : Nat} (h : i < xs.length) : (cdL xs).getD i 0 = (cdA xs i : Int) := by simp [cdL, List.getD_eq_getElem?_getD, h]

set_option maxRecDepth 100000 in
set_option maxHeartbeats 4000000 in
theorem l1Code_any (v : Value) (xs : List Int) (w : World) (h : Ints w v xs) (hl : xs.length ≤ 10) :
    Calls Try.prog 54 #[v] w (RetI w (cdL xs)) := by
  obtain ⟨p, cap, rfl, ⟨hx1, hx⟩, hxc⟩ := h
  unfold maxLen at hx
  obtain ⟨n, hn⟩ : ∃ n, n = xs.length := ⟨_, rfl⟩
  have hmk := run_make_row' (P := Try.prog) 24 3 (.int .i64 0) 8 Try.underlying24 info_int rfl .i64 .i64 n (by omega) (by omega)
  have Hn := Lib.hid hn
  rw [← hn] at hx1 hxc hl ⊢
  have Hxc := Lib.hid hxc
  clear hn hxc
  go_enter Try.func54, Try.ntmps54
  go_wp2_with fail
  go_loopg [4, 5] n (fun g s4 s5 wr => ∃ i : Nat, i ≤ n ∧ g = n - i ∧ s4 = .int .i64 i ∧ Hid (Below w.heap.size w wr) ∧ Hid (wr.rowIs w.heap.size 3 n (fun j => .int .i64 (cdF xs i 0 j : Nat))))
  case atStart =>
    refine ⟨0, Nat.zero_le _, rfl, rfl, Lib.hid (below_alloc _ _), Lib.hid ?_⟩
    exact (World.rowIs_made w (.int .i64 0) n 3).congr fun j _ => by
      unfold cdF cdK
      by_cases e : j = 0 <;> simp [e]
  case round =>
    obtain ⟨i, hi, rfl, rfl, hb, hrow⟩ := hrel
    by_cases hlt : i < n
    · have hlti : (i : Int) < (n : Int) := by omega
      obtain ⟨b, off, rfl, hc⟩ := Hxc.out (by omega)
      have Hc := Lib.hid hc
      obtain ⟨wo, rfl⟩ : ∃ x : World, x = wr := ⟨_, rfl⟩
      have Hb := Lib.hid hb.out
      have Hrow := Lib.hid hrow.out
      clear hc hb hrow
      go_wp2_with fail
      go_loopg [5] (n - (i + 1)) (fun g s5 wr => ∃ t : Nat, i + 1 + t ≤ n ∧ g = n - (i + 1) - t ∧ s5 = .int .i64 ((i : Int) + 1 + (t : Int)) ∧ Hid (Below w.heap.size w wr) ∧ Hid (wr.rowIs w.heap.size 3 n (fun j => .int .i64 (cdF xs i t j : Nat))))
      case atStart => exact ⟨0, by omega, rfl, by go_num, Hb, Hrow⟩
      case round =>
        obtain ⟨t, ht, rfl, rfl, hb, hrow⟩ := hrel
        by_cases htl : i + 1 + t < n
        · have hti : (i : Int) + 1 + (t : Int) < (n : Int) := by omega
          obtain ⟨x, hx'⟩ : ∃ x, x = xs.getD (i + 1 + t) 0 := ⟨_, rfl⟩
          obtain ⟨y, hy'⟩ : ∃ y, y = xs.getD i 0 := ⟨_, rfl⟩
          have c1 : wr.cell? ⟨b, off + (i + 1 + t), none⟩ = some (.int .i64 x) := by rw [hx']; exact cell_below hb.out (Hc.out (i + 1 + t) htl)
          have c2 : wr.cell? ⟨b, off + i, none⟩ = some (.int .i64 y) := by rw [hy']; exact cell_below hb.out (Hc.out i hlt)
          have hnat : ((i : Int) + 1 + (t : Int)).toNat = i + 1 + t := by omega
          have h0 : (0 : Int) ≤ (i : Int) + 1 + (t : Int) := by omega
          have d1 := hrow.out.cell hlt
          have d2 := hrow.out.frozen i
          obtain ⟨z, hz⟩ : ∃ z, z = cdF xs i t i := ⟨_, rfl⟩
          rw [← hz] at d1
          have hz2 : z = cdK xs i t := by rw [hz]; unfold cdF; rw [if_neg (Nat.lt_irrefl _), if_pos rfl]
          have hz3 : z ≤ 10 := by rw [hz2]; have := cdK_le xs i t; omega
          have Hx := Lib.hid hx'
          have Hy := Lib.hid hy'
          have Hz := Lib.hid hz2
          have Hb1 := Lib.hid hb.out
          have Hrow1 := Lib.hid hrow.out
          clear hx' hy' hz hz2 hb hrow
          go_wp2_with fail
          go_quiet (fail)
          have Hb2 := Lib.hid (Below.drewN Hb1.out nq)
          have Hrow2 := Lib.hid (show (wr.drewN nq).rowIs w.heap.size 3 n (fun j => .int .i64 (cdF xs i t j : Nat)) from Hrow1.out.of_block rfl)
          have d1' : (wr.drewN nq).cell? ⟨w.heap.size, i, none⟩ = some (.int .i64 (z : Int)) := d1
          have d2' : (wr.drewN nq).frozen? ⟨w.heap.size, i, none⟩ = false := d2
          generalize wr.drewN nq = wd at *
          by_cases hxy : x < y
          · have Hk := Lib.hid (show cdK xs i (t + 1) = z + 1 by rw [cdK_yes (by rw [← Hx.out, ← Hy.out]; exact hxy), Hz.out])
            go_wp2_with fail
            go_roundg (n - (i + 1) - (t + 1))
            case measure => omega
            case rel =>
              refine ⟨t + 1, by omega, rfl, by go_num, Lib.hid (Hb2.out.setCell (Nat.le_refl _) _), Lib.hid ((Hrow2.out.set i _).congr fun j _ => ?_)⟩
              by_cases e : j = i
              · subst e
                rw [if_pos rfl]
                unfold cdF
                rw [if_neg (Nat.lt_irrefl _), if_pos rfl, Hk.out]
                go_num
              · rw [if_neg e]
                unfold cdF
                rw [if_neg e, if_neg e]
          · have Hk := Lib.hid (show cdK xs i (t + 1) = cdK xs i t by rw [cdK_no (by rw [← Hx.out, ← Hy.out]; exact hxy)])
            go_wp2_with fail
            go_roundg (n - (i + 1) - (t + 1))
            case measure => omega
            case rel =>
              refine ⟨t + 1, by omega, rfl, by go_num, Hb2, Lib.hid (Hrow2.out.congr fun j _ => ?_)⟩
              unfold cdF
              rw [Hk.out]
        · have hti : ¬ (i : Int) + 1 + (t : Int) < (n : Int) := by omega
          have htn : t = n - (i + 1) := by omega
          have Hb1 := Lib.hid hb.out
          have Hrow1 := Lib.hid hrow.out
          have Htn := Lib.hid htn
          clear hb hrow htn
          go_wp2_with fail
          go_roundg (n - (i + 1))
          case measure => omega
          case rel =>
            refine ⟨i + 1, by omega, rfl, by go_num, Hb1, Lib.hid (Hrow1.out.congr fun j _ => ?_)⟩
            unfold cdF
            by_cases e1 : j < i
            · rw [if_pos e1, if_pos (show j < i + 1 by omega)]
            · by_cases e2 : j = i
              · subst e2
                rw [if_neg e1, if_pos rfl, if_pos (Nat.lt_succ_self j)]
                unfold cdA
                rw [← Hn.out, Htn.out]
              · rw [if_neg e1, if_neg e2, if_neg (show ¬ j < i + 1 by omega)]
                by_cases e3 : j = i + 1
                · rw [if_pos e3]; rfl
                · rw [if_neg e3]
    · obtain rfl : n = i := by omega
      have hlti : ¬ (n : Int) < (n : Int) := by omega
      have hr0 : wr.rowIs w.heap.size 3 n (iv (cdL xs)) := hrow.out.congr fun j hj => by
        rw [iv, cdL_getD (by rw [← Hn.out]; exact hj)]
        unfold cdF
        rw [if_pos hj]
      have ho := rowIs_ints (xs := cdL xs) (by rw [cdL_length, ← Hn.out]; exact hr0) (by rw [cdL_length, ← Hn.out]; unfold maxLen; omega)
      rw [cdL_length, ← Hn.out] at ho
      have Ho := Lib.hid ho
      clear ho hrow
      go_wp2_with fail
      go_ret
      exact ⟨_, rfl, Ho.out, hb.out⟩

end Go.Proofs.Ytklpaannmdbmiaa

namespace Go.Proofs.Ytklpaannmdbmiaa
set_option linter.all false
open Go.RowKit

/-- append, as a step of a region that draws -/
theorem step_append_F {P : Program} {w : World} {ops : Array Oper} {o : Oper} {a : Act} {K : Act → World → Prop} {Q : Exit → Act → World → Prop} {E : Prop} (hgd : o.guard = none) (s x : Operand) (t : TypeId)
    (ho : o.op = .call { callee := .builtin .append, args := #[s, x], argTypes := #[t, t] })
    (e : TypeId) (z : Value) (bytes : Nat) (ht : P.underlying t = some (.slice e)) (hinfo : (P.info? e).map (fun i => (i.zero, i.size, i.bytes)) = some (some z, 1, bytes)) (hzs : z.cells.size = 1)
    (lo hi' : Nat) (v : Value) (n : Nat) (f : Nat → Value) (hs : a.eval s = v) (hown : OwnF w lo hi' e v n f) (hlo : lo ≤ w.heap.size) (hhi : hi' ≤ w.heap.size)
    (u : Value) (m : Nat) (g : Nat → Value) (hxu : a.eval x = u) (hx : Rd w u m g) (h1 : ∀ j, j < m → (g j).oneCell' = true) (h63 : n + m ≤ maxLen) (hbytes : (n + m) * bytes ≤ 140737488355328)
    (h : ∀ v' w', OwnF w' lo w'.heap.size e v' (n + m) (fun j => if j < n then f j else g (j - n)) → w.grownBy w' v.ownBlock → K (a.put o.dst v') w') :
    if Region.wanted o (yielded ops a.tmps) = true then Oper.wp P o a w K Q else E := by
  have hw : Region.wanted o (yielded ops a.tmps) = true := by simp [Region.wanted, hgd]
  rw [if_pos hw]
  obtain ⟨i, hi, hz, hsz, hby⟩ := info_parts hinfo
  obtain ⟨v', w', hr, h2, h3⟩ := run_append_F (P := P) w t o.type e i z bytes ht hi hz hsz hby hzs lo hi' v n f hown hlo hhi u m g hx h1 h63 hbytes
  unfold Oper.wp
  simp [execOp, ho, resolve, invoke, builtin, hs, hxu, hr, Result.andThen]
  exact h v' w' h2 h3

theorem grownBy_below2 {w w' : World} {v : Value} {lo hi : Nat} {T : TypeId} {n : Nat} {f : Nat → Value} (h : w.grownBy w' v.ownBlock) (ho : OwnF w lo hi T v n f) {B : Nat} (h1 : B ≤ lo) (h2 : B ≤ w.heap.size) : Below B w w' :=
  grownBy_below h ho.blocks h1 h2

/-- eight cells that are read, and a block for the result -/
theorem keep9 {w W W' : World} {a0 a1 a2 a3 a4 a5 a6 a7 : Addr} {v0 v1 v2 v3 v4 v5 v6 v7 : Value} {b : Nat} {T : TypeId} (hb : Below W.heap.size W W')
    (h : ((W.cell? a0 = some v0 ∧ W.cell? a1 = some v1 ∧ W.cell? a2 = some v2 ∧ W.cell? a3 = some v3 ∧ W.cell? a4 = some v4 ∧ W.cell? a5 = some v5 ∧ W.cell? a6 = some v6 ∧ W.cell? a7 = some v7) ∧ ∃ y0 y1 y2 y3, W.heap[b]? = some (.cells #[y0, y1, y2, y3] T (0, 0))) ∧ Below w.heap.size w W) :
    ((W'.cell? a0 = some v0 ∧ W'.cell? a1 = some v1 ∧ W'.cell? a2 = some v2 ∧ W'.cell? a3 = some v3 ∧ W'.cell? a4 = some v4 ∧ W'.cell? a5 = some v5 ∧ W'.cell? a6 = some v6 ∧ W'.cell? a7 = some v7) ∧ ∃ y0 y1 y2 y3, W'.heap[b]? = some (.cells #[y0, y1, y2, y3] T (0, 0))) ∧ Below w.heap.size w W' := by
  obtain ⟨⟨⟨h0, h1, h2, h3, h4, h5, h6, h7⟩, y0, y1, y2, y3, hy⟩, hB⟩ := h
  exact ⟨⟨⟨cell_below hb h0, cell_below hb h1, cell_below hb h2, cell_below hb h3, cell_below hb h4, cell_below hb h5, cell_below hb h6, cell_below hb h7⟩, y0, y1, y2, y3, blk_later hy hb⟩, hB.trans (hb.mono hB.size)⟩
theorem keep9_gen {w W W' : World} {b1 b2 o0 o1 o2 o3 o4 o5 o6 o7 : Nat} {v0 v1 v2 v3 v4 v5 v6 v7 z0 z1 z2 z3 : Value} {b : Nat} {T : TypeId} (hh : W'.heap[b1]? = W.heap[b1]?) (hh2 : W'.heap[b2]? = W.heap[b2]?) (hy : W'.heap[b]? = some (.cells #[z0, z1, z2, z3] T (0, 0))) (hB : Below w.heap.size w W')
    (h : W.cell? ⟨b1, o0, none⟩ = some v0 ∧ W.cell? ⟨b1, o1, none⟩ = some v1 ∧ W.cell? ⟨b1, o2, none⟩ = some v2 ∧ W.cell? ⟨b1, o3, none⟩ = some v3 ∧ W.cell? ⟨b2, o4, none⟩ = some v4 ∧ W.cell? ⟨b2, o5, none⟩ = some v5 ∧ W.cell? ⟨b2, o6, none⟩ = some v6 ∧ W.cell? ⟨b2, o7, none⟩ = some v7) :
    ((W'.cell? ⟨b1, o0, none⟩ = some v0 ∧ W'.cell? ⟨b1, o1, none⟩ = some v1 ∧ W'.cell? ⟨b1, o2, none⟩ = some v2 ∧ W'.cell? ⟨b1, o3, none⟩ = some v3 ∧ W'.cell? ⟨b2, o4, none⟩ = some v4 ∧ W'.cell? ⟨b2, o5, none⟩ = some v5 ∧ W'.cell? ⟨b2, o6, none⟩ = some v6 ∧ W'.cell? ⟨b2, o7, none⟩ = some v7) ∧ ∃ y0 y1 y2 y3, W'.heap[b]? = some (.cells #[y0, y1, y2, y3] T (0, 0))) ∧ Below w.heap.size w W' := by
  obtain ⟨h0, h1, h2, h3, h4, h5, h6, h7⟩ := h
  refine ⟨⟨⟨?_, ?_, ?_, ?_, ?_, ?_, ?_, ?_⟩, z0, z1, z2, z3, hy⟩, hB⟩
  · rw [World.cell?_of_block (w := W) hh]; exact h0
  · rw [World.cell?_of_block (w := W) hh]; exact h1
  · rw [World.cell?_of_block (w := W) hh]; exact h2
  · rw [World.cell?_of_block (w := W) hh]; exact h3
  · rw [World.cell?_of_block (w := W) hh2]; exact h4
  · rw [World.cell?_of_block (w := W) hh2]; exact h5
  · rw [World.cell?_of_block (w := W) hh2]; exact h6
  · rw [World.cell?_of_block (w := W) hh2]; exact h7
theorem heap_set4 {W : World} {b1 b : Nat} (hne : b1 ≠ b) (x0 x1 x2 x3 : Value) : ((((W.setCell ⟨b, 0, none⟩ x0).setCell ⟨b, 1, none⟩ x1).setCell ⟨b, 2, none⟩ x2).setCell ⟨b, 3, none⟩ x3).heap[b1]? = W.heap[b1]? := by
  rw [Below.heap_setCell _ _ _ _ (show b1 ≠ (⟨b, 3, none⟩ : Addr).block from hne), Below.heap_setCell _ _ _ _ (show b1 ≠ (⟨b, 2, none⟩ : Addr).block from hne), Below.heap_setCell _ _ _ _ (show b1 ≠ (⟨b, 1, none⟩ : Addr).block from hne), Below.heap_setCell _ _ _ _ (show b1 ≠ (⟨b, 0, none⟩ : Addr).block from hne)]
theorem keep9_set {w W : World} {b1 b2 o0 o1 o2 o3 o4 o5 o6 o7 : Nat} {v0 v1 v2 v3 v4 v5 v6 v7 : Value} {b : Nat} {T : TypeId} (hne : b1 ≠ b) (hne2 : b2 ≠ b) (hbw : w.heap.size ≤ b) (x0 x1 x2 x3 : Value)
    (h : ((W.cell? ⟨b1, o0, none⟩ = some v0 ∧ W.cell? ⟨b1, o1, none⟩ = some v1 ∧ W.cell? ⟨b1, o2, none⟩ = some v2 ∧ W.cell? ⟨b1, o3, none⟩ = some v3 ∧ W.cell? ⟨b2, o4, none⟩ = some v4 ∧ W.cell? ⟨b2, o5, none⟩ = some v5 ∧ W.cell? ⟨b2, o6, none⟩ = some v6 ∧ W.cell? ⟨b2, o7, none⟩ = some v7) ∧ ∃ y0 y1 y2 y3, W.heap[b]? = some (.cells #[y0, y1, y2, y3] T (0, 0))) ∧ Below w.heap.size w W) :
    ((((((W.setCell ⟨b, 0, none⟩ x0).setCell ⟨b, 1, none⟩ x1).setCell ⟨b, 2, none⟩ x2).setCell ⟨b, 3, none⟩ x3).cell? ⟨b1, o0, none⟩ = some v0 ∧ ((((W.setCell ⟨b, 0, none⟩ x0).setCell ⟨b, 1, none⟩ x1).setCell ⟨b, 2, none⟩ x2).setCell ⟨b, 3, none⟩ x3).cell? ⟨b1, o1, none⟩ = some v1 ∧
      ((((W.setCell ⟨b, 0, none⟩ x0).setCell ⟨b, 1, none⟩ x1).setCell ⟨b, 2, none⟩ x2).setCell ⟨b, 3, none⟩ x3).cell? ⟨b1, o2, none⟩ = some v2 ∧ ((((W.setCell ⟨b, 0, none⟩ x0).setCell ⟨b, 1, none⟩ x1).setCell ⟨b, 2, none⟩ x2).setCell ⟨b, 3, none⟩ x3).cell? ⟨b1, o3, none⟩ = some v3 ∧
      ((((W.setCell ⟨b, 0, none⟩ x0).setCell ⟨b, 1, none⟩ x1).setCell ⟨b, 2, none⟩ x2).setCell ⟨b, 3, none⟩ x3).cell? ⟨b2, o4, none⟩ = some v4 ∧ ((((W.setCell ⟨b, 0, none⟩ x0).setCell ⟨b, 1, none⟩ x1).setCell ⟨b, 2, none⟩ x2).setCell ⟨b, 3, none⟩ x3).cell? ⟨b2, o5, none⟩ = some v5 ∧
      ((((W.setCell ⟨b, 0, none⟩ x0).setCell ⟨b, 1, none⟩ x1).setCell ⟨b, 2, none⟩ x2).setCell ⟨b, 3, none⟩ x3).cell? ⟨b2, o6, none⟩ = some v6 ∧ ((((W.setCell ⟨b, 0, none⟩ x0).setCell ⟨b, 1, none⟩ x1).setCell ⟨b, 2, none⟩ x2).setCell ⟨b, 3, none⟩ x3).cell? ⟨b2, o7, none⟩ = some v7) ∧
      ∃ y0 y1 y2 y3, ((((W.setCell ⟨b, 0, none⟩ x0).setCell ⟨b, 1, none⟩ x1).setCell ⟨b, 2, none⟩ x2).setCell ⟨b, 3, none⟩ x3).heap[b]? = some (.cells #[y0, y1, y2, y3] T (0, 0))) ∧
      Below w.heap.size w ((((W.setCell ⟨b, 0, none⟩ x0).setCell ⟨b, 1, none⟩ x1).setCell ⟨b, 2, none⟩ x2).setCell ⟨b, 3, none⟩ x3) := by
  obtain ⟨⟨hc, y0, y1, y2, y3, hy⟩, hB⟩ := h
  have hy4 := set4_all hy x0 x1 x2 x3
  have hB4 := below_set4 hB hbw x0 x1 x2 x3
  exact keep9_gen (heap_set4 hne x0 x1 x2 x3) (heap_set4 hne2 x0 x1 x2 x3) hy4 hB4 hc
theorem s9_blk {w W : World} {c : Prop} {b : Nat} {T : TypeId}
    (h : (c ∧ ∃ y0 y1 y2 y3, W.heap[b]? = some (.cells #[y0, y1, y2, y3] T (0, 0))) ∧ Below w.heap.size w W) :
    ∃ y0 y1 y2 y3, W.heap[b]? = some (.cells #[y0, y1, y2, y3] T (0, 0)) := h.1.2

/-- .. where what changed lies from B on -/
theorem keep9B {w W W' : World} {B b1 b2 o0 o1 o2 o3 o4 o5 o6 o7 : Nat} {v0 v1 v2 v3 v4 v5 v6 v7 : Value} {b : Nat} {T : TypeId} (hb : Below B W W') (hB1 : b1 < B) (hB2 : b2 < B) (hB3 : b < B) (hw : w.heap.size ≤ B)
    (h : ((W.cell? ⟨b1, o0, none⟩ = some v0 ∧ W.cell? ⟨b1, o1, none⟩ = some v1 ∧ W.cell? ⟨b1, o2, none⟩ = some v2 ∧ W.cell? ⟨b1, o3, none⟩ = some v3 ∧ W.cell? ⟨b2, o4, none⟩ = some v4 ∧ W.cell? ⟨b2, o5, none⟩ = some v5 ∧ W.cell? ⟨b2, o6, none⟩ = some v6 ∧ W.cell? ⟨b2, o7, none⟩ = some v7) ∧ ∃ y0 y1 y2 y3, W.heap[b]? = some (.cells #[y0, y1, y2, y3] T (0, 0))) ∧ Below w.heap.size w W) :
    ((W'.cell? ⟨b1, o0, none⟩ = some v0 ∧ W'.cell? ⟨b1, o1, none⟩ = some v1 ∧ W'.cell? ⟨b1, o2, none⟩ = some v2 ∧ W'.cell? ⟨b1, o3, none⟩ = some v3 ∧ W'.cell? ⟨b2, o4, none⟩ = some v4 ∧ W'.cell? ⟨b2, o5, none⟩ = some v5 ∧ W'.cell? ⟨b2, o6, none⟩ = some v6 ∧ W'.cell? ⟨b2, o7, none⟩ = some v7) ∧ ∃ y0 y1 y2 y3, W'.heap[b]? = some (.cells #[y0, y1, y2, y3] T (0, 0))) ∧ Below w.heap.size w W' := by
  obtain ⟨⟨hc, y0, y1, y2, y3, hy⟩, hB⟩ := h
  exact keep9_gen (hb.block _ hB1) (hb.block _ hB2) ((hb.block _ hB3).trans hy) (hB.trans (hb.mono hw)) hc
theorem held_lt {w W : World} {c : Prop} {b : Nat} {T : TypeId} (h : (c ∧ ∃ y0 y1 y2 y3, W.heap[b]? = some (.cells #[y0, y1, y2, y3] T (0, 0))) ∧ Below w.heap.size w W) : b + 1 ≤ W.heap.size := by
  obtain ⟨y0, y1, y2, y3, hy⟩ := h.1.2
  exact blk_lt hy

/-- one list behind another one -/
theorem own_join {T : TypeId} {w : World} {lo hi : Nat} {v : Value} {xs ys : List Int} (h : OwnF w lo hi T v (xs.length + ys.length) (fun j => if j < xs.length then iv xs j else iv ys (j - xs.length))) : OwnI T w lo hi v (xs ++ ys) := by
  refine OwnF.ints ?_
  rw [List.length_append]
  exact h.congr fun j _ => iv_append rfl j

theorem OwnI.one {T : TypeId} {w : World} {lo hi : Nat} {v : Value} {xs : List Int} (h : OwnI T w lo hi v xs) : v.oneCell' = true := by
  obtain ⟨p, cap, rfl, _, _⟩ := h.shape
  rfl
/-- rows of the call's own, put behind others, as a step of a region that draws -/
theorem step_append_II {w : World} {ops : Array Oper} {o : Oper} {a : Act} {K : Act → World → Prop} {Q : Exit → Act → World → Prop} {E : Prop} (hgd : o.guard = none) (s x : Operand)
    (ho : o.op = .call { callee := .builtin .append, args := #[s, x], argTypes := #[51, 51] })
    (lo mid hi : Nat) (v u : Value) (rows rows2 : List (List Int)) (hs : a.eval s = v) (hxu : a.eval x = u)
    (h1 : OwnII 24 3 w lo mid v rows) (h2 : OwnII 24 3 w mid hi u rows2) (hm : lo ≤ mid) (hmh : mid ≤ hi) (hhi : hi ≤ w.heap.size) (hl : rows.length + rows2.length ≤ 1000)
    (h : ∀ v' w', OwnII 24 3 w' lo w'.heap.size v' (rows ++ rows2) → Below lo w w' → K (a.put o.dst v') w') :
    if Region.wanted o (yielded ops a.tmps) = true then Oper.wp Try.prog o a w K Q else E := by
  obtain ⟨f, g1, g2, g3⟩ := h1
  obtain ⟨g, k1, k2, k3⟩ := h2
  refine step_append_F hgd s x 51 ho 24 (.slice none 0 0) 24 Try.underlying51 info_sl rfl lo mid v rows.length f hs g1 (by omega) (by omega) u rows2.length g hxu k1.rd (fun j hj => (k2 j hj).one) (by unfold maxLen; omega) (by omega) ?_
  intro v' w' ho' hg'
  exact h v' w' (OwnII.join g1 g2 g3 k2 k3 hm hmh (by decide) hg' (Nat.le_trans hhi hg'.size) ho') (grownBy_below2 hg' g1 (Nat.le_refl _) (by omega))

/-- the boxes of two arguments -/
theorem boxes_ab (w : World) (A B : Obj) : ((w.alloc A).alloc B).heap[w.heap.size]? = some A ∧ ((w.alloc A).alloc B).heap[w.heap.size + 1]? = some B := by
  refine ⟨?_, heap_alloc_at _ _ (by simp)⟩
  rw [heap_alloc_low _ _ (by simp)]; exact heap_alloc_top _ _
/-- .. and the result's cell -/
theorem boxes_abz (w : World) (A B Z : Obj) : (((w.alloc A).alloc B).alloc Z).heap[w.heap.size]? = some A ∧ (((w.alloc A).alloc B).alloc Z).heap[w.heap.size + 1]? = some B ∧ (((w.alloc A).alloc B).alloc Z).heap[w.heap.size + 1 + 1]? = some Z := by
  refine ⟨?_, ?_, heap_alloc_at _ _ (by simp)⟩
  · rw [heap_alloc_low _ _ (by simp; omega)]; exact (boxes_ab w A B).1
  · rw [heap_alloc_low _ _ (by simp)]; exact (boxes_ab w A B).2
theorem size_ab (w : World) (A B : Obj) : ((w.alloc A).alloc B).heap.size = w.heap.size + 1 + 1 := by simp
theorem size_abz (w : World) (A B Z : Obj) : (((w.alloc A).alloc B).alloc Z).heap.size = w.heap.size + 1 + 1 + 1 := by simp

end Go.Proofs.Ytklpaannmdbmiaa

namespace Go.Proofs.Ytklpaannmdbmiaa
set_option linter.all false
open Go.RowKit

/-- where the number j stands among the first k -/
def invK (xs : List Int) : Nat → Nat → Int
  | 0, _ => 0
  | k + 1, j => if (j : Int) = xs.getD k 0 then k else invK xs k j
def invL (xs : List Int) : List Int := (List.range xs.length).map (invK xs xs.length)
theorem invL_length (xs : List Int) : (invL xs).length = xs.length := by simp [invL]
theorem invL_getD {xs : List Int} {j : Nat} (h : j < xs.length) : (invL xs).getD j 0 = invK xs xs.length j := by simp [invL, List.getD_eq_getElem?_getD, h]

set_option maxRecDepth 100000 in
set_option maxHeartbeats 2000000 in
theorem implInverse_any (v : Value) (xs : List Int) (w : World) (h : Ints w v xs) (hp : permOk xs = true) :
    Calls Try.prog 50 #[v] w (RetI w (invL xs)) := by
  have Hh := Lib.hid h
  obtain ⟨q, cap, rfl, ⟨hx1, hx⟩, hxc⟩ := h
  obtain ⟨hl1, hl7, hr, _⟩ := of_decide_eq_true hp
  have Hp := Lib.hid hp
  have Hr := Lib.hid hr
  obtain ⟨b, off, rfl, hc⟩ := hxc (by omega)
  have Hc := Lib.hid hc
  obtain ⟨N, hN⟩ : ∃ N, N = xs.length := ⟨_, rfl⟩
  have hmk := run_make_row' (P := Try.prog) 24 3 (.int .i64 0) 8 Try.underlying24 info_int rfl .i64 .i64 N (by omega) (by omega)
  rw [hN] at hmk
  clear hN
  unfold maxLen at hx
  clear hr hxc hp hc
  go_enter Try.func50, Try.ntmps50
  go_wp2_with fail
  refine (implIsPerm_any _ xs _ Hh.out).mono ?_
  rintro e w1 ⟨rfl, hq⟩
  rw [Hp.out]
  have Hc1 := Lib.hid (fun j (hj : j < xs.length) => show w1.cell? ⟨b, off + j, none⟩ = some (iv xs j) by rw [hq.cell (World.block_lt_of_cell? _ _ (Hc.out j hj))]; exact Hc.out j hj)
  have Hq := Lib.hid hq
  clear hq
  go_wp2_with fail
  go_loopg [14] xs.length (fun g s14 wr => ∃ k : Nat, k ≤ xs.length ∧ g = xs.length - k ∧ s14 = .int .i64 k ∧ Below w1.heap.size w1 wr ∧ Hid (wr.rowIs w1.heap.size 3 xs.length (fun j => .int .i64 (invK xs k j))))
  case atStart =>
    refine ⟨0, Nat.zero_le _, rfl, rfl, below_alloc _ _, ?_⟩
    exact (World.rowIs_made w1 (.int .i64 0) xs.length 3).congr fun j _ => by simp [invK]
  case round =>
    obtain ⟨k, hk, rfl, rfl, hbw, hrow⟩ := hrel
    by_cases hlt : k < xs.length
    · have hx0 := Hr.out _ (getD_mem hlt)
      obtain ⟨m, hm⟩ := Int.eq_ofNat_of_zero_le hx0.1
      have c1 : wr.cell? ⟨b, off + k, none⟩ = some (.int .i64 (m : Int)) := by
        rw [hbw.cell (p := ⟨b, off + k, none⟩) (World.block_lt_of_cell? _ _ (Hc1.out k hlt)), Hc1.out k hlt]; simp only [iv, hm]
      have hml : m < xs.length := by omega
      obtain ⟨z, c2⟩ : ∃ z, wr.cell? ⟨w1.heap.size, m, none⟩ = some (.int .i64 z) := ⟨_, hrow.out.cell hml⟩
      have c3 := hrow.out.frozen m
      have i1 : (k : Int) < (xs.length : Int) := by omega
      have i2 : (m : Int) < (xs.length : Int) := by omega
      have Hm := Lib.hid hm
      have Hrow := Lib.hid hrow.out
      clear hx0 hm hrow
      go_wp2_with fail
      go_roundg (xs.length - (k + 1))
      case measure => omega
      case rel =>
        refine ⟨k + 1, by omega, rfl, by go_num, hbw.setCell (Nat.le_refl _) _, (Hrow.out.set m _).congr fun j hj => ?_⟩
        rw [invK, Hm.out]
        by_cases e : j = m
        · subst e; simp
        · simp [e, show ¬ (j : Int) = (m : Int) by omega]
    · obtain rfl : k = xs.length := by omega
      have i1 : ¬ (xs.length : Int) < (xs.length : Int) := by omega
      have ho := rowIs_ints (xs := invL xs) (by rw [invL_length]; exact hrow.out.congr fun j hj => by rw [iv, invL_getD hj]) (by rw [invL_length]; unfold maxLen; omega)
      rw [invL_length] at ho
      have Ho := Lib.hid (ho.mono Hq.out.size (Nat.le_refl _))
      clear ho hrow
      go_wp2_with fail
      go_ret
      exact ⟨_, rfl, Ho.out, Hq.out.trans (hbw.mono Hq.out.size)⟩


end Go.Proofs.Ytklpaannmdbmiaa
