/-
  slices.IndexFunc for a number other than 0, impl.pivot, impl.scaledTo1.
  For a region that draws its order, loads from the boxes of arguments and calls what makes memory: what is kept from world to world. And facts on numbers.
  More on a region that draws its order and makes a box somewhere in it: where the box lies when it is made first, and what a write into it leaves.
  append on an owned slice, once more: the block of what comes back is the old one, or new.
  l1Ints, l7Copy, l7Inverse, l7Top.
  The law's helpers on slices of slices of ints: compared, written over, read again.
  Many rows put behind others.
  For regions that draw their order: append as a step; what is kept of two boxes and the result's cell.
-/
import Derived.Test.YtoodgbflaaabmaaJ3
import Derived.Deep.RegionHeld3
import Derived.Deep.DeepCutAuto
import Derived.Test.YtoodgbflaaabmaaJ1
import Derived.Test.YtoodgbflaaabmaaJ2
namespace Go.Proofs.Ytoodgbflaaabmaa
set_option linter.all false
open Go.RowKit

/-- the first place with a number other than 0; -1: none -/
def pivL (xs : List Int) : Int := if xs.findIdx (fun x => x != 0) < xs.length then (xs.findIdx (fun x => x != 0) : Nat) else -1
theorem pivL_at {xs : List Int} {k : Nat} (hk : k < xs.length) (h1 : xs.getD k 0 ≠ 0) (h0 : ∀ j, j < k → xs.getD j 0 = 0) : pivL xs = k := by
  have e : xs.findIdx (fun x => x != 0) = k := by
    rw [List.findIdx_eq hk]
    refine ⟨?_, fun j hj => ?_⟩
    · rw [List.getD_eq_getElem?_getD, List.getElem?_eq_getElem hk, Option.getD_some] at h1
      simpa using h1
    · have := h0 j hj
      rw [List.getD_eq_getElem?_getD, List.getElem?_eq_getElem (by omega), Option.getD_some] at this
      simpa using this
  unfold pivL
  rw [e, if_pos hk]
theorem pivL_none {xs : List Int} (h0 : ∀ j, j < xs.length → xs.getD j 0 = 0) : pivL xs = -1 := by
  have e : xs.findIdx (fun x => x != 0) = xs.length := by
    rw [List.findIdx_eq_length]
    intro x hx
    obtain ⟨j, hj, rfl⟩ := List.mem_iff_getElem.1 hx
    have := h0 j hj
    rw [List.getD_eq_getElem?_getD, List.getElem?_eq_getElem hj, Option.getD_some] at this
    simpa using this
  unfold pivL
  rw [e, if_neg (by omega)]
theorem pivL_cases (xs : List Int) : (pivL xs = -1 ∧ ∀ j, j < xs.length → xs.getD j 0 = 0) ∨ ∃ k, pivL xs = (k : Nat) ∧ k < xs.length ∧ xs.getD k 0 ≠ 0 ∧ ∀ j, j < k → xs.getD j 0 = 0 := by
  by_cases h : ∃ k, k < xs.length ∧ xs.getD k 0 ≠ 0
  · have : ∃ k, k < xs.length ∧ xs.getD k 0 ≠ 0 ∧ ∀ j, j < k → xs.getD j 0 = 0 := by
      obtain ⟨k, hk, h1⟩ := h
      induction k using Nat.strongRecOn with
      | _ k ih =>
        by_cases h2 : ∃ j, j < k ∧ xs.getD j 0 ≠ 0
        · obtain ⟨j, hj, h3⟩ := h2
          exact ih j hj (by omega) h3
        · exact ⟨k, hk, h1, fun j hj => Classical.byContradiction fun h3 => h2 ⟨j, hj, h3⟩⟩
    obtain ⟨k, hk, h1, h2⟩ := this
    exact .inr ⟨k, pivL_at hk h1 h2, hk, h1, h2⟩
  · have h0 : ∀ j, j < xs.length → xs.getD j 0 = 0 := fun j hj => Classical.byContradiction fun h3 => h ⟨j, hj, h3⟩
    exact .inl ⟨pivL_none h0, h0⟩

set_option maxRecDepth 100000 in
set_option maxHeartbeats 1000000 in
theorem indexNz_any (v : Value) (xs : List Int) (w : World) (h : Ints w v xs) :
    Calls Try.prog 70 #[v, .func (.func 71) #[] #[]] w fun e w' => e = .returned (.int .i64 (pivL xs)) ∧ Qt w w' := by
  obtain ⟨p, cap, rfl, ⟨hx1, hx⟩, hxc⟩ := h
  unfold maxLen at hx
  go_enter Try.func70, Try.ntmps70
  go_wp2
  go_loopg [5, 8] xs.length (fun g s5 i wr => ∃ k : Nat, k ≤ xs.length ∧ g = xs.length - k ∧ i = .int .i64 k ∧ Qt w wr ∧ Hid (∀ j, j < k → xs.getD j 0 = 0))
  case atStart => exact ⟨0, Nat.zero_le _, rfl, rfl, Qt.refl _, fun j hj => absurd hj (Nat.not_lt_zero _)⟩
  case round =>
    obtain ⟨k, hk, rfl, rfl, hq, hp⟩ := hrel
    by_cases hlt : k < xs.length
    · obtain ⟨b, off, rfl, hc⟩ := hxc (by omega)
      have c1 := hq.cell (hc k hlt)
      unfold iv at c1
      generalize hy : xs.getD k 0 = y at c1
      have Hy := Lib.hid hy
      clear hxc hc hy
      by_cases e : y = 0
      · subst e
        go_wp2
        go_roundg (xs.length - (k + 1))
        case measure => omega
        case rel =>
          refine ⟨k + 1, by omega, rfl, by go_num, hq, fun j hj => ?_⟩
          by_cases e : j = k
          · subst e; exact Hy.out
          · exact hp.out j (by omega)
      · have he : (y != 0) = true := by simp [e]
        go_wp2
        go_ret
        have h1 : pivL xs = k := pivL_at hlt (by rw [Hy.out]; exact e) hp.out
        rw [h1]
        exact ⟨rfl, hq⟩
    · go_wp2
      go_ret
      obtain rfl : k = xs.length := by omega
      rw [pivL_none hp.out]
      exact ⟨rfl, hq⟩

set_option maxRecDepth 100000 in
theorem pivot_any (v : Value) (xs : List Int) (w : World) (h : Ints w v xs) :
    Calls Try.prog 43 #[v] w fun e w' => e = .returned (.int .i64 (pivL xs)) ∧ Qt w w' := by
  have hn := indexNz_any v xs w h
  generalize pivL xs = r at hn
  obtain ⟨p, cap, rfl, ⟨hx1, hx⟩, hxc⟩ := h
  have Hn := Lib.hid hn
  clear hn hxc
  go_enter Try.func43, Try.ntmps43
  go_wp2_with fail
  refine Hn.out.mono ?_
  rintro e w1 ⟨rfl, hq⟩
  go_wp2_with fail
  go_ret
  exact ⟨rfl, hq⟩

theorem inv_ex {p x : Int} (hp : primeOk p = true) (h0 : 0 < x) (h1 : x < p) : ∃ k : Int, 1 ≤ k ∧ k < p ∧ k * x % p = 1 := by
  rcases of_decide_eq_true hp with rfl | rfl | rfl | rfl
  · obtain rfl : x = 1 := by omega
    exact ⟨1, by decide⟩
  · rcases (show x = 1 ∨ x = 2 by omega) with rfl | rfl
    · exact ⟨1, by decide⟩
    · exact ⟨2, by decide⟩
  · rcases (show x = 1 ∨ x = 2 ∨ x = 3 ∨ x = 4 by omega) with rfl | rfl | rfl | rfl
    · exact ⟨1, by decide⟩
    · exact ⟨3, by decide⟩
    · exact ⟨2, by decide⟩
    · exact ⟨4, by decide⟩
  · rcases (show x = 1 ∨ x = 2 ∨ x = 3 ∨ x = 4 ∨ x = 5 ∨ x = 6 by omega) with rfl | rfl | rfl | rfl | rfl | rfl
    · exact ⟨1, by decide⟩
    · exact ⟨4, by decide⟩
    · exact ⟨5, by decide⟩
    · exact ⟨2, by decide⟩
    · exact ⟨3, by decide⟩
    · exact ⟨6, by decide⟩

/-- reads, then changes of one block -/
theorem grown_qt {w w1 w2 : World} {o : Option Nat} (hq : Qt w w1) (hg : w1.grownBy w2 o) : w.grownBy w2 o := by
  have hb := hq.below 0
  have hs := hq.size
  have hh := hq.heap
  exact ⟨hg.os.trans hb.os, hg.tape.trans hb.tape, hg.output.trans hb.output, by have := hg.size; omega, fun k hk hne => by rw [hg.block k (by omega) hne, hh]⟩

def scaleL (p k : Int) (xs : List Int) : List Int := (List.range xs.length).map fun (j : Nat) => (k * xs.getD j 0) % p
theorem scaleL_length (p k : Int) (xs : List Int) : (scaleL p k xs).length = xs.length := by simp [scaleL]
theorem scaleL_getD {p k : Int} {xs : List Int} {j : Nat} (h : j < xs.length) : (scaleL p k xs).getD j 0 = (k * xs.getD j 0) % p := by
  simp [scaleL, List.getD_eq_getElem?_getD, h]

set_option maxRecDepth 100000 in
set_option maxHeartbeats 1000000 in
theorem scaledTo1_any (v : Value) (xs : List Int) (p : Int) (K : Nat) (lo hi : Nat) (w : World) (h : OwnI 3 w lo hi v xs) (hxs : ∀ j, 0 ≤ xs.getD j 0 ∧ xs.getD j 0 < p) (hp : primeOk p = true) (hK : pivL xs = K) (hKl : K < xs.length) (hK0 : xs.getD K 0 ≠ 0) :
    Calls Try.prog 44 #[v, .int .i64 p] w fun e w' => ∃ k : Int, e = .returned (.tuple #[]) ∧ 1 ≤ k ∧ k < p ∧ k * xs.getD K 0 % p = 1 ∧ OwnI 3 w' lo hi v (scaleL p k xs) ∧ w.grownBy w' v.ownBlock := by
  obtain ⟨a, cap, rfl, hnc, hcm, _⟩ := h.fn.shape
  unfold maxLen at hcm
  obtain ⟨hp2, hp7⟩ := primeOk_range hp
  obtain ⟨x, hx⟩ : ∃ x, x = xs.getD K 0 := ⟨_, rfl⟩
  have hx0 := hxs K
  rw [← hx] at hx0
  obtain ⟨k0, hk1, hk2, hk3⟩ := inv_ex hp (show 0 < x by omega) hx0.2
  have hpiv := pivot_any _ xs w h.ints
  rw [hK] at hpiv
  have Hpiv := Lib.hid hpiv
  obtain ⟨g', rfl, hg1, hg2, hg3⟩ := h.fn.at_ (show 0 < xs.length by omega)
  have c1 : w.cell? ⟨g', K, none⟩ = some (.int .i64 x) := by rw [h.fn.cell hKl]; simp [iv, hx]
  have Hf := Lib.hid h.fn
  have Hxs := Lib.hid hxs
  have Hx := Lib.hid hx
  have Hk3 := Lib.hid hk3
  have C1 := Lib.hid c1
  clear hxs hx hp hk3 h hK hK0 hpiv c1
  go_enter Try.func44, Try.ntmps44
  go_wp2_with fail
  refine Hpiv.out.mono ?_
  rintro e w1 ⟨rfl, hq⟩
  have c1 := hq.cell C1.out
  have Hq := Lib.hid hq
  clear hq
  go_wp2_with fail
  obtain ⟨k0n, rfl⟩ := Int.eq_ofNat_of_zero_le (show (0 : Int) ≤ k0 by omega)
  go_loopg [5] (k0n - 1) (fun g s5 wr => ∃ k : Nat, 1 ≤ k ∧ k ≤ k0n ∧ g = k0n - k ∧ s5 = .int .i64 k ∧ wr = w1)
  case atStart => exact ⟨1, Nat.le_refl _, by omega, rfl, rfl, rfl⟩
  case round =>
    obtain ⟨k, hka, hkb, rfl, rfl, rfl⟩ := hrel
    have hm0 : 0 ≤ (k : Int) * x := Int.mul_nonneg (by omega) (by omega)
    have hm1 : (k : Int) * x ≤ 7 * 7 := Int.mul_le_mul (by omega) (by omega) (by omega) (by omega)
    by_cases he : (k : Int) * x % p = 1
    · have he2 : ((k : Int) * x % p != 1) = false := by simpa using he
      have hp0 : ¬ p = 0 := by omega
      have e1 : Int.tmod ((k : Int) * x) p = (k : Int) * x % p := Int.tmod_eq_emod_of_nonneg hm0
      have b5 : 0 ≤ (k : Int) * x % p := Int.emod_nonneg _ (by omega)
      have b6 : (k : Int) * x % p < p := Int.emod_lt_of_pos _ (by omega)
      have He := Lib.hid he
      have H1 := Lib.hid (Hf.out.below (Hq.out.below _))
      clear he
      go_wp2_with fail
      clear e1 b5 b6 he2 hm0 hm1 c1
      obtain ⟨wo, rfl⟩ : ∃ x : World, x = wr := ⟨_, rfl⟩
      go_loopg [6, 22] xs.length (fun g s6 i wr => ∃ j : Nat, j ≤ xs.length ∧ g = xs.length - j ∧ i = .int .i64 j ∧ World.grownBy wo wr (Value.ownBlock (.slice (some ⟨g', 0, none⟩) xs.length cap)) ∧
        OwnF wr lo hi 3 (.slice (some ⟨g', 0, none⟩) xs.length cap) xs.length (fun t => if t < j then .int .i64 (((k : Int) * xs.getD t 0) % p) else iv xs t))
      case atStart => exact ⟨0, Nat.zero_le _, rfl, rfl, World.grownBy.refl _ _, H1.out.congr fun t _ => by simp⟩
      case round =>
        obtain ⟨j, hj, rfl, rfl, hg, hr⟩ := hrel
        by_cases hlt : j < xs.length
        · obtain ⟨y, hy⟩ : ∃ y, y = xs.getD j 0 := ⟨_, rfl⟩
          have c1 : wr.cell? ⟨g', j, none⟩ = some (.int .i64 y) := by rw [hr.cell hlt]; simp [iv, hy]
          have c3 := hr.frozen j
          have sy := Hxs.out j
          rw [← hy] at sy
          have hm0 : 0 ≤ (k : Int) * y := Int.mul_nonneg (by omega) sy.1
          have hm1 : (k : Int) * y ≤ 7 * 7 := Int.mul_le_mul (by omega) (by omega) (by omega) (by omega)
          have e1 : Int.tmod ((k : Int) * y) p = (k : Int) * y % p := Int.tmod_eq_emod_of_nonneg hm0
          have b5 : 0 ≤ (k : Int) * y % p := Int.emod_nonneg _ (by omega)
          have b6 : (k : Int) * y % p < p := Int.emod_lt_of_pos _ (by omega)
          have Hy := Lib.hid hy
          have Hg := Lib.hid hg
          have Hr := Lib.hid hr
          clear hy hg hr
          go_wp2_with fail
          go_roundg (xs.length - (j + 1))
          case measure => omega
          case rel =>
            refine ⟨j + 1, by omega, rfl, by go_num, ?_, OwnF.congr (f := fun t => if t = j then .int .i64 (((k : Int) * y) % p) else if t < j then .int .i64 (((k : Int) * xs.getD t 0) % p) else iv xs t) ?_ fun t ht => ?_⟩
            · exact ⟨Hg.out.os, Hg.out.tape, Hg.out.output, by simpa [World.setCell] using Hg.out.size, fun i hi hne => (Below.heap_setCell _ _ _ _ (by simpa [Value.ownBlock] using hne)).trans (Hg.out.block i hi hne)⟩
            · exact Hr.out.set j _
            · by_cases e : t = j
              · subst e
                simp only [if_true, show t < t + 1 by omega]
                rw [Hy.out]
              · by_cases e2 : t < j
                · simp only [e, if_false, e2, if_true, show t < j + 1 by omega]
                · simp only [e, if_false, e2, show ¬ t < j + 1 by omega]
        · go_wp2_with fail
          go_end0
          refine ⟨k, rfl, by omega, by omega, by rw [← Hx.out]; exact He.out, OwnF.ints ?_, ?_⟩
          · obtain rfl : j = xs.length := by omega
            rw [scaleL_length]
            exact hr.congr fun t ht => by simp only [ht, if_true]; rw [iv, scaleL_getD ht]
          · exact grown_qt Hq.out hg
    · have hlt : k < k0n := by
        rcases Nat.lt_or_ge k k0n with h1 | h1
        · exact h1
        · exact absurd (by rw [show k = k0n by omega]; exact Hk3.out) he
      have he2 : ((k : Int) * x % p != 1) = true := by simpa using he
      have hp0 : ¬ p = 0 := by omega
      have e1 : Int.tmod ((k : Int) * x) p = (k : Int) * x % p := Int.tmod_eq_emod_of_nonneg hm0
      have b5 : 0 ≤ (k : Int) * x % p := Int.emod_nonneg _ (by omega)
      have b6 : (k : Int) * x % p < p := Int.emod_lt_of_pos _ (by omega)
      clear he
      go_wp2_with fail
      go_roundg (k0n - (k + 1))
      case measure => omega
      case rel => exact ⟨k + 1, by omega, by omega, rfl, by go_num, rfl⟩

end Go.Proofs.Ytoodgbflaaabmaa

namespace Go.Proofs.Ytoodgbflaaabmaa
set_option linter.all false
open Go.RowKit

theorem cell_below {w w' : World} {a : Addr} {v : Value} (hb : Below w.heap.size w w') (h : w.cell? a = some v) : w'.cell? a = some v := by
  rw [hb.cell (World.block_lt_of_cell? _ _ h)]; exact h
theorem held_ints {c : Prop} {wr W : World} {v : Value} {xs : List Int} (h : Ints wr v xs) (hS : c ∧ Below wr.heap.size wr W) : Ints W v xs := h.below hS.2
theorem held_below {c : Prop} {wr W : World} (hS : c ∧ Below wr.heap.size wr W) : Below wr.heap.size wr W := hS.2
theorem keep4 {wr W W' : World} {a0 a1 a2 a3 : Addr} {v0 v1 v2 v3 : Value} (hb : Below W.heap.size W W')
    (h : (W.cell? a0 = some v0 ∧ W.cell? a1 = some v1 ∧ W.cell? a2 = some v2 ∧ W.cell? a3 = some v3) ∧ Below wr.heap.size wr W) :
    (W'.cell? a0 = some v0 ∧ W'.cell? a1 = some v1 ∧ W'.cell? a2 = some v2 ∧ W'.cell? a3 = some v3) ∧ Below wr.heap.size wr W' :=
  ⟨⟨cell_below hb h.1.1, cell_below hb h.1.2.1, cell_below hb h.1.2.2.1, cell_below hb h.1.2.2.2⟩, below_trans h.2 hb⟩
theorem keep8 {wr W W' : World} {a0 a1 a2 a3 a4 a5 a6 a7 : Addr} {v0 v1 v2 v3 v4 v5 v6 v7 : Value} (hb : Below W.heap.size W W')
    (h : (W.cell? a0 = some v0 ∧ W.cell? a1 = some v1 ∧ W.cell? a2 = some v2 ∧ W.cell? a3 = some v3 ∧ W.cell? a4 = some v4 ∧ W.cell? a5 = some v5 ∧ W.cell? a6 = some v6 ∧ W.cell? a7 = some v7) ∧ Below wr.heap.size wr W) :
    (W'.cell? a0 = some v0 ∧ W'.cell? a1 = some v1 ∧ W'.cell? a2 = some v2 ∧ W'.cell? a3 = some v3 ∧ W'.cell? a4 = some v4 ∧ W'.cell? a5 = some v5 ∧ W'.cell? a6 = some v6 ∧ W'.cell? a7 = some v7) ∧ Below wr.heap.size wr W' :=
  ⟨⟨cell_below hb h.1.1, cell_below hb h.1.2.1, cell_below hb h.1.2.2.1, cell_below hb h.1.2.2.2.1, cell_below hb h.1.2.2.2.2.1, cell_below hb h.1.2.2.2.2.2.1, cell_below hb h.1.2.2.2.2.2.2.1, cell_below hb h.1.2.2.2.2.2.2.2⟩, below_trans h.2 hb⟩

/-- numbers of a matrix that is right, at a place or behind the end -/
theorem getD_range {D : List Int} {P : Int} (h : ∀ x ∈ D, 0 ≤ x ∧ x < P) (hP : 0 < P) (j : Nat) : 0 ≤ D.getD j 0 ∧ D.getD j 0 < P := by
  by_cases hj : j < D.length
  · exact h _ (getD_mem hj)
  · simp [List.getD_eq_getElem?_getD, show D[j]? = none by simp; omega, hP]
theorem mul_range {x y a b : Int} (h1 : 0 ≤ x) (h2 : x ≤ a) (h3 : 0 ≤ y) (h4 : y ≤ b) : 0 ≤ x * y ∧ x * y ≤ a * b :=
  ⟨Int.mul_nonneg h1 h3, Int.mul_le_mul h2 h4 h3 (by omega)⟩

end Go.Proofs.Ytoodgbflaaabmaa

namespace Go.Proofs.Ytoodgbflaaabmaa
set_option linter.all false
open Go.RowKit

theorem alloc_drew_top (w : World) (o : Obj) : (w.alloc o).drew.heap[w.heap.size]? = some o := heap_alloc_top w o
theorem set4_all {w : World} {b : Nat} {x0 x1 x2 x3 : Value} {T : TypeId} (h : w.heap[b]? = some (.cells #[x0, x1, x2, x3] T (0, 0))) (y0 y1 y2 y3 : Value) :
    ((((w.setCell ⟨b, 0, none⟩ y0).setCell ⟨b, 1, none⟩ y1).setCell ⟨b, 2, none⟩ y2).setCell ⟨b, 3, none⟩ y3).heap[b]? = some (.cells #[y0, y1, y2, y3] T (0, 0)) := by
  have e := heap_setCell_at (heap_setCell_at (heap_setCell_at (heap_setCell_at h 0 y0) 1 y1) 2 y2) 3 y3
  simpa using e

/-- a pointer to a box that was made after wr, with the matrix M in it, whose numbers lie in blocks made after wr -/
def CutBox (T TM : TypeId) (wr wc : World) (M : Mx) (s : Value) : Prop :=
  ∃ q p k lo hi, s = .pointer (some ⟨q, 0, none⟩) ∧ wr.heap.size ≤ q ∧ wc.heap[q]? = some (.cells #[.int .i64 M.P, .int .i64 M.R, .int .i64 M.C, .slice p M.D.length k] TM) ∧
    OwnI T wc lo hi (.slice p M.D.length k) M.D ∧ (q < lo ∨ hi ≤ q) ∧ wr.heap.size ≤ lo ∧ hi ≤ wc.heap.size ∧ q < wc.heap.size ∧ Below wr.heap.size wr wc
theorem cutBox_alloc {T TM : TypeId} {wr w : World} {M : Mx} {p : Option Addr} {k lo : Nat} (hB : Below wr.heap.size wr w)
    (ho : OwnI T w lo w.heap.size (.slice p M.D.length k) M.D) (hlo : wr.heap.size ≤ lo) :
    CutBox T TM wr (w.alloc (.cells #[.int .i64 M.P, .int .i64 M.R, .int .i64 M.C, .slice p M.D.length k] TM)) M (.pointer (some ⟨w.heap.size, 0, none⟩)) :=
  ⟨_, _, _, _, _, rfl, hB.size, heap_alloc_top _ _, OwnI.below ho (below_alloc _ _), Or.inr (Nat.le_refl _), hlo, by simp, by simp, hB.alloc hB.size _⟩
theorem cutBox_set {T TM : TypeId} {wr w : World} {M : Mx} {p : Option Addr} {k lo q : Nat} {x0 x1 x2 x3 : Value} (hB : Below wr.heap.size wr w)
    (hz : w.heap[q]? = some (.cells #[x0, x1, x2, x3] TM)) (ho : OwnI T w lo w.heap.size (.slice p M.D.length k) M.D) (hlo : wr.heap.size ≤ lo) (hq : q < lo) (hr : wr.heap.size ≤ q) :
    CutBox T TM wr ((((w.setCell ⟨q, 0, none⟩ (.int .i64 M.P)).setCell ⟨q, 1, none⟩ (.int .i64 M.R)).setCell ⟨q, 2, none⟩ (.int .i64 M.C)).setCell ⟨q, 3, none⟩ (.slice p M.D.length k)) M (.pointer (some ⟨q, 0, none⟩)) :=
  ⟨_, _, _, _, _, rfl, hr, set4_all hz _ _ _ _, own_set4 ho (Or.inl hq) _ _ _ _, Or.inl hq, hlo, by simp, by have := blk_lt hz; simpa using this, below_set4 hB hr _ _ _ _⟩

end Go.Proofs.Ytoodgbflaaabmaa

namespace Go.Proofs.Ytoodgbflaaabmaa
set_option linter.all false
open Go.RowKit

theorem run_append_where {P : Program} (w : World) (t ty e : TypeId) (i : TypeInfo) (z : Value) (bytes : Nat) (ht : P.underlying t = some (.slice e)) (hi : P.info? e = some i) (hz : i.zero = some z)
    (hsize : i.size = 1) (hby : i.bytes = bytes) (hzs : z.cells.size = 1)
    (lo hi' : Nat) (v : Value) (n : Nat) (f : Nat → Value) (hown : OwnF w lo hi' e v n f)
    (u : Value) (m : Nat) (g : Nat → Value) (hx : Rd w u m g) (h1 : ∀ j, j < m → (g j).oneCell' = true) (h63 : n + m ≤ maxLen) (hbytes : (n + m) * bytes ≤ 140737488355328) {v' : Value} {w' : World}
    (hr : (Builtin.append_ #[t, t] ty #[v, u]).run P w = .ok v' w') : ∀ b, v'.ownBlock = some b → v.ownBlock = some b ∨ w.heap.size ≤ b := by
  obtain ⟨q, c, rfl, ⟨hmc, hcm⟩, hxc⟩ := hx
  have hsm : n + m ≤ 9223372036854775807 := by unfold maxLen at h63; omega
  by_cases hm : m = 0
  · subst hm
    obtain ⟨p, cap, rfl, hnc, _, _⟩ := hown.shape
    rw [run_append_none w t ty e i ht hi p q n cap c hnc] at hr
    injection hr with e1 e2
    subst e1
    exact fun b hb => .inl hb
  · obtain ⟨b, off, rfl, hc⟩ := hxc (by omega)
    have hnews : ∀ (j : Nat) (v : Value), ((List.range m).map g)[j]? = some v → w.cell? ((⟨b, off, none⟩ : Addr).add j) = some v := fun j x hx => by
      have hj : j < m := by
        rcases Nat.lt_or_ge j m with h | h
        · exact h
        · rw [List.getElem?_eq_none (by simpa using h)] at hx; cases hx
      simp [hj] at hx
      subst hx
      have hadd : (⟨b, off, none⟩ : Addr).add j = ⟨b, off + j, none⟩ := by unfold Addr.add; split <;> simp_all
      rw [hadd]
      exact hc j hj
    obtain ⟨xs, ho, hf⟩ := hown
    rcases ho.1.2 with ⟨rfl, rfl⟩ | ⟨gg, cap, cur, rfl, hbg, hg, hnc, hcm2, hcs, htake⟩
    · have hr2 := run_append_nil (P := P) w t ty e i z ht hi hz ⟨b, off, none⟩ m c ((List.range m).map g) (by simp [hsize]) hnews (by omega) (by omega) (by rw [hby]; simp only [Nat.zero_add] at hbytes; omega)
      rw [hr2] at hr
      injection hr with e1 e2
      subst e1
      intro b hb
      simp [Value.ownBlock] at hb
      exact .inr (by omega)
    · by_cases hroom : n + m ≤ cap
      · have hr2 := run_append_room (P := P) w t ty e i ht hi gg n cap cur hg ⟨b, off, none⟩ m c ((List.range m).map g) (by simp [hsize]) hnews (fun x hx => by
            simp only [List.mem_map, List.mem_range] at hx
            obtain ⟨j, hj, rfl⟩ := hx
            exact h1 j hj) hroom (by simp [hsize, hcs]; omega)
        rw [hr2] at hr
        injection hr with e1 e2
        subst e1
        exact fun b hb => .inl hb
      · have hr2 := run_append_grow (P := P) w t ty e i z ht hi hz ⟨gg, 0, none⟩ n cap xs (by rw [ho.len, hsize]) (ho.1.cells (g := gg) rfl) ⟨b, off, none⟩ m c ((List.range m).map g) (by simp [hsize]) hnews (by omega) (by omega) (growslice_fits (by omega) (by rw [hby]; exact hbytes))
        rw [hr2] at hr
        injection hr with e1 e2
        subst e1
        intro b hb
        simp [Value.ownBlock] at hb
        exact .inr (by omega)

/-- as wpList_append_F, with one fact more: where the block lies -/
theorem wpList_append_G {P : Program} {w : World} {ops : Array Oper} {rest : List Oper} {o : Oper} {a : Act} {Q : Exit → Act → World → Prop} (hgd : o.guard = none) (s x : Operand) (t : TypeId)
    (ho : o.op = .call { callee := .builtin .append, args := #[s, x], argTypes := #[t, t] })
    (e : TypeId) (z : Value) (bytes : Nat) (ht : P.underlying t = some (.slice e)) (hinfo : (P.info? e).map (fun i => (i.zero, i.size, i.bytes)) = some (some z, 1, bytes)) (hzs : z.cells.size = 1)
    (lo hi' : Nat) (v : Value) (n : Nat) (f : Nat → Value) (hs : a.eval s = v) (hown : OwnF w lo hi' e v n f) (hlo : lo ≤ w.heap.size) (hhi : hi' ≤ w.heap.size)
    (u : Value) (m : Nat) (g : Nat → Value) (hxu : a.eval x = u) (hx : Rd w u m g) (h1 : ∀ j, j < m → (g j).oneCell' = true) (h63 : n + m ≤ maxLen) (hbytes : (n + m) * bytes ≤ 140737488355328)
    (h : ∀ v' w', OwnF w' lo w'.heap.size e v' (n + m) (fun j => if j < n then f j else g (j - n)) → w.grownBy w' v.ownBlock → (∀ b, v'.ownBlock = some b → v.ownBlock = some b ∨ w.heap.size ≤ b) → wpList P ops Q rest (a.put o.dst v') w') :
    wpList P ops Q (o :: rest) a w := by
  refine wpList_plain hgd fun K hK' => ?_
  obtain ⟨i, hi, hz, hsz, hby⟩ := info_parts hinfo
  obtain ⟨v', w', hr, h2, h3⟩ := run_append_F (P := P) w t o.type e i z bytes ht hi hz hsz hby hzs lo hi' v n f hown hlo hhi u m g hx h1 h63 hbytes
  have h4 := run_append_where (P := P) w t o.type e i z bytes ht hi hz hsz hby hzs lo hi' v n f hown u m g hx h1 h63 hbytes hr
  unfold Oper.wp
  simp [execOp, ho, resolve, invoke, builtin, hs, hxu, hr, Result.andThen]
  exact hK' _ _ (h v' w' h2 h3 h4)

theorem Frm.of_drew {lo hi : Nat} {w w' : World} (h : Frm lo hi w.drew w') : Frm lo hi w w' := ⟨h.os, h.tape, h.output, h.size, h.block⟩
theorem below_of_drew {B : Nat} {w w' : World} (h : Below B w.drew w') : Below B w w' := ⟨h.os, h.tape, h.output, h.size, h.block⟩
/-- behind an append: a list of lists whose blocks are others stays -/
theorem OwnII.grown {Ts Ti : TypeId} {w w' : World} {lo hi : Nat} {v u : Value} {rows : List (List Int)} (h : OwnII Ts Ti w lo hi v rows) (hg : w.grownBy w' u.ownBlock) (hne : ∀ b, u.ownBlock = some b → b < lo ∨ hi ≤ b) : OwnII Ts Ti w' lo hi v rows :=
  h.keep fun k h1 h2 h3 => hg.block k h3 fun e => by have := hne k e.symm; omega

end Go.Proofs.Ytoodgbflaaabmaa

namespace Go.Proofs.Ytoodgbflaaabmaa
set_option linter.all false
open Go.RowKit

set_option maxRecDepth 100000 in
set_option maxHeartbeats 400000 in
theorem l1Ints_any (v : Value) (xs : List Int) (w : World) (h : Ints w v xs) (hl : xs.length ≤ 1000000) :
    Calls Try.prog 91 #[v] w (RetI w xs) := by
  have hI := Lib.hid h
  obtain ⟨p, cap, rfl, ⟨hx1, hx2⟩, hxc⟩ := h
  have Hb1 := Lib.hid (show 0 + xs.length ≤ maxLen by unfold maxLen; omega)
  have Hb2 := Lib.hid (show (0 + xs.length) * 8 ≤ 140737488355328 by omega)
  clear hxc
  go_enter Try.func91, Try.ntmps91
  go_wp2_with (at_builtin; go_must (refine wpList_append_F rfl (.tmp 3) (.tmp 4) 24 rfl 3 (.int .i64 0) 8 Try.underlying24 info_int rfl w.heap.size (w.heap.size + 1) _ 0 (fun _ => undef) rfl (OwnF.made0 w _ _) (by simp) (by simp) _ _ _ rfl (hI.out.below (below_alloc w _)) (fun j _ => iv_one _ j) Hb1.out Hb2.out ?_; intro v' w' ho' hg'))
  go_ret
  refine ⟨_, rfl, OwnF.ints ?_, (below_alloc w _).trans (grownBy_below hg' (OwnF.made0 w 3 (fun _ => undef)).blocks (Nat.le_refl _) (by simp))⟩
  rw [Nat.zero_add] at ho'
  exact ho'.congr fun j _ => by simp

/-- the argument's box, and a block for the result, whatever it holds -/
theorem keep5 {w W W' : World} {a0 a1 a2 a3 : Addr} {v0 v1 v2 v3 : Value} {b : Nat} {T : TypeId} (hb : Below W.heap.size W W')
    (h : ((W.cell? a0 = some v0 ∧ W.cell? a1 = some v1 ∧ W.cell? a2 = some v2 ∧ W.cell? a3 = some v3) ∧ ∃ y0 y1 y2 y3, W.heap[b]? = some (.cells #[y0, y1, y2, y3] T (0, 0))) ∧ Below w.heap.size w W) :
    ((W'.cell? a0 = some v0 ∧ W'.cell? a1 = some v1 ∧ W'.cell? a2 = some v2 ∧ W'.cell? a3 = some v3) ∧ ∃ y0 y1 y2 y3, W'.heap[b]? = some (.cells #[y0, y1, y2, y3] T (0, 0))) ∧ Below w.heap.size w W' := by
  obtain ⟨⟨⟨h0, h1, h2, h3⟩, y0, y1, y2, y3, hy⟩, hB⟩ := h
  exact ⟨⟨⟨cell_below hb h0, cell_below hb h1, cell_below hb h2, cell_below hb h3⟩, y0, y1, y2, y3, blk_later hy hb⟩, hB.trans (hb.mono hB.size)⟩
theorem keep5_gen {w W W' : World} {b1 o0 o1 o2 o3 : Nat} {v0 v1 v2 v3 z0 z1 z2 z3 : Value} {b : Nat} {T : TypeId} (hh : W'.heap[b1]? = W.heap[b1]?) (hy : W'.heap[b]? = some (.cells #[z0, z1, z2, z3] T (0, 0))) (hB : Below w.heap.size w W')
    (h : W.cell? ⟨b1, o0, none⟩ = some v0 ∧ W.cell? ⟨b1, o1, none⟩ = some v1 ∧ W.cell? ⟨b1, o2, none⟩ = some v2 ∧ W.cell? ⟨b1, o3, none⟩ = some v3) :
    ((W'.cell? ⟨b1, o0, none⟩ = some v0 ∧ W'.cell? ⟨b1, o1, none⟩ = some v1 ∧ W'.cell? ⟨b1, o2, none⟩ = some v2 ∧ W'.cell? ⟨b1, o3, none⟩ = some v3) ∧ ∃ y0 y1 y2 y3, W'.heap[b]? = some (.cells #[y0, y1, y2, y3] T (0, 0))) ∧ Below w.heap.size w W' := by
  obtain ⟨h0, h1, h2, h3⟩ := h
  refine ⟨⟨⟨?_, ?_, ?_, ?_⟩, z0, z1, z2, z3, hy⟩, hB⟩
  · rw [World.cell?_of_block (w := W) hh]; exact h0
  · rw [World.cell?_of_block (w := W) hh]; exact h1
  · rw [World.cell?_of_block (w := W) hh]; exact h2
  · rw [World.cell?_of_block (w := W) hh]; exact h3
theorem keep5_set {w W : World} {b1 o0 o1 o2 o3 : Nat} {v0 v1 v2 v3 : Value} {b : Nat} {T : TypeId} (hne : b1 ≠ b) (hbw : w.heap.size ≤ b) (x0 x1 x2 x3 : Value)
    (h : ((W.cell? ⟨b1, o0, none⟩ = some v0 ∧ W.cell? ⟨b1, o1, none⟩ = some v1 ∧ W.cell? ⟨b1, o2, none⟩ = some v2 ∧ W.cell? ⟨b1, o3, none⟩ = some v3) ∧ ∃ y0 y1 y2 y3, W.heap[b]? = some (.cells #[y0, y1, y2, y3] T (0, 0))) ∧ Below w.heap.size w W) :
    ((((((W.setCell ⟨b, 0, none⟩ x0).setCell ⟨b, 1, none⟩ x1).setCell ⟨b, 2, none⟩ x2).setCell ⟨b, 3, none⟩ x3).cell? ⟨b1, o0, none⟩ = some v0 ∧ ((((W.setCell ⟨b, 0, none⟩ x0).setCell ⟨b, 1, none⟩ x1).setCell ⟨b, 2, none⟩ x2).setCell ⟨b, 3, none⟩ x3).cell? ⟨b1, o1, none⟩ = some v1 ∧
      ((((W.setCell ⟨b, 0, none⟩ x0).setCell ⟨b, 1, none⟩ x1).setCell ⟨b, 2, none⟩ x2).setCell ⟨b, 3, none⟩ x3).cell? ⟨b1, o2, none⟩ = some v2 ∧ ((((W.setCell ⟨b, 0, none⟩ x0).setCell ⟨b, 1, none⟩ x1).setCell ⟨b, 2, none⟩ x2).setCell ⟨b, 3, none⟩ x3).cell? ⟨b1, o3, none⟩ = some v3) ∧
      ∃ y0 y1 y2 y3, ((((W.setCell ⟨b, 0, none⟩ x0).setCell ⟨b, 1, none⟩ x1).setCell ⟨b, 2, none⟩ x2).setCell ⟨b, 3, none⟩ x3).heap[b]? = some (.cells #[y0, y1, y2, y3] T (0, 0))) ∧
      Below w.heap.size w ((((W.setCell ⟨b, 0, none⟩ x0).setCell ⟨b, 1, none⟩ x1).setCell ⟨b, 2, none⟩ x2).setCell ⟨b, 3, none⟩ x3) := by
  obtain ⟨⟨hc, y0, y1, y2, y3, hy⟩, hB⟩ := h
  have hh : ((((W.setCell ⟨b, 0, none⟩ x0).setCell ⟨b, 1, none⟩ x1).setCell ⟨b, 2, none⟩ x2).setCell ⟨b, 3, none⟩ x3).heap[b1]? = W.heap[b1]? := by
    rw [Below.heap_setCell _ _ _ _ (show b1 ≠ (⟨b, 3, none⟩ : Addr).block from hne), Below.heap_setCell _ _ _ _ (show b1 ≠ (⟨b, 2, none⟩ : Addr).block from hne), Below.heap_setCell _ _ _ _ (show b1 ≠ (⟨b, 1, none⟩ : Addr).block from hne), Below.heap_setCell _ _ _ _ (show b1 ≠ (⟨b, 0, none⟩ : Addr).block from hne)]
  have hy4 := set4_all hy x0 x1 x2 x3
  have hB4 := below_set4 hB hbw x0 x1 x2 x3
  exact keep5_gen hh hy4 hB4 hc
theorem s5_blk {w W : World} {a0 a1 a2 a3 : Addr} {v0 v1 v2 v3 : Value} {b : Nat} {T : TypeId}
    (h : ((W.cell? a0 = some v0 ∧ W.cell? a1 = some v1 ∧ W.cell? a2 = some v2 ∧ W.cell? a3 = some v3) ∧ ∃ y0 y1 y2 y3, W.heap[b]? = some (.cells #[y0, y1, y2, y3] T (0, 0))) ∧ Below w.heap.size w W) :
    ∃ y0 y1 y2 y3, W.heap[b]? = some (.cells #[y0, y1, y2, y3] T (0, 0)) := h.1.2

/-- the box of a matrix argument and the result's cell -/
theorem box2_start (w : World) (T T2 : TypeId) (P R C : Int) (d : Value) :
    ((w.alloc (.cells #[.int .i64 P, .int .i64 R, .int .i64 C, d] T)).alloc (.cells #[.int .i64 0, .int .i64 0, .int .i64 0, .slice none 0 0] T2)).heap[w.heap.size]? = some (.cells #[.int .i64 P, .int .i64 R, .int .i64 C, d] T (0, 0)) ∧
    ((w.alloc (.cells #[.int .i64 P, .int .i64 R, .int .i64 C, d] T)).alloc (.cells #[.int .i64 0, .int .i64 0, .int .i64 0, .slice none 0 0] T2)).heap[w.heap.size + 1]? = some (.cells #[.int .i64 0, .int .i64 0, .int .i64 0, .slice none 0 0] T2 (0, 0)) := by
  refine ⟨?_, heap_alloc_at _ _ (by simp)⟩
  rw [heap_alloc_low _ _ (by simp)]; exact heap_alloc_top _ _

set_option maxRecDepth 100000 in
set_option maxHeartbeats 1000000 in
theorem l7Copy_any (P R C : Int) (d : Value) (xs : List Int) (w : World) (h : Ints w d xs) (hl : xs.length ≤ 1000000) :
    Calls Try.prog 99 #[.agg #[.int .i64 P, .int .i64 R, .int .i64 C, d]] w (RetM w ⟨P, R, C, xs⟩) := by
  have hI := Lib.hid h
  obtain ⟨pd, kd, rfl, ⟨_, mx⟩, _⟩ := h
  unfold maxLen at mx
  obtain ⟨z1, z2⟩ := box2_start w 34 34 P R C (.slice pd xs.length kd)
  have hB0 := below_alloc2 w (.cells #[.int .i64 P, .int .i64 R, .int .i64 C, .slice pd xs.length kd] 34) (.cells #[.int .i64 0, .int .i64 0, .int .i64 0, .slice none 0 0] 34)
  have Z1 := Lib.hid z1
  have Z2 := Lib.hid z2
  have HB0 := Lib.hid hB0
  clear z1 z2 hB0
  go_enter Try.func99, Try.ntmps99
  go_wp2_with fail
  have hs0 : ((w.alloc (.cells #[.int .i64 P, .int .i64 R, .int .i64 C, .slice pd xs.length kd] 34)).alloc (.cells #[.int .i64 0, .int .i64 0, .int .i64 0, .slice none 0 0] 34)).heap.size = w.heap.size + 1 + 1 := by simp
  generalize (w.alloc (.cells #[.int .i64 P, .int .i64 R, .int .i64 C, .slice pd xs.length kd] 34)).alloc (.cells #[.int .i64 0, .int .i64 0, .int .i64 0, .slice none 0 0] 34) = w2 at *
  obtain ⟨c0, c1, c2, c3, cf, hz⟩ := blk4 Z1.out
  go_region_held3 (fun w' => ((w'.cell? ⟨w.heap.size, 0, none⟩ = some (.int .i64 P) ∧ w'.cell? ⟨w.heap.size, 1, none⟩ = some (.int .i64 R) ∧ w'.cell? ⟨w.heap.size, 2, none⟩ = some (.int .i64 C) ∧ w'.cell? ⟨w.heap.size, 3, none⟩ = some (.slice pd xs.length kd)) ∧ ∃ y0 y1 y2 y3, w'.heap[w.heap.size + 1]? = some (.cells #[y0, y1, y2, y3] 34 (0, 0))) ∧ Below w.heap.size w w')
    (first | exact ⟨⟨⟨c0, c1, c2, c3⟩, _, _, _, _, Z2.out⟩, HB0.out.drew⟩ | exact keep5 hb1 (by assumption) | exact keep5_set (by omega) (by omega) _ _ _ _ (by assumption))
    (first | (go_at_call 91; refine (l1Ints_any _ xs _ (held_ints hI.out (by assumption)) hl).mono ?_; rintro e w' ⟨u, rfl, ho, hb1⟩; obtain ⟨pu, ku, rfl, _, _⟩ := ho.shape; obtain ⟨y0, y1, y2, y3, hy⟩ := s5_blk (by assumption); obtain ⟨d0, d1, d2, d3, df, dz⟩ := blk4 (blk_later hy hb1)))
  have hds : w2.drew.heap.size = w2.heap.size := rfl
  have hbz : Below w.heap.size w w' := HB0.out.trans ((below_of_drew hb1).mono (by omega))
  have hsz := hb1.size
  have hz4 := set4_all (blk_later Z2.out (below_of_drew hb1)) (.int .i64 P) (.int .i64 R) (.int .i64 C) (.slice pu xs.length ku)
  have ho4 : OwnI 3 w' (w.heap.size + 1 + 1) w'.heap.size (.slice pu xs.length ku) xs := ho.mono (by have : w2.drew.heap.size = w2.heap.size := rfl; omega) (Nat.le_refl _)
  have Hz4 := Lib.hid hz4
  have Ho4 := Lib.hid ho4
  have Hbz := Lib.hid hbz
  clear hz4 ho4 hbz ho hb1 hy d0 d1 d2 d3 df
  obtain ⟨f0, f1, f2, f3, ff, fz⟩ := blk4 Hz4.out
  go_wp2_with fail
  refine bodyPost_ret (v := .agg #[.int .i64 P, .int .i64 R, .int .i64 C, .slice pu xs.length ku]) (by simp [results, Try.results99, go_sem, f0, f1, f2, f3, fz]) rfl ⟨_, rfl, ?_, ?_⟩
  · exact (own_set4 Ho4.out (.inl (by omega)) _ _ _ _).mono (by omega) (by simp only [size_setCell]; omega)
  · exact below_set4 Hbz.out (by omega) _ _ _ _

set_option maxRecDepth 100000 in
set_option maxHeartbeats 1000000 in
theorem l7Inverse_any (x p : Int) (w : World) (hp : primeOk p = true) (h0 : 0 < x) (h1 : x < p) :
    Calls Try.prog 100 #[.int .i64 x, .int .i64 p] w fun e w' => ∃ y : Int, e = .returned (.int .i64 y) ∧ 1 ≤ y ∧ y < p ∧ x * y % p = 1 ∧ Qt w w' := by
  obtain ⟨hp2, hp7⟩ := primeOk_range hp
  obtain ⟨k0, hk1, hk2, hk3⟩ := inv_ex hp h0 h1
  obtain ⟨k0n, rfl⟩ := Int.eq_ofNat_of_zero_le (show (0 : Int) ≤ k0 by omega)
  rw [Int.mul_comm] at hk3
  have Hk3 := Lib.hid hk3
  clear hk3 hp
  go_enter Try.func100, Try.ntmps100
  go_wp2_with fail
  go_loopg [5] (k0n - 1) (fun g s5 wr => ∃ k : Nat, 1 ≤ k ∧ k ≤ k0n ∧ g = k0n - k ∧ s5 = .int .i64 k ∧ Qt w wr)
  case atStart => exact ⟨1, Nat.le_refl _, by omega, rfl, rfl, Qt.refl _⟩
  case round =>
    obtain ⟨k, hka, hkb, rfl, rfl, hq⟩ := hrel
    have hm0 : 0 ≤ x * (k : Int) := Int.mul_nonneg (by omega) (by omega)
    have hm1 : x * (k : Int) ≤ 7 * 7 := Int.mul_le_mul (by omega) (by omega) (by omega) (by omega)
    have hp0 : ¬ p = 0 := by omega
    have e1 : Int.tmod (x * (k : Int)) p = x * (k : Int) % p := Int.tmod_eq_emod_of_nonneg hm0
    have b5 : 0 ≤ x * (k : Int) % p := Int.emod_nonneg _ (by omega)
    have b6 : x * (k : Int) % p < p := Int.emod_lt_of_pos _ (by omega)
    have hkp : (k : Int) < p := by omega
    by_cases he : x * (k : Int) % p = 1
    · have he2 : (x * (k : Int) % p == 1) = true := by simpa using he
      have He := Lib.hid he
      clear he
      go_wp2_with fail
      go_ret
      exact ⟨_, rfl, by omega, hkp, He.out, hq⟩
    · have hlt : k < k0n := by
        rcases Nat.lt_or_ge k k0n with h1 | h1
        · exact h1
        · exact absurd (by rw [show k = k0n by omega]; exact Hk3.out) he
      have he2 : (x * (k : Int) % p == 1) = false := by simpa using he
      clear he
      go_wp2_with fail
      go_roundg (k0n - (k + 1))
      case measure => omega
      case rel => exact ⟨k + 1, by omega, by omega, rfl, by go_num, hq⟩

end Go.Proofs.Ytoodgbflaaabmaa

namespace Go.Proofs.Ytoodgbflaaabmaa
set_option linter.all false
open Go.RowKit

theorem ints_at {w : World} {v : Value} {rows : List (List Int)} {f : Nat → Value} (h : ∀ i, i < rows.length → Ints w (f i) (rows.getD i [])) {i : Nat} (hi : i < rows.length) :
    ∃ p cap, f i = .slice p (rows.getD i []).length cap ∧ (rows.getD i []).length ≤ cap ∧ cap ≤ maxLen := by
  obtain ⟨p, cap, e, ⟨h1, h2⟩, _⟩ := h i hi
  exact ⟨p, cap, e, h1, h2⟩

theorem keep2 {wr W W' : World} {a0 a1 : Addr} {v0 v1 : Value} (hb : Below W.heap.size W W') (h : (W.cell? a0 = some v0 ∧ W.cell? a1 = some v1) ∧ Below wr.heap.size wr W) :
    (W'.cell? a0 = some v0 ∧ W'.cell? a1 = some v1) ∧ Below wr.heap.size wr W' := ⟨⟨cell_below hb h.1.1, cell_below hb h.1.2⟩, below_trans h.2 hb⟩

/-- two lists of lists are the same row by row -/
theorem rows_eq {xs ys : List (List Int)} (hl : xs.length = ys.length) (h : ∀ j, j < xs.length → xs.getD j [] = ys.getD j []) : xs = ys := by
  apply List.ext_getElem hl
  intro i h1 h2
  have := h i h1
  simpa [List.getD_eq_getElem?_getD, h1, h2] using this

/-- slices of different types lie in different blocks -/
theorem own_types {Ts Ti : TypeId} {w : World} {lo hi lo1 hi1 n : Nat} {v y : Value} {f : Nat → Value} {ys : List Int} (g1 : OwnF w lo hi Ts v n f) (hy : OwnI Ti w lo1 hi1 y ys) (hT : Ts ≠ Ti)
    {k : Nat} (hv : v.ownBlock = some k) (hk : y.ownBlock = some k) : False := by
  obtain ⟨zs, hz, _⟩ := g1
  rcases Own.row hz with ⟨e1, _⟩ | ⟨g, cap', F, e1, _, _, _, _, hr, _⟩
  · rw [e1] at hv; simp [Value.ownBlock] at hv
  · rw [e1] at hv
    simp only [Value.ownBlock, Option.some.injEq] at hv
    subst hv
    rcases Own.row hy with ⟨e2, _⟩ | ⟨g', cap2, F2, e2, _, _, _, _, hr2, _⟩
    · rw [e2] at hk; simp [Value.ownBlock] at hk
    · rw [e2] at hk
      simp only [Value.ownBlock, Option.some.injEq] at hk
      subst hk
      obtain ⟨c, hc, _⟩ := hr
      obtain ⟨c2, hc2, _⟩ := hr2
      rw [hc] at hc2
      injection hc2 with hc2
      injection hc2 with _ hc2
      exact hT hc2
/-- an owned slice lies in its own block, or in none -/
theorem OwnI.tight {T : TypeId} {w : World} {lo hi : Nat} {v : Value} {xs : List Int} (h : OwnI T w lo hi v xs) :
    ∃ lo' hi', OwnI T w lo' hi' v xs ∧ (∀ k, lo' ≤ k → k < hi' → v.ownBlock = some k ∧ lo ≤ k ∧ k < hi) := by
  obtain ⟨⟨hl, hr⟩, hh⟩ := h
  rcases hr with ⟨rfl, h0⟩ | ⟨g, cap, cur, rfl, hg, r⟩
  · exact ⟨0, 0, ⟨⟨hl, .inl ⟨rfl, h0⟩⟩, fun k hk => by simp [Value.ownBlock] at hk⟩, fun k h1 h2 => absurd h2 (Nat.not_lt_zero _)⟩
  · refine ⟨g, g + 1, ⟨⟨hl, .inr ⟨g, cap, cur, rfl, Nat.le_refl _, r⟩⟩, fun k hk => by simp [Value.ownBlock] at hk; omega⟩, fun k h1 h2 => ?_⟩
    obtain rfl : k = g := by omega
    exact ⟨rfl, hg, hh k rfl⟩

theorem OwnI.widen {T : TypeId} {w : World} {lo hi lo' hi' : Nat} {v : Value} {xs : List Int} (h : OwnI T w lo' hi' v xs) (hin : ∀ k, v.ownBlock = some k → lo ≤ k ∧ k < hi) : OwnI T w lo hi v xs := by
  obtain ⟨⟨hl, hr⟩, hh⟩ := h
  rcases hr with ⟨rfl, h0⟩ | ⟨g, cap, cur, rfl, hg, r⟩
  · exact ⟨⟨hl, .inl ⟨rfl, h0⟩⟩, fun k hk => by simp [Value.ownBlock] at hk⟩
  · exact ⟨⟨hl, .inr ⟨g, cap, cur, rfl, (hin g rfl).1, r⟩⟩, fun k hk => (hin k hk).2⟩
theorem OwnI.besides {T : TypeId} {w w' : World} {lo hi lo' hi' : Nat} {v : Value} {xs : List Int} (h : OwnI T w lo hi v xs) (hf : Frm lo' hi' w w') (hne : ∀ b, v.ownBlock = some b → b < lo' ∨ hi' ≤ b) : OwnI T w' lo hi v xs :=
  ⟨ownsRow_of_block h.1 fun b hb => hf.block b (Own.block h hb).2.2 (hne b hb), h.2⟩
theorem OwnF.besides {T : TypeId} {w w' : World} {lo hi lo' hi' n : Nat} {v : Value} {f : Nat → Value} (h : OwnF w lo hi T v n f) (hf : Frm lo' hi' w w') (hne : ∀ b, v.ownBlock = some b → b < lo' ∨ hi' ≤ b) : OwnF w' lo hi T v n f := by
  obtain ⟨xs, h, hx⟩ := h
  exact ⟨xs, ⟨ownsRow_of_block h.1 fun b hb => hf.block b (Own.block h hb).2.2 (hne b hb), h.2⟩, hx⟩

/-- how many numbers the first k rows have -/
def pre (rows : List (List Int)) (k : Nat) : Nat := (rows.take k).flatten.length
theorem pre_zero (rows : List (List Int)) : pre rows 0 = 0 := by simp [pre]
theorem pre_succ (rows : List (List Int)) (k : Nat) (h : k < rows.length) : pre rows (k + 1) = pre rows k + (rows.getD k []).length := by
  have e : rows[k]? = some (rows.getD k []) := by rw [List.getD_eq_getElem?_getD, List.getElem?_eq_getElem h]; rfl
  unfold pre
  rw [List.take_add_one, List.flatten_append, List.length_append, e]
  simp only [Option.toList, List.flatten_cons, List.flatten_nil, List.append_nil]
theorem pre_le (rows : List (List Int)) (k : Nat) : pre rows k ≤ rows.flatten.length := by
  have e : rows.flatten.length = (rows.take k).flatten.length + (rows.drop k).flatten.length := by
    rw [← List.length_append, ← List.flatten_append, List.take_append_drop]
  unfold pre; omega
theorem pre_all (rows : List (List Int)) : pre rows rows.length = rows.flatten.length := by simp [pre]
/-- the rows, written over by m, m+1, .. -/
def runsII (m : Int) (rows : List (List Int)) : List (List Int) := (List.range rows.length).map fun i => runs (m + pre rows i) (rows.getD i []).length
theorem length_runsII (m : Int) (rows : List (List Int)) : (runsII m rows).length = rows.length := by simp [runsII]
theorem getD_runsII (m : Int) (rows : List (List Int)) {i : Nat} (h : i < rows.length) : (runsII m rows).getD i [] = runs (m + pre rows i) (rows.getD i []).length := by
  simp [runsII, List.getD_eq_getElem?_getD, h]

end Go.Proofs.Ytoodgbflaaabmaa

namespace Go.Proofs.Ytoodgbflaaabmaa
set_option linter.all false
open Go.RowKit

/-- rows of their own (lo .. mid-1, then mid .. hi-1) stand one behind the other in a slice that an append made -/
theorem OwnII.join {Ts Ti : TypeId} {w w' : World} {lo mid hi : Nat} {v v' : Value} {rows rows2 : List (List Int)} {f g : Nat → Value}
    (g1 : OwnF w lo mid Ts v rows.length f) (g2 : ∀ i, i < rows.length → OwnI Ti w lo mid (f i) (rows.getD i []))
    (g3 : ∀ i j, i < j → j < rows.length → ∀ k, (f i).ownBlock = some k → (f j).ownBlock ≠ some k)
    (h2 : ∀ i, i < rows2.length → OwnI Ti w mid hi (g i) (rows2.getD i []))
    (h3 : ∀ i j, i < j → j < rows2.length → ∀ k, (g i).ownBlock = some k → (g j).ownBlock ≠ some k)
    (hm : lo ≤ mid) (hmh : mid ≤ hi) (hT : Ts ≠ Ti) (hg : w.grownBy w' v.ownBlock) (hsz : hi ≤ w'.heap.size)
    (hv : OwnF w' lo w'.heap.size Ts v' (rows.length + rows2.length) (fun j => if j < rows.length then f j else g (j - rows.length))) :
    OwnII Ts Ti w' lo w'.heap.size v' (rows ++ rows2) := by
  have hrow : ∀ (y : Value) (ys : List Int) (lo1 hi1 : Nat), OwnI Ti w lo1 hi1 y ys → OwnI Ti w' lo1 hi1 y ys := fun y ys lo1 hi1 hy =>
    ⟨ownsRow_of_block hy.1 fun k hk => hg.block k (Own.block hy hk).2.2 fun e => own_types g1 hy hT e.symm hk, hy.2⟩
  refine ⟨_, by rw [List.length_append]; exact hv, fun i hi => ?_, fun i j hij hj k hk => ?_⟩
  · rw [List.length_append] at hi
    by_cases hlt : i < rows.length
    · have e : (rows ++ rows2).getD i [] = rows.getD i [] := by simp [List.getD_eq_getElem?_getD, List.getElem?_append_left hlt]
      simp only [hlt, if_true]
      rw [e]
      exact (hrow _ _ _ _ (g2 i hlt)).mono (Nat.le_refl _) (by omega)
    · have e : (rows ++ rows2).getD i [] = rows2.getD (i - rows.length) [] := by
        simp [List.getD_eq_getElem?_getD, List.getElem?_append_right (Nat.le_of_not_lt hlt)]
      simp only [hlt, if_false]
      rw [e]
      exact (hrow _ _ _ _ (h2 _ (by omega))).mono hm hsz
  · rw [List.length_append] at hj
    by_cases hlt : j < rows.length
    · simp only [hlt, if_true]
      simp only [show i < rows.length by omega, if_true] at hk
      exact g3 i j hij hlt k hk
    · simp only [hlt, if_false]
      by_cases hil : i < rows.length
      · simp only [hil, if_true] at hk
        intro e
        have h5 := (Own.block (g2 i hil) hk).2.1
        have h6 := (Own.block (h2 _ (by omega)) e).1
        omega
      · simp only [hil, if_false] at hk
        exact h3 _ _ (by omega) (by omega) k hk

theorem OwnI.snoc1 {T : TypeId} {w : World} {lo hi : Nat} {v : Value} {out : List Int} {x : Int} (h : OwnF w lo hi T v (out.length + 1) (fun j => if j < out.length then iv out j else .int .i64 x)) : OwnI T w lo hi v (out ++ [x]) := by
  refine OwnF.ints ?_
  rw [List.length_append]
  exact h.congr fun j hj => by
    by_cases h : j < out.length
    · simp [h, iv, List.getD_eq_getElem?_getD, List.getElem?_append_left h]
    · have : j = out.length := by omega
      subst this
      simp [iv, List.getD_eq_getElem?_getD]

theorem flatMap_len {α : Type} (g : Nat → List α) (b : Nat) (h : ∀ x, (g x).length ≤ b) : ∀ n, ((List.range n).flatMap g).length ≤ n * b
  | 0 => by simp
  | n + 1 => by
    rw [List.range_succ, List.flatMap_append, List.length_append, Nat.succ_mul]
    have := flatMap_len g b h n
    have h2 := h n
    simp only [List.flatMap_cons, List.flatMap_nil, List.append_nil]
    omega

theorem flatMap_snoc {α : Type} (g : Nat → List α) (n : Nat) : (List.range (n + 1)).flatMap g = (List.range n).flatMap g ++ g n := by
  rw [List.range_succ, List.flatMap_append]
  simp

end Go.Proofs.Ytoodgbflaaabmaa

namespace Go.Proofs.Ytoodgbflaaabmaa
set_option linter.all false
open Go.RowKit

/-- append, as a step of a region that draws -/
theorem step_append_F {P : Program} {w : World} {ops : Array Oper} {o : Oper} {a : Act} {K : Act → World → Prop} {Q : Exit → Act → World → Prop} {E : Prop} (hgd : o.guard = none) (s x : Operand) (t : TypeId)
    (ho : o.op = .call { callee := .builtin .append, args := #[s, x], argTypes := #[t, t] })
    (e : TypeId) (z : Value) (bytes : Nat) (ht : P.underlying t = some (.slice e)) (hinfo : (P.info? e).map (fun i => (i.zero, i.size, i.bytes)) = some (some z, 1, bytes)) (hzs : z.cells.size = 1)
    (lo hi' : Nat) (v : Value) (n : Nat) (f : Nat → Value) (hs : a.eval s = v) (hown : OwnF w lo hi' e v n f) (hlo : lo ≤ w.heap.size) (hhi : hi' ≤ w.heap.size)
    (u : Value) (m : Nat) (g : Nat → Value) (hxu : a.eval x = u) (hx : Rd w u m g) (h1 : ∀ j, j < m → (g j).oneCell' = true) (h63 : n + m ≤ maxLen) (hbytes : (n + m) * bytes ≤ 140737488355328)
    (h : ∀ v' w', OwnF w' lo w'.heap.size e v' (n + m) (fun j => if j < n then f j else g (j - n)) → w.grownBy w' v.ownBlock → K (a.put o.dst v') w') :
    if Region.wanted o (yielded ops a.tmps) = true then Oper.wp P o a w K Q else E := by
  have hw : Region.wanted o (yielded ops a.tmps) = true := by simp [Region.wanted, hgd]
  rw [if_pos hw]
  obtain ⟨i, hi, hz, hsz, hby⟩ := info_parts hinfo
  obtain ⟨v', w', hr, h2, h3⟩ := run_append_F (P := P) w t o.type e i z bytes ht hi hz hsz hby hzs lo hi' v n f hown hlo hhi u m g hx h1 h63 hbytes
  unfold Oper.wp
  simp [execOp, ho, resolve, invoke, builtin, hs, hxu, hr, Result.andThen]
  exact h v' w' h2 h3

theorem grownBy_below2 {w w' : World} {v : Value} {lo hi : Nat} {T : TypeId} {n : Nat} {f : Nat → Value} (h : w.grownBy w' v.ownBlock) (ho : OwnF w lo hi T v n f) {B : Nat} (h1 : B ≤ lo) (h2 : B ≤ w.heap.size) : Below B w w' :=
  grownBy_below h ho.blocks h1 h2

/-- eight cells that are read, and a block for the result -/
theorem keep9 {w W W' : World} {a0 a1 a2 a3 a4 a5 a6 a7 : Addr} {v0 v1 v2 v3 v4 v5 v6 v7 : Value} {b : Nat} {T : TypeId} (hb : Below W.heap.size W W')
    (h : ((W.cell? a0 = some v0 ∧ W.cell? a1 = some v1 ∧ W.cell? a2 = some v2 ∧ W.cell? a3 = some v3 ∧ W.cell? a4 = some v4 ∧ W.cell? a5 = some v5 ∧ W.cell? a6 = some v6 ∧ W.cell? a7 = some v7) ∧ ∃ y0 y1 y2 y3, W.heap[b]? = some (.cells #[y0, y1, y2, y3] T (0, 0))) ∧ Below w.heap.size w W) :
    ((W'.cell? a0 = some v0 ∧ W'.cell? a1 = some v1 ∧ W'.cell? a2 = some v2 ∧ W'.cell? a3 = some v3 ∧ W'.cell? a4 = some v4 ∧ W'.cell? a5 = some v5 ∧ W'.cell? a6 = some v6 ∧ W'.cell? a7 = some v7) ∧ ∃ y0 y1 y2 y3, W'.heap[b]? = some (.cells #[y0, y1, y2, y3] T (0, 0))) ∧ Below w.heap.size w W' := by
  obtain ⟨⟨⟨h0, h1, h2, h3, h4, h5, h6, h7⟩, y0, y1, y2, y3, hy⟩, hB⟩ := h
  exact ⟨⟨⟨cell_below hb h0, cell_below hb h1, cell_below hb h2, cell_below hb h3, cell_below hb h4, cell_below hb h5, cell_below hb h6, cell_below hb h7⟩, y0, y1, y2, y3, blk_later hy hb⟩, hB.trans (hb.mono hB.size)⟩
theorem keep9_gen {w W W' : World} {b1 b2 o0 o1 o2 o3 o4 o5 o6 o7 : Nat} {v0 v1 v2 v3 v4 v5 v6 v7 z0 z1 z2 z3 : Value} {b : Nat} {T : TypeId} (hh : W'.heap[b1]? = W.heap[b1]?) (hh2 : W'.heap[b2]? = W.heap[b2]?) (hy : W'.heap[b]? = some (.cells #[z0, z1, z2, z3] T (0, 0))) (hB : Below w.heap.size w W')
    (h : W.cell? ⟨b1, o0, none⟩ = some v0 ∧ W.cell? ⟨b1, o1, none⟩ = some v1 ∧ W.cell? ⟨b1, o2, none⟩ = some v2 ∧ W.cell? ⟨b1, o3, none⟩ = some v3 ∧ W.cell? ⟨b2, o4, none⟩ = some v4 ∧ W.cell? ⟨b2, o5, none⟩ = some v5 ∧ W.cell? ⟨b2, o6, none⟩ = some v6 ∧ W.cell? ⟨b2, o7, none⟩ = some v7) :
    ((W'.cell? ⟨b1, o0, none⟩ = some v0 ∧ W'.cell? ⟨b1, o1, none⟩ = some v1 ∧ W'.cell? ⟨b1, o2, none⟩ = some v2 ∧ W'.cell? ⟨b1, o3, none⟩ = some v3 ∧ W'.cell? ⟨b2, o4, none⟩ = some v4 ∧ W'.cell? ⟨b2, o5, none⟩ = some v5 ∧ W'.cell? ⟨b2, o6, none⟩ = some v6 ∧ W'.cell? ⟨b2, o7, none⟩ = some v7) ∧ ∃ y0 y1 y2 y3, W'.heap[b]? = some (.cells #[y0, y1, y2, y3] T (0, 0))) ∧ Below w.heap.size w W' := by
  obtain ⟨h0, h1, h2, h3, h4, h5, h6, h7⟩ := h
  refine ⟨⟨⟨?_, ?_, ?_, ?_, ?_, ?_, ?_, ?_⟩, z0, z1, z2, z3, hy⟩, hB⟩
  · rw [World.cell?_of_block (w := W) hh]; exact h0
  · rw [World.cell?_of_block (w := W) hh]; exact h1
  · rw [World.cell?_of_block (w := W) hh]; exact h2
  · rw [World.cell?_of_block (w := W) hh]; exact h3
  · rw [World.cell?_of_block (w := W) hh2]; exact h4
  · rw [World.cell?_of_block (w := W) hh2]; exact h5
  · rw [World.cell?_of_block (w := W) hh2]; exact h6
  · rw [World.cell?_of_block (w := W) hh2]; exact h7
theorem heap_set4 {W : World} {b1 b : Nat} (hne : b1 ≠ b) (x0 x1 x2 x3 : Value) : ((((W.setCell ⟨b, 0, none⟩ x0).setCell ⟨b, 1, none⟩ x1).setCell ⟨b, 2, none⟩ x2).setCell ⟨b, 3, none⟩ x3).heap[b1]? = W.heap[b1]? := by
  rw [Below.heap_setCell _ _ _ _ (show b1 ≠ (⟨b, 3, none⟩ : Addr).block from hne), Below.heap_setCell _ _ _ _ (show b1 ≠ (⟨b, 2, none⟩ : Addr).block from hne), Below.heap_setCell _ _ _ _ (show b1 ≠ (⟨b, 1, none⟩ : Addr).block from hne), Below.heap_setCell _ _ _ _ (show b1 ≠ (⟨b, 0, none⟩ : Addr).block from hne)]
theorem keep9_set {w W : World} {b1 b2 o0 o1 o2 o3 o4 o5 o6 o7 : Nat} {v0 v1 v2 v3 v4 v5 v6 v7 : Value} {b : Nat} {T : TypeId} (hne : b1 ≠ b) (hne2 : b2 ≠ b) (hbw : w.heap.size ≤ b) (x0 x1 x2 x3 : Value)
    (h : ((W.cell? ⟨b1, o0, none⟩ = some v0 ∧ W.cell? ⟨b1, o1, none⟩ = some v1 ∧ W.cell? ⟨b1, o2, none⟩ = some v2 ∧ W.cell? ⟨b1, o3, none⟩ = some v3 ∧ W.cell? ⟨b2, o4, none⟩ = some v4 ∧ W.cell? ⟨b2, o5, none⟩ = some v5 ∧ W.cell? ⟨b2, o6, none⟩ = some v6 ∧ W.cell? ⟨b2, o7, none⟩ = some v7) ∧ ∃ y0 y1 y2 y3, W.heap[b]? = some (.cells #[y0, y1, y2, y3] T (0, 0))) ∧ Below w.heap.size w W) :
    ((((((W.setCell ⟨b, 0, none⟩ x0).setCell ⟨b, 1, none⟩ x1).setCell ⟨b, 2, none⟩ x2).setCell ⟨b, 3, none⟩ x3).cell? ⟨b1, o0, none⟩ = some v0 ∧ ((((W.setCell ⟨b, 0, none⟩ x0).setCell ⟨b, 1, none⟩ x1).setCell ⟨b, 2, none⟩ x2).setCell ⟨b, 3, none⟩ x3).cell? ⟨b1, o1, none⟩ = some v1 ∧
      ((((W.setCell ⟨b, 0, none⟩ x0).setCell ⟨b, 1, none⟩ x1).setCell ⟨b, 2, none⟩ x2).setCell ⟨b, 3, none⟩ x3).cell? ⟨b1, o2, none⟩ = some v2 ∧ ((((W.setCell ⟨b, 0, none⟩ x0).setCell ⟨b, 1, none⟩ x1).setCell ⟨b, 2, none⟩ x2).setCell ⟨b, 3, none⟩ x3).cell? ⟨b1, o3, none⟩ = some v3 ∧
      ((((W.setCell ⟨b, 0, none⟩ x0).setCell ⟨b, 1, none⟩ x1).setCell ⟨b, 2, none⟩ x2).setCell ⟨b, 3, none⟩ x3).cell? ⟨b2, o4, none⟩ = some v4 ∧ ((((W.setCell ⟨b, 0, none⟩ x0).setCell ⟨b, 1, none⟩ x1).setCell ⟨b, 2, none⟩ x2).setCell ⟨b, 3, none⟩ x3).cell? ⟨b2, o5, none⟩ = some v5 ∧
      ((((W.setCell ⟨b, 0, none⟩ x0).setCell ⟨b, 1, none⟩ x1).setCell ⟨b, 2, none⟩ x2).setCell ⟨b, 3, none⟩ x3).cell? ⟨b2, o6, none⟩ = some v6 ∧ ((((W.setCell ⟨b, 0, none⟩ x0).setCell ⟨b, 1, none⟩ x1).setCell ⟨b, 2, none⟩ x2).setCell ⟨b, 3, none⟩ x3).cell? ⟨b2, o7, none⟩ = some v7) ∧
      ∃ y0 y1 y2 y3, ((((W.setCell ⟨b, 0, none⟩ x0).setCell ⟨b, 1, none⟩ x1).setCell ⟨b, 2, none⟩ x2).setCell ⟨b, 3, none⟩ x3).heap[b]? = some (.cells #[y0, y1, y2, y3] T (0, 0))) ∧
      Below w.heap.size w ((((W.setCell ⟨b, 0, none⟩ x0).setCell ⟨b, 1, none⟩ x1).setCell ⟨b, 2, none⟩ x2).setCell ⟨b, 3, none⟩ x3) := by
  obtain ⟨⟨hc, y0, y1, y2, y3, hy⟩, hB⟩ := h
  have hy4 := set4_all hy x0 x1 x2 x3
  have hB4 := below_set4 hB hbw x0 x1 x2 x3
  exact keep9_gen (heap_set4 hne x0 x1 x2 x3) (heap_set4 hne2 x0 x1 x2 x3) hy4 hB4 hc
theorem s9_blk {w W : World} {c : Prop} {b : Nat} {T : TypeId}
    (h : (c ∧ ∃ y0 y1 y2 y3, W.heap[b]? = some (.cells #[y0, y1, y2, y3] T (0, 0))) ∧ Below w.heap.size w W) :
    ∃ y0 y1 y2 y3, W.heap[b]? = some (.cells #[y0, y1, y2, y3] T (0, 0)) := h.1.2

/-- .. where what changed lies from B on -/
theorem keep9B {w W W' : World} {B b1 b2 o0 o1 o2 o3 o4 o5 o6 o7 : Nat} {v0 v1 v2 v3 v4 v5 v6 v7 : Value} {b : Nat} {T : TypeId} (hb : Below B W W') (hB1 : b1 < B) (hB2 : b2 < B) (hB3 : b < B) (hw : w.heap.size ≤ B)
    (h : ((W.cell? ⟨b1, o0, none⟩ = some v0 ∧ W.cell? ⟨b1, o1, none⟩ = some v1 ∧ W.cell? ⟨b1, o2, none⟩ = some v2 ∧ W.cell? ⟨b1, o3, none⟩ = some v3 ∧ W.cell? ⟨b2, o4, none⟩ = some v4 ∧ W.cell? ⟨b2, o5, none⟩ = some v5 ∧ W.cell? ⟨b2, o6, none⟩ = some v6 ∧ W.cell? ⟨b2, o7, none⟩ = some v7) ∧ ∃ y0 y1 y2 y3, W.heap[b]? = some (.cells #[y0, y1, y2, y3] T (0, 0))) ∧ Below w.heap.size w W) :
    ((W'.cell? ⟨b1, o0, none⟩ = some v0 ∧ W'.cell? ⟨b1, o1, none⟩ = some v1 ∧ W'.cell? ⟨b1, o2, none⟩ = some v2 ∧ W'.cell? ⟨b1, o3, none⟩ = some v3 ∧ W'.cell? ⟨b2, o4, none⟩ = some v4 ∧ W'.cell? ⟨b2, o5, none⟩ = some v5 ∧ W'.cell? ⟨b2, o6, none⟩ = some v6 ∧ W'.cell? ⟨b2, o7, none⟩ = some v7) ∧ ∃ y0 y1 y2 y3, W'.heap[b]? = some (.cells #[y0, y1, y2, y3] T (0, 0))) ∧ Below w.heap.size w W' := by
  obtain ⟨⟨hc, y0, y1, y2, y3, hy⟩, hB⟩ := h
  exact keep9_gen (hb.block _ hB1) (hb.block _ hB2) ((hb.block _ hB3).trans hy) (hB.trans (hb.mono hw)) hc
theorem held_lt {w W : World} {c : Prop} {b : Nat} {T : TypeId} (h : (c ∧ ∃ y0 y1 y2 y3, W.heap[b]? = some (.cells #[y0, y1, y2, y3] T (0, 0))) ∧ Below w.heap.size w W) : b + 1 ≤ W.heap.size := by
  obtain ⟨y0, y1, y2, y3, hy⟩ := h.1.2
  exact blk_lt hy

/-- one list behind another one -/
theorem own_join {T : TypeId} {w : World} {lo hi : Nat} {v : Value} {xs ys : List Int} (h : OwnF w lo hi T v (xs.length + ys.length) (fun j => if j < xs.length then iv xs j else iv ys (j - xs.length))) : OwnI T w lo hi v (xs ++ ys) := by
  refine OwnF.ints ?_
  rw [List.length_append]
  exact h.congr fun j _ => iv_append rfl j

theorem OwnI.one {T : TypeId} {w : World} {lo hi : Nat} {v : Value} {xs : List Int} (h : OwnI T w lo hi v xs) : v.oneCell' = true := by
  obtain ⟨p, cap, rfl, _, _⟩ := h.shape
  rfl
/-- rows of the call's own, put behind others, as a step of a region that draws -/
theorem step_append_II {w : World} {ops : Array Oper} {o : Oper} {a : Act} {K : Act → World → Prop} {Q : Exit → Act → World → Prop} {E : Prop} (hgd : o.guard = none) (s x : Operand)
    (ho : o.op = .call { callee := .builtin .append, args := #[s, x], argTypes := #[42, 42] })
    (lo mid hi : Nat) (v u : Value) (rows rows2 : List (List Int)) (hs : a.eval s = v) (hxu : a.eval x = u)
    (h1 : OwnII 24 3 w lo mid v rows) (h2 : OwnII 24 3 w mid hi u rows2) (hm : lo ≤ mid) (hmh : mid ≤ hi) (hhi : hi ≤ w.heap.size) (hl : rows.length + rows2.length ≤ 1000)
    (h : ∀ v' w', OwnII 24 3 w' lo w'.heap.size v' (rows ++ rows2) → Below lo w w' → K (a.put o.dst v') w') :
    if Region.wanted o (yielded ops a.tmps) = true then Oper.wp Try.prog o a w K Q else E := by
  obtain ⟨f, g1, g2, g3⟩ := h1
  obtain ⟨g, k1, k2, k3⟩ := h2
  refine step_append_F hgd s x 42 ho 24 (.slice none 0 0) 24 Try.underlying42 info_sl rfl lo mid v rows.length f hs g1 (by omega) (by omega) u rows2.length g hxu k1.rd (fun j hj => (k2 j hj).one) (by unfold maxLen; omega) (by omega) ?_
  intro v' w' ho' hg'
  exact h v' w' (OwnII.join g1 g2 g3 k2 k3 hm hmh (by decide) hg' (Nat.le_trans hhi hg'.size) ho') (grownBy_below2 hg' g1 (Nat.le_refl _) (by omega))

/-- the boxes of two arguments -/
theorem boxes_ab (w : World) (A B : Obj) : ((w.alloc A).alloc B).heap[w.heap.size]? = some A ∧ ((w.alloc A).alloc B).heap[w.heap.size + 1]? = some B := by
  refine ⟨?_, heap_alloc_at _ _ (by simp)⟩
  rw [heap_alloc_low _ _ (by simp)]; exact heap_alloc_top _ _
/-- .. and the result's cell -/
theorem boxes_abz (w : World) (A B Z : Obj) : (((w.alloc A).alloc B).alloc Z).heap[w.heap.size]? = some A ∧ (((w.alloc A).alloc B).alloc Z).heap[w.heap.size + 1]? = some B ∧ (((w.alloc A).alloc B).alloc Z).heap[w.heap.size + 1 + 1]? = some Z := by
  refine ⟨?_, ?_, heap_alloc_at _ _ (by simp)⟩
  · rw [heap_alloc_low _ _ (by simp; omega)]; exact (boxes_ab w A B).1
  · rw [heap_alloc_low _ _ (by simp)]; exact (boxes_ab w A B).2
theorem size_ab (w : World) (A B : Obj) : ((w.alloc A).alloc B).heap.size = w.heap.size + 1 + 1 := by simp
theorem size_abz (w : World) (A B Z : Obj) : (((w.alloc A).alloc B).alloc Z).heap.size = w.heap.size + 1 + 1 + 1 := by simp

end Go.Proofs.Ytoodgbflaaabmaa
