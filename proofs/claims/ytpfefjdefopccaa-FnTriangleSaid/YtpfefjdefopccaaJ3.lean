/-
  slices.Clone at []int; the rows of a matrix; a multiple of a row added to another one.
  addRow: a multiple of a row is added to another one, in it itself.
  slices.IndexFunc for a number other than 0, impl.pivot, impl.scaledTo1.
  The step of the program's reduction, as plain law.
  The step of the reference's reduction, as plain law.
  l7At: the number at a place of a matrix.
  For a region that draws its order, loads from the boxes of arguments and calls what makes memory: what is kept from world to world. And facts on numbers.
  More on a region that draws its order and makes a box somewhere in it: where the box lies when it is made first, and what a write into it leaves.
-/
import Derived.Test.YtpfefjdefopccaaJ2
import Derived.StillTailTactics
import Derived.Test.YtpfefjdefopccaaJ1
import Derived.Deep.RegionHeld3
import Derived.Deep.DeepCutAuto
namespace Go.Proofs.Ytpfefjdefopccaa
set_option linter.all false
open Go.RowKit

/-- a call returned this list, in new memory, and changed nothing that was there -/
def RetI (w : World) (xs : List Int) (e : Ending) (w' : World) : Prop :=
  ∃ u, e = .returned u ∧ OwnI 3 w' w.heap.size w'.heap.size u xs ∧ Below w.heap.size w w'
/-- .. this list of lists -/
def RetII (w : World) (rows : List (List Int)) (e : Ending) (w' : World) : Prop :=
  ∃ u, e = .returned u ∧ OwnII 24 3 w' w.heap.size w'.heap.size u rows ∧ Below w.heap.size w w'

set_option maxRecDepth 100000 in
set_option maxHeartbeats 400000 in
theorem clone_any (v : Value) (xs : List Int) (w : World) (h : Ints w v xs) (hl : xs.length ≤ 1000000) :
    Calls Try.prog 38 #[v] w (RetI w xs) := by
  have hI := Lib.hid h
  obtain ⟨p, cap, rfl, ⟨hx1, hx2⟩, hxc⟩ := h
  have keq := fun (n c : Nat) => Lib.run_eql_slice_nil (P := Try.prog) w 24 3 p n c 0 0 Try.underlying24
  cases p with
  | none =>
    have hx0 : xs.length = 0 := by
      rcases Nat.eq_zero_or_pos xs.length with h0 | h0
      · exact h0
      · obtain ⟨b, off, e, _⟩ := hxc h0; cases e
    obtain rfl := List.eq_nil_of_length_eq_zero hx0
    clear hxc hI
    go_enter Try.func38, Try.ntmps38
    go_wp2_with fail
    go_ret
    exact ⟨_, rfl, ⟨World.ownsRow_nil _ _ _ _, fun k hk => by simp [Value.ownBlock] at hk⟩, Below.refl _ _⟩
  | some a =>
    have Hb1 := Lib.hid (show 0 + xs.length ≤ maxLen by unfold maxLen; omega)
    have Hb2 := Lib.hid (show (0 + xs.length) * 8 ≤ 140737488355328 by omega)
    clear hxc
    go_enter Try.func38, Try.ntmps38
    go_wp2_with (at_builtin; go_must (refine wpList_append_F rfl (.tmp 5) (.tmp 6) 24 rfl 3 (.int .i64 0) 8 Try.underlying24 info_int rfl w.heap.size (w.heap.size + 1) _ 0 (fun _ => undef) rfl (OwnF.made0 w _ _) (by simp) (by simp) _ _ _ rfl (hI.out.below (below_alloc w _)) (fun j _ => iv_one _ j) Hb1.out Hb2.out ?_; intro v' w' ho' hg'))
    go_ret
    refine ⟨_, rfl, OwnF.ints ?_, (below_alloc w _).trans (grownBy_below hg' (OwnF.made0 w 3 (fun _ => undef)).blocks (Nat.le_refl _) (by simp))⟩
    rw [Nat.zero_add] at ho'
    exact ho'.congr fun j _ => by simp

set_option maxRecDepth 100000 in
set_option maxHeartbeats 1000000 in
/-- the rows of a matrix, each in memory of its own -/
theorem lines_any (P : Int) (R C : Nat) (d : Value) (D : List Int) (w : World) (h : Ints w d D) (hR : R ≤ 1000) (hC : C ≤ 1000) (hC0 : 1 ≤ C) (hD : D.length = R * C) :
    Calls Try.prog 20 #[.agg #[.int .i64 P, .int .i64 (R : Int), .int .i64 (C : Int), d]] w (RetII w (rowsOf R C D)) := by
  have hI := Lib.hid h
  obtain ⟨p, cap, rfl, ⟨hx1, hx2⟩, hxc⟩ := h
  unfold maxLen at hx2
  have Hxc := Lib.hid hxc
  have HD := Lib.hid hD
  clear hxc hD
  go_enter Try.func20, Try.ntmps20
  go_wp2_with fail
  go_loopg [3, 8] R (fun g s3 i wr => ∃ k : Nat, k ≤ R ∧ g = R - k ∧ i = .int .i64 k ∧ Below (w.heap.size + 1) (w.alloc (.cells #[.int .i64 P, .int .i64 (R : Int), .int .i64 (C : Int), .slice p D.length cap] 26)) wr ∧
    OwnII 24 3 wr (w.heap.size + 1) wr.heap.size s3 ((rowsOf R C D).take k))
  case atStart =>
    have hm0 := OwnF.made0 (w.alloc (.cells #[.int .i64 P, .int .i64 (R : Int), .int .i64 (C : Int), .slice p D.length cap] 26)) 24 (fun _ => undef)
    simp only [size_alloc] at hm0
    exact ⟨0, Nat.zero_le _, rfl, rfl, (Below.refl _ _).alloc (by simp) _, fun _ => undef, hm0.mono (Nat.le_refl _) (by simp), fun i hi => absurd hi (by simp), fun i j _ hj => absurd hj (by simp)⟩
  case round =>
    obtain ⟨k, hk, rfl, rfl, hb, f, g1, g2, g3⟩ := hrel
    obtain ⟨c0, c1, c2, c3, cf, hz⟩ := blk4 (show wr.heap[w.heap.size]? = _ by rw [hb.block _ (by omega)]; exact heap_alloc_top w _)
    by_cases hlt : k < R
    · have hDl := HD.out
      have hkc := mul_le_of (C := C) hlt
      rw [Nat.add_mul, Nat.one_mul] at hkc
      have hRC : R * C ≤ 1000 * 1000 := Nat.mul_le_mul hR hC
      obtain ⟨K, hK, hr1, hr2⟩ := row_named k C (by omega)
      have hKn : K + C ≤ D.length := by omega
      have hKc : K < cap := by omega
      obtain ⟨b, off, rfl, hc⟩ := Hxc.out (by omega)
      have HK := Lib.hid hK
      have hbw : Below w.heap.size w wr := (below_alloc w _).trans (hb.mono (by omega))
      have Hrow := Lib.hid (Rd.part (hI.out.below hbw) K C (cap - K) hKn (by omega) (by unfold maxLen; omega))
      obtain ⟨r1, r2⟩ := hr1.out
      clear hc hDl hkc hRC hK hr2 hr1
      have hri : Ints wr (.slice (some ⟨b, off + K, none⟩) C (cap - K)) (rowAt C D k) := by
        have hrl : (rowAt C D k).length = C := rowAt_length (by rw [Nat.add_mul, Nat.one_mul, ← HK.out]; exact hKn)
        unfold Ints
        rw [hrl]
        exact Hrow.out.congr fun j hj => by rw [iv, iv, rowAt_getD hj, HK.out]
      have Hri := Lib.hid hri
      have hlen : ((rowsOf R C D).take k).length = k := by rw [List.length_take, rowsOf_length]; omega
      have Hlen := Lib.hid hlen
      rw [hlen] at g1 g2 g3
      have hrow1 : (rowAt C D k).length ≤ 1000000 := by rw [rowAt_length (by rw [Nat.add_mul, Nat.one_mul, ← HK.out]; exact hKn)]; omega
      have G1 := Lib.hid g1
      have G2 := Lib.hid g2
      have G3 := Lib.hid g3
      have hsz := hb.size
      simp only [size_alloc] at hsz
      have Hb1 := Lib.hid (show k + 1 ≤ maxLen by unfold maxLen; omega)
      have Hb2 := Lib.hid (show (k + 1) * 24 ≤ 140737488355328 by omega)
      clear g1 g2 g3 hlen hri hrow1
      go_wp2_with (at_builtin; fail)
      refine (clone_any _ _ _ Hri.out (by rw [rowAt_length (by rw [Nat.add_mul, Nat.one_mul, ← HK.out]; exact hKn)]; omega)).mono ?_
      rintro e w1 ⟨u, rfl, ho, hb1⟩
      obtain ⟨up, ucap, rfl, _, _⟩ := ho.shape
      have Ho := Lib.hid ho
      have G1' := Lib.hid fun o => (G1.out.below hb1).below (below_alloc w1 o)
      have hsz1 := hb1.size
      have Hb := Lib.hid hb
      have Hb1' := Lib.hid hb1
      clear ho r1 r2 hb hb1 c0 c1 c2 c3 cf hz
      go_wp2_with (at_builtin; go_must (refine wpList_append_F rfl (.tmp 11) (.tmp 25) 30 rfl 24 (.slice none 0 0) 24 Try.underlying30 info_sl rfl (w.heap.size + 1) wr.heap.size u3 k f rfl (G1'.out _) (by simp; omega) (by simp; omega) _ _ _ rfl (rd_one _ _ _ rfl) (fun j _ => rfl) Hb1.out Hb2.out ?_; intro v' w' ho' hg'))
      have hs := hg'.size
      simp only [size_alloc] at hs
      go_roundg (R - (k + 1))
      case measure => omega
      case rel =>
        refine ⟨k + 1, by omega, rfl, by go_num, (Hb.out.trans ((Hb1'.out.trans (below_alloc w1 _ |>.mono hsz1)).mono hsz)).trans (grownBy_below hg' (G1'.out default).blocks (Nat.le_refl _) (by simp; omega)), ?_⟩
        have ht : (rowsOf R C D).take (k + 1) = (rowsOf R C D).take k ++ [rowAt C D k] := by
          rw [List.take_succ_eq_append_getElem (by rw [rowsOf_length]; exact hlt)]
          simp [rowsOf]
        rw [ht]
        refine OwnII.snoc (mid := wr.heap.size) (hi := w1.heap.size) (f := f) ?_ ?_ ?_ (Ho.out.below (below_alloc w1 _)) (by omega) hsz1 (by decide) hg' (by omega) ?_
        · rw [Hlen.out]; exact G1'.out _
        · rw [Hlen.out]; exact fun i hi => ((G2.out i hi).below Hb1'.out).below (below_alloc w1 _)
        · rw [Hlen.out]; exact G3.out
        · rw [Hlen.out]; exact ho'
    · obtain rfl : k = R := by omega
      rw [List.take_of_length_le (by rw [rowsOf_length]; exact Nat.le_refl _)] at g1 g2 g3
      have HII := Lib.hid (show OwnII 24 3 wr (w.heap.size + 1) wr.heap.size u3 (rowsOf k C D) from ⟨f, g1, g2, g3⟩)
      clear g1 g2 g3
      go_wp2_with fail
      go_ret
      exact ⟨_, rfl, HII.out.mono (by omega) (Nat.le_refl _), (below_alloc w _).trans (hb.mono (by omega))⟩

end Go.Proofs.Ytpfefjdefopccaa

namespace Go.Proofs.Ytpfefjdefopccaa
set_option linter.all false
open Go.RowKit

/-- a multiple of a row added to another one, number by number, modulo p -/
def addRowL (p k : Int) (xs ys : List Int) : List Int := (List.range xs.length).map fun (j : Nat) => (xs.getD j 0 + k * ys.getD j 0) % p
theorem addRowL_length (p k : Int) (xs ys : List Int) : (addRowL p k xs ys).length = xs.length := by simp [addRowL]
theorem addRowL_getD {p k : Int} {xs ys : List Int} {j : Nat} (h : j < xs.length) : (addRowL p k xs ys).getD j 0 = (xs.getD j 0 + k * ys.getD j 0) % p := by
  simp [addRowL, List.getD_eq_getElem?_getD, h]

/-- all numbers small, none below 0 -/
def Small (xs : List Int) : Prop := ∀ x ∈ xs, 0 ≤ x ∧ x ≤ 1000
theorem Small.at_ {xs : List Int} (h : Small xs) (j : Nat) : 0 ≤ xs.getD j 0 ∧ xs.getD j 0 ≤ 1000 := by
  by_cases hj : j < xs.length
  · exact h _ (getD_mem hj)
  · simp [List.getD_eq_getElem?_getD, show xs[j]? = none by simp; omega]

theorem grownBy_frm {w w' : World} {v : Value} {lo hi : Nat} (h : w.grownBy w' v.ownBlock) (hlo : ∀ k, v.ownBlock = some k → lo ≤ k ∧ k < hi) : Frm lo hi w w' :=
  ⟨h.os, h.tape, h.output, h.size, fun k hk ho => h.block k hk fun e => by have := hlo k e.symm; omega⟩

set_option maxRecDepth 100000 in
set_option maxHeartbeats 1000000 in
theorem addRow_any (v u : Value) (xs ys : List Int) (k p : Int) (lo hi : Nat) (w : World) (h : OwnI 3 w lo hi v xs) (hu : Ints w u ys) (hne : ∀ b, v.ownBlock = some b → u.ownBlock ≠ some b)
    (hl : xs.length ≤ ys.length) (hxs : Small xs) (hys : Small ys) (hk : 0 ≤ k ∧ k ≤ 1000) (hp : 1 ≤ p ∧ p ≤ 1000) :
    Calls Try.prog 49 #[v, .int .i64 k, u, .int .i64 p] w fun e w' => e = .returned (.tuple #[]) ∧ OwnI 3 w' lo hi v (addRowL p k xs ys) ∧ w.grownBy w' v.ownBlock := by
  obtain ⟨a, cap, rfl, hnc, hcm, _⟩ := h.fn.shape
  unfold maxLen at hcm
  obtain ⟨q, capu, rfl, ⟨hu1, hu2⟩, huc⟩ := hu
  unfold maxLen at hu2
  have Hf := Lib.hid h.fn
  have Hne := Lib.hid hne
  have Huc := Lib.hid huc
  have Hk := Lib.hid hk
  have Hp := Lib.hid hp
  have Hxs := Lib.hid hxs
  have Hys := Lib.hid hys
  clear hne huc hk hp hxs hys h
  go_enter Try.func49, Try.ntmps49
  go_wp2_with fail
  go_loopg [11] xs.length (fun g i wr => ∃ j : Nat, j ≤ xs.length ∧ g = xs.length - j ∧ i = .int .i64 j ∧ World.grownBy w wr (Value.ownBlock (.slice a xs.length cap)) ∧
    OwnF wr lo hi 3 (.slice a xs.length cap) xs.length (fun t => if t < j then .int .i64 ((xs.getD t 0 + k * ys.getD t 0) % p) else iv xs t))
  case atStart => exact ⟨0, Nat.zero_le _, rfl, rfl, World.grownBy.refl _ _, Hf.out.congr fun t _ => by simp⟩
  case round =>
    obtain ⟨j, hj, rfl, rfl, hg, hr⟩ := hrel
    by_cases hlt : j < xs.length
    · obtain ⟨g, rfl, hg1, hg2, hg3⟩ := hr.at_ (by omega)
      obtain ⟨b, off, rfl, hc⟩ := Huc.out (by omega)
      have hbg : b ≠ g := fun e => Hne.out g rfl (by simp [Value.ownBlock, e])
      obtain ⟨x, hx⟩ : ∃ x, x = xs.getD j 0 := ⟨_, rfl⟩
      obtain ⟨y, hy⟩ : ∃ y, y = ys.getD j 0 := ⟨_, rfl⟩
      have c1 : wr.cell? ⟨g, j, none⟩ = some (.int .i64 x) := by rw [hr.cell hlt]; simp [iv, hx]
      have c2 : wr.cell? ⟨b, off + j, none⟩ = some (.int .i64 y) := by
        have h0 := hc j (by omega)
        rw [World.cell?_of_block (w := w) (hg.block b (World.block_lt_of_cell? _ _ h0) (by simp [Value.ownBlock]; exact hbg)), h0, iv, hy]
      have c3 := hr.frozen j
      have hju : j < ys.length := by omega
      have sx := Hxs.out.at_ j
      have sy := Hys.out.at_ j
      rw [← hx] at sx
      rw [← hy] at sy
      have hkk := Hk.out
      have hpp := Hp.out
      have hm0 : 0 ≤ k * y := Int.mul_nonneg hkk.1 sy.1
      have hm1 : k * y ≤ 1000 * 1000 := Int.mul_le_mul hkk.2 sy.2 sy.1 (by omega)
      have b1 : -1000000000000000000 ≤ k * y := by omega
      have b2 : k * y ≤ 1000000000000000000 := by omega
      have b3 : -1000000000000000000 ≤ x + k * y := by omega
      have b4 : x + k * y ≤ 1000000000000000000 := by omega
      have hnn : 0 ≤ x + k * y := by omega
      have hp0 : ¬ p = 0 := by omega
      have e1 : Int.tmod (x + k * y) p = (x + k * y) % p := Int.tmod_eq_emod_of_nonneg hnn
      have b5 : 0 ≤ (x + k * y) % p := Int.emod_nonneg _ (by omega)
      have b6 : (x + k * y) % p < p := Int.emod_lt_of_pos _ (by omega)
      have b7 : -1000000000000000000 ≤ (x + k * y) % p := by omega
      have b8 : (x + k * y) % p ≤ 1000000000000000000 := by omega
      have Hx := Lib.hid hx
      have Hy := Lib.hid hy
      have E1 := Lib.hid e1
      have Hg := Lib.hid hg
      have Hr := Lib.hid hr
      have f1 := k64 b1 b2
      have f2 := k64 b3 b4
      have f3 := k64 b7 b8
      clear hx hy hc sx sy hm0 hm1 b1 b2 b3 b4 b5 b6 b7 b8 hg hr e1 hkk hpp
      go_wp2_with fail
      go_still_tail 16, (by kernel_rfl)
      change wpList _ _ _ _ _ wr.drew
      clear f1 f2 f3
      go_wp2_with fail
      go_roundg (xs.length - (j + 1))
      case measure => omega
      case rel =>
        refine ⟨j + 1, by omega, rfl, by go_num, ?_, OwnF.congr (f := fun t => if t = j then .int .i64 ((x + k * y) % p) else if t < j then .int .i64 ((xs.getD t 0 + k * ys.getD t 0) % p) else iv xs t) ?_ fun t ht => ?_⟩
        · exact ⟨Hg.out.os, Hg.out.tape, Hg.out.output, by simpa [World.setCell] using Hg.out.size, fun i hi hne => (Below.heap_setCell _ _ _ _ (by simpa [Value.ownBlock] using hne)).trans (Hg.out.block i hi hne)⟩
        · exact (Hr.out.set j _).keep fun _ _ _ _ => rfl
        · by_cases e : t = j
          · subst e
            simp only [if_true, show t < t + 1 by omega]
            rw [Hx.out, Hy.out]
          · by_cases e2 : t < j
            · simp only [e, if_false, e2, if_true, show t < j + 1 by omega]
            · simp only [e, if_false, e2, show ¬ t < j + 1 by omega]
    · go_wp2_with fail
      go_end0
      refine ⟨rfl, OwnF.ints ?_, hg⟩
      obtain rfl : j = xs.length := by omega
      rw [addRowL_length]
      exact hr.congr fun t ht => by simp only [ht, if_true]; rw [iv, addRowL_getD ht]

end Go.Proofs.Ytpfefjdefopccaa

namespace Go.Proofs.Ytpfefjdefopccaa
set_option linter.all false
open Go.RowKit

/-- the first place with a number other than 0; -1: none -/
def pivL (xs : List Int) : Int := if xs.findIdx (fun x => x != 0) < xs.length then (xs.findIdx (fun x => x != 0) : Nat) else -1
theorem pivL_at {xs : List Int} {k : Nat} (hk : k < xs.length) (h1 : xs.getD k 0 ≠ 0) (h0 : ∀ j, j < k → xs.getD j 0 = 0) : pivL xs = k := by
  have e : xs.findIdx (fun x => x != 0) = k := by
    rw [List.findIdx_eq hk]
    refine ⟨?_, fun j hj => ?_⟩
    · rw [List.getD_eq_getElem?_getD, List.getElem?_eq_getElem hk, Option.getD_some] at h1
      simpa using h1
    · have := h0 j hj
      rw [List.getD_eq_getElem?_getD, List.getElem?_eq_getElem (by omega), Option.getD_some] at this
      simpa using this
  unfold pivL
  rw [e, if_pos hk]
theorem pivL_none {xs : List Int} (h0 : ∀ j, j < xs.length → xs.getD j 0 = 0) : pivL xs = -1 := by
  have e : xs.findIdx (fun x => x != 0) = xs.length := by
    rw [List.findIdx_eq_length]
    intro x hx
    obtain ⟨j, hj, rfl⟩ := List.mem_iff_getElem.1 hx
    have := h0 j hj
    rw [List.getD_eq_getElem?_getD, List.getElem?_eq_getElem hj, Option.getD_some] at this
    simpa using this
  unfold pivL
  rw [e, if_neg (by omega)]
theorem pivL_cases (xs : List Int) : (pivL xs = -1 ∧ ∀ j, j < xs.length → xs.getD j 0 = 0) ∨ ∃ k, pivL xs = (k : Nat) ∧ k < xs.length ∧ xs.getD k 0 ≠ 0 ∧ ∀ j, j < k → xs.getD j 0 = 0 := by
  by_cases h : ∃ k, k < xs.length ∧ xs.getD k 0 ≠ 0
  · have : ∃ k, k < xs.length ∧ xs.getD k 0 ≠ 0 ∧ ∀ j, j < k → xs.getD j 0 = 0 := by
      obtain ⟨k, hk, h1⟩ := h
      induction k using Nat.strongRecOn with
      | _ k ih =>
        by_cases h2 : ∃ j, j < k ∧ xs.getD j 0 ≠ 0
        · obtain ⟨j, hj, h3⟩ := h2
          exact ih j hj (by omega) h3
        · exact ⟨k, hk, h1, fun j hj => Classical.byContradiction fun h3 => h2 ⟨j, hj, h3⟩⟩
    obtain ⟨k, hk, h1, h2⟩ := this
    exact .inr ⟨k, pivL_at hk h1 h2, hk, h1, h2⟩
  · have h0 : ∀ j, j < xs.length → xs.getD j 0 = 0 := fun j hj => Classical.byContradiction fun h3 => h ⟨j, hj, h3⟩
    exact .inl ⟨pivL_none h0, h0⟩

set_option maxRecDepth 100000 in
set_option maxHeartbeats 1000000 in
theorem indexNz_any (v : Value) (xs : List Int) (w : World) (h : Ints w v xs) :
    Calls Try.prog 58 #[v, .func (.func 59) #[] #[]] w fun e w' => e = .returned (.int .i64 (pivL xs)) ∧ Qt w w' := by
  obtain ⟨p, cap, rfl, ⟨hx1, hx⟩, hxc⟩ := h
  unfold maxLen at hx
  go_enter Try.func58, Try.ntmps58
  go_wp2
  go_loopg [5, 8] xs.length (fun g s5 i wr => ∃ k : Nat, k ≤ xs.length ∧ g = xs.length - k ∧ i = .int .i64 k ∧ Qt w wr ∧ Hid (∀ j, j < k → xs.getD j 0 = 0))
  case atStart => exact ⟨0, Nat.zero_le _, rfl, rfl, Qt.refl _, fun j hj => absurd hj (Nat.not_lt_zero _)⟩
  case round =>
    obtain ⟨k, hk, rfl, rfl, hq, hp⟩ := hrel
    by_cases hlt : k < xs.length
    · obtain ⟨b, off, rfl, hc⟩ := hxc (by omega)
      have c1 := hq.cell (hc k hlt)
      unfold iv at c1
      generalize hy : xs.getD k 0 = y at c1
      have Hy := Lib.hid hy
      clear hxc hc hy
      by_cases e : y = 0
      · subst e
        go_wp2
        go_roundg (xs.length - (k + 1))
        case measure => omega
        case rel =>
          refine ⟨k + 1, by omega, rfl, by go_num, hq, fun j hj => ?_⟩
          by_cases e : j = k
          · subst e; exact Hy.out
          · exact hp.out j (by omega)
      · have he : (y != 0) = true := by simp [e]
        go_wp2
        go_ret
        have h1 : pivL xs = k := pivL_at hlt (by rw [Hy.out]; exact e) hp.out
        rw [h1]
        exact ⟨rfl, hq⟩
    · go_wp2
      go_ret
      obtain rfl : k = xs.length := by omega
      rw [pivL_none hp.out]
      exact ⟨rfl, hq⟩

set_option maxRecDepth 100000 in
theorem pivot_any (v : Value) (xs : List Int) (w : World) (h : Ints w v xs) :
    Calls Try.prog 50 #[v] w fun e w' => e = .returned (.int .i64 (pivL xs)) ∧ Qt w w' := by
  have hn := indexNz_any v xs w h
  generalize pivL xs = r at hn
  obtain ⟨p, cap, rfl, ⟨hx1, hx⟩, hxc⟩ := h
  have Hn := Lib.hid hn
  clear hn hxc
  go_enter Try.func50, Try.ntmps50
  go_wp2_with fail
  refine Hn.out.mono ?_
  rintro e w1 ⟨rfl, hq⟩
  go_wp2_with fail
  go_ret
  exact ⟨rfl, hq⟩

theorem inv_ex {p x : Int} (hp : primeOk p = true) (h0 : 0 < x) (h1 : x < p) : ∃ k : Int, 1 ≤ k ∧ k < p ∧ k * x % p = 1 := by
  rcases of_decide_eq_true hp with rfl | rfl | rfl | rfl
  · obtain rfl : x = 1 := by omega
    exact ⟨1, by decide⟩
  · rcases (show x = 1 ∨ x = 2 by omega) with rfl | rfl
    · exact ⟨1, by decide⟩
    · exact ⟨2, by decide⟩
  · rcases (show x = 1 ∨ x = 2 ∨ x = 3 ∨ x = 4 by omega) with rfl | rfl | rfl | rfl
    · exact ⟨1, by decide⟩
    · exact ⟨3, by decide⟩
    · exact ⟨2, by decide⟩
    · exact ⟨4, by decide⟩
  · rcases (show x = 1 ∨ x = 2 ∨ x = 3 ∨ x = 4 ∨ x = 5 ∨ x = 6 by omega) with rfl | rfl | rfl | rfl | rfl | rfl
    · exact ⟨1, by decide⟩
    · exact ⟨4, by decide⟩
    · exact ⟨5, by decide⟩
    · exact ⟨2, by decide⟩
    · exact ⟨3, by decide⟩
    · exact ⟨6, by decide⟩

/-- reads, then changes of one block -/
theorem grown_qt {w w1 w2 : World} {o : Option Nat} (hq : Qt w w1) (hg : w1.grownBy w2 o) : w.grownBy w2 o := by
  have hb := hq.below 0
  have hs := hq.size
  have hh := hq.heap
  exact ⟨hg.os.trans hb.os, hg.tape.trans hb.tape, hg.output.trans hb.output, by have := hg.size; omega, fun k hk hne => by rw [hg.block k (by omega) hne, hh]⟩

def scaleL (p k : Int) (xs : List Int) : List Int := (List.range xs.length).map fun (j : Nat) => (k * xs.getD j 0) % p
theorem scaleL_length (p k : Int) (xs : List Int) : (scaleL p k xs).length = xs.length := by simp [scaleL]
theorem scaleL_getD {p k : Int} {xs : List Int} {j : Nat} (h : j < xs.length) : (scaleL p k xs).getD j 0 = (k * xs.getD j 0) % p := by
  simp [scaleL, List.getD_eq_getElem?_getD, h]

set_option maxRecDepth 100000 in
set_option maxHeartbeats 1000000 in
theorem scaledTo1_any (v : Value) (xs : List Int) (p : Int) (K : Nat) (lo hi : Nat) (w : World) (h : OwnI 3 w lo hi v xs) (hxs : ∀ j, 0 ≤ xs.getD j 0 ∧ xs.getD j 0 < p) (hp : primeOk p = true) (hK : pivL xs = K) (hKl : K < xs.length) (hK0 : xs.getD K 0 ≠ 0) :
    Calls Try.prog 51 #[v, .int .i64 p] w fun e w' => ∃ k : Int, e = .returned (.tuple #[]) ∧ 1 ≤ k ∧ k < p ∧ k * xs.getD K 0 % p = 1 ∧ OwnI 3 w' lo hi v (scaleL p k xs) ∧ w.grownBy w' v.ownBlock := by
  obtain ⟨a, cap, rfl, hnc, hcm, _⟩ := h.fn.shape
  unfold maxLen at hcm
  obtain ⟨hp2, hp7⟩ := primeOk_range hp
  obtain ⟨x, hx⟩ : ∃ x, x = xs.getD K 0 := ⟨_, rfl⟩
  have hx0 := hxs K
  rw [← hx] at hx0
  obtain ⟨k0, hk1, hk2, hk3⟩ := inv_ex hp (show 0 < x by omega) hx0.2
  have hpiv := pivot_any _ xs w h.ints
  rw [hK] at hpiv
  have Hpiv := Lib.hid hpiv
  obtain ⟨g', rfl, hg1, hg2, hg3⟩ := h.fn.at_ (show 0 < xs.length by omega)
  have c1 : w.cell? ⟨g', K, none⟩ = some (.int .i64 x) := by rw [h.fn.cell hKl]; simp [iv, hx]
  have Hf := Lib.hid h.fn
  have Hxs := Lib.hid hxs
  have Hx := Lib.hid hx
  have Hk3 := Lib.hid hk3
  have C1 := Lib.hid c1
  clear hxs hx hp hk3 h hK hK0 hpiv c1
  go_enter Try.func51, Try.ntmps51
  go_wp2_with fail
  refine Hpiv.out.mono ?_
  rintro e w1 ⟨rfl, hq⟩
  have c1 := hq.cell C1.out
  have Hq := Lib.hid hq
  clear hq
  go_wp2_with fail
  obtain ⟨k0n, rfl⟩ := Int.eq_ofNat_of_zero_le (show (0 : Int) ≤ k0 by omega)
  go_loopg [5] (k0n - 1) (fun g s5 wr => ∃ k : Nat, 1 ≤ k ∧ k ≤ k0n ∧ g = k0n - k ∧ s5 = .int .i64 k ∧ wr = w1)
  case atStart => exact ⟨1, Nat.le_refl _, by omega, rfl, rfl, rfl⟩
  case round =>
    obtain ⟨k, hka, hkb, rfl, rfl, rfl⟩ := hrel
    have hm0 : 0 ≤ (k : Int) * x := Int.mul_nonneg (by omega) (by omega)
    have hm1 : (k : Int) * x ≤ 7 * 7 := Int.mul_le_mul (by omega) (by omega) (by omega) (by omega)
    by_cases he : (k : Int) * x % p = 1
    · have he2 : ((k : Int) * x % p != 1) = false := by simpa using he
      have hp0 : ¬ p = 0 := by omega
      have e1 : Int.tmod ((k : Int) * x) p = (k : Int) * x % p := Int.tmod_eq_emod_of_nonneg hm0
      have b5 : 0 ≤ (k : Int) * x % p := Int.emod_nonneg _ (by omega)
      have b6 : (k : Int) * x % p < p := Int.emod_lt_of_pos _ (by omega)
      have He := Lib.hid he
      have H1 := Lib.hid (Hf.out.below (Hq.out.below _))
      clear he
      go_wp2_with fail
      clear e1 b5 b6 he2 hm0 hm1 c1
      obtain ⟨wo, rfl⟩ : ∃ x : World, x = wr := ⟨_, rfl⟩
      go_loopg [6, 22] xs.length (fun g s6 i wr => ∃ j : Nat, j ≤ xs.length ∧ g = xs.length - j ∧ i = .int .i64 j ∧ World.grownBy wo wr (Value.ownBlock (.slice (some ⟨g', 0, none⟩) xs.length cap)) ∧
        OwnF wr lo hi 3 (.slice (some ⟨g', 0, none⟩) xs.length cap) xs.length (fun t => if t < j then .int .i64 (((k : Int) * xs.getD t 0) % p) else iv xs t))
      case atStart => exact ⟨0, Nat.zero_le _, rfl, rfl, World.grownBy.refl _ _, H1.out.congr fun t _ => by simp⟩
      case round =>
        obtain ⟨j, hj, rfl, rfl, hg, hr⟩ := hrel
        by_cases hlt : j < xs.length
        · obtain ⟨y, hy⟩ : ∃ y, y = xs.getD j 0 := ⟨_, rfl⟩
          have c1 : wr.cell? ⟨g', j, none⟩ = some (.int .i64 y) := by rw [hr.cell hlt]; simp [iv, hy]
          have c3 := hr.frozen j
          have sy := Hxs.out j
          rw [← hy] at sy
          have hm0 : 0 ≤ (k : Int) * y := Int.mul_nonneg (by omega) sy.1
          have hm1 : (k : Int) * y ≤ 7 * 7 := Int.mul_le_mul (by omega) (by omega) (by omega) (by omega)
          have e1 : Int.tmod ((k : Int) * y) p = (k : Int) * y % p := Int.tmod_eq_emod_of_nonneg hm0
          have b5 : 0 ≤ (k : Int) * y % p := Int.emod_nonneg _ (by omega)
          have b6 : (k : Int) * y % p < p := Int.emod_lt_of_pos _ (by omega)
          have Hy := Lib.hid hy
          have Hg := Lib.hid hg
          have Hr := Lib.hid hr
          clear hy hg hr
          go_wp2_with fail
          go_roundg (xs.length - (j + 1))
          case measure => omega
          case rel =>
            refine ⟨j + 1, by omega, rfl, by go_num, ?_, OwnF.congr (f := fun t => if t = j then .int .i64 (((k : Int) * y) % p) else if t < j then .int .i64 (((k : Int) * xs.getD t 0) % p) else iv xs t) ?_ fun t ht => ?_⟩
            · exact ⟨Hg.out.os, Hg.out.tape, Hg.out.output, by simpa [World.setCell] using Hg.out.size, fun i hi hne => (Below.heap_setCell _ _ _ _ (by simpa [Value.ownBlock] using hne)).trans (Hg.out.block i hi hne)⟩
            · exact Hr.out.set j _
            · by_cases e : t = j
              · subst e
                simp only [if_true, show t < t + 1 by omega]
                rw [Hy.out]
              · by_cases e2 : t < j
                · simp only [e, if_false, e2, if_true, show t < j + 1 by omega]
                · simp only [e, if_false, e2, show ¬ t < j + 1 by omega]
        · go_wp2_with fail
          go_end0
          refine ⟨k, rfl, by omega, by omega, by rw [← Hx.out]; exact He.out, OwnF.ints ?_, ?_⟩
          · obtain rfl : j = xs.length := by omega
            rw [scaleL_length]
            exact hr.congr fun t ht => by simp only [ht, if_true]; rw [iv, scaleL_getD ht]
          · exact grown_qt Hq.out hg
    · have hlt : k < k0n := by
        rcases Nat.lt_or_ge k k0n with h1 | h1
        · exact h1
        · exact absurd (by rw [show k = k0n by omega]; exact Hk3.out) he
      have he2 : ((k : Int) * x % p != 1) = true := by simpa using he
      have hp0 : ¬ p = 0 := by omega
      have e1 : Int.tmod ((k : Int) * x) p = (k : Int) * x % p := Int.tmod_eq_emod_of_nonneg hm0
      have b5 : 0 ≤ (k : Int) * x % p := Int.emod_nonneg _ (by omega)
      have b6 : (k : Int) * x % p < p := Int.emod_lt_of_pos _ (by omega)
      clear he
      go_wp2_with fail
      go_roundg (k0n - (k + 1))
      case measure => omega
      case rel => exact ⟨k + 1, by omega, by omega, rfl, by go_num, rfl⟩

end Go.Proofs.Ytpfefjdefopccaa

namespace Go.Proofs.Ytpfefjdefopccaa
set_option linter.all false

/-- the number at row i, column j of a list of rows -/
def mt (out : List (List Int)) (i j : Nat) : Int := (out.getD i []).getD j 0
def RowOk (p : Int) (C : Nat) (r : List Int) : Prop := r.length = C ∧ ∀ j, 0 ≤ r.getD j 0 ∧ r.getD j 0 < p
def RowsOk (p : Int) (C : Nat) (out : List (List Int)) : Prop := ∀ i, i < out.length → RowOk p C (out.getD i [])

theorem mt_snoc_lt {out : List (List Int)} {r : List Int} {i : Nat} (h : i < out.length) : mt (out ++ [r]) i = mt out i := by
  funext j
  simp [mt, List.getD_eq_getElem?_getD, List.getElem?_append_left h]
theorem mt_snoc_at (out : List (List Int)) (r : List Int) : mt (out ++ [r]) out.length = fun j => r.getD j 0 := by
  funext j
  simp [mt, List.getD_eq_getElem?_getD]
theorem getD_snoc_lt {out : List (List Int)} {r : List Int} {i : Nat} (h : i < out.length) : (out ++ [r]).getD i [] = out.getD i [] := by
  simp [List.getD_eq_getElem?_getD, List.getElem?_append_left h]
theorem getD_snoc_at (out : List (List Int)) (r : List Int) : (out ++ [r]).getD out.length [] = r := by simp [List.getD_eq_getElem?_getD]
theorem RowsOk.snoc {p : Int} {C : Nat} {out : List (List Int)} {r : List Int} (h : RowsOk p C out) (hr : RowOk p C r) : RowsOk p C (out ++ [r]) := fun i hi => by
  rw [List.length_append, List.length_singleton] at hi
  by_cases e : i < out.length
  · rw [getD_snoc_lt e]; exact h i e
  · obtain rfl : i = out.length := by omega
    rw [getD_snoc_at]; exact hr
theorem RowOk.small {p : Int} {C : Nat} {r : List Int} (h : RowOk p C r) (hp : p ≤ 7) : Small r := fun x hx => by
  obtain ⟨j, hj, rfl⟩ := List.mem_iff_getElem.1 hx
  have := h.2 j
  rw [List.getD_eq_getElem?_getD, List.getElem?_eq_getElem hj, Option.getD_some] at this
  omega
theorem getD_out {xs : List Int} {j : Nat} (h : xs.length ≤ j) : xs.getD j 0 = 0 := by
  simp [List.getD_eq_getElem?_getD, h]
theorem addRowL_ok {p k : Int} {C : Nat} {xs ys : List Int} (hp : 2 ≤ p) (h : xs.length = C) : RowOk p C (addRowL p k xs ys) := by
  refine ⟨by rw [addRowL_length, h], fun j => ?_⟩
  by_cases hj : j < xs.length
  · rw [addRowL_getD hj]
    exact ⟨Int.emod_nonneg _ (by omega), Int.emod_lt_of_pos _ (by omega)⟩
  · rw [getD_out (by rw [addRowL_length]; omega)]
    omega
theorem scaleL_ok {p k : Int} {C : Nat} {xs : List Int} (hp : 2 ≤ p) (h : xs.length = C) : RowOk p C (scaleL p k xs) := by
  refine ⟨by rw [scaleL_length, h], fun j => ?_⟩
  by_cases hj : j < xs.length
  · rw [scaleL_getD hj]
    exact ⟨Int.emod_nonneg _ (by omega), Int.emod_lt_of_pos _ (by omega)⟩
  · rw [getD_out (by rw [scaleL_length]; omega)]
    omega
theorem addRowL_eqv {p k : Int} {C : Nat} {xs ys : List Int} (h : xs.length = C) : Eqv p C (fun j => (addRowL p k xs ys).getD j 0) (fun j => xs.getD j 0 + k * ys.getD j 0) := fun j hj => by
  dsimp only
  rw [addRowL_getD (by omega)]
  exact Eqv.emod (p := p) (C := C) (fun j => xs.getD j 0 + k * ys.getD j 0) j hj
theorem scaleL_eqv {p k : Int} {C : Nat} {xs : List Int} (h : xs.length = C) : Eqv p C (fun j => (scaleL p k xs).getD j 0) (fun j => k * xs.getD j 0) := fun j hj => by
  dsimp only
  rw [scaleL_getD (by omega)]
  exact Eqv.emod (p := p) (C := C) (fun j => k * xs.getD j 0) j hj

/-- cur is a row r less multiples of the rows of out, with 0 in the first t columns -/
structure El (p : Int) (C : Nat) (out : List (List Int)) (q : Nat → Nat) (r cur : List Int) (t : Nat) : Prop where
  ok : RowOk p C cur
  zero : ∀ i, i < t → cur.getD (q i) 0 = 0
  same : SameSp p C (out.length + 1) (mt (out ++ [r])) (out.length + 1) (mt (out ++ [cur]))

theorem El.step {p : Int} {C : Nat} {out : List (List Int)} {q : Nat → Nat} {r cur : List Int} {t : Nat} (hp : 2 ≤ p) (hr : Red p C out.length (mt out) q) (ht : t < out.length) (h : El p C out q r cur t) :
    El p C out q r (addRowL p (p - cur.getD (q t) 0) cur (out.getD t [])) (t + 1) := by
  refine ⟨addRowL_ok hp h.ok.1, fun i hi => ?_, h.same.trans (SameSp.elim t (by omega) (fun i => if i = out.length then p - cur.getD (q t) 0 else 0) ?_ ?_)⟩
  · have hC := hr.lt i (by omega)
    rw [addRowL_getD (by rw [h.ok.1]; exact hC)]
    have hu := hr.unit t i ht (by omega)
    unfold mt at hu
    rw [hu]
    by_cases e : t = i
    · subst e
      rw [if_pos rfl, Int.mul_one, show cur.getD (q t) 0 + (p - cur.getD (q t) 0) = p by omega, Int.emod_self]
    · rw [if_neg e, Int.mul_zero, h.zero i (by omega)]
      rfl
  · rw [mt_snoc_lt ht, mt_snoc_lt ht]; exact Eqv.refl _ _ _
  · intro i hi hne
    by_cases e : i = out.length
    · subst e
      rw [mt_snoc_at, mt_snoc_at, mt_snoc_lt ht]
      simp only [if_true]
      exact addRowL_eqv h.ok.1
    · simp only [e, if_false]
      rw [mt_snoc_lt (by omega), mt_snoc_lt (by omega)]
      exact .of_eq fun j _ => by omega
theorem El.start {p : Int} {C : Nat} {out : List (List Int)} {q : Nat → Nat} {r : List Int} (h : RowOk p C r) : El p C out q r r 0 := ⟨h, fun i hi => absurd hi (Nat.not_lt_zero _), .refl⟩

/-- nothing is left of the row -/
theorem El.none {p : Int} {C : Nat} {out : List (List Int)} {q : Nat → Nat} {r cur : List Int} {t : Nat} (h : El p C out q r cur t) (h0 : ∀ j, j < cur.length → cur.getD j 0 = 0) :
    SameSp p C (out.length + 1) (mt (out ++ [r])) out.length (mt out) := by
  refine h.same.trans ⟨fun i hi => ?_, fun i hi => ?_⟩
  · by_cases e : i = out.length
    · subst e
      rw [mt_snoc_at]
      exact Sp.zero.eqv (.of_eq fun j hj => by rw [h0 j (by rw [h.ok.1]; exact hj)])
    · rw [mt_snoc_lt (by omega)]; exact .row (by omega)
  · have : Sp p C (out.length + 1) (mt (out ++ [cur])) (mt (out ++ [cur]) i) := .row (by omega)
    rwa [mt_snoc_lt hi] at this

/-- every row less its multiple of s -/
def clearL (p : Int) (K : Nat) (out : List (List Int)) (s : List Int) (t : Nat) : List (List Int) :=
  (List.range out.length).map fun i => if i < t then addRowL p (p - (out.getD i []).getD K 0) (out.getD i []) s else out.getD i []
theorem clearL_length (p : Int) (K : Nat) (out : List (List Int)) (s : List Int) (t : Nat) : (clearL p K out s t).length = out.length := by simp [clearL]
theorem clearL_getD {p : Int} {K : Nat} {out : List (List Int)} {s : List Int} {t i : Nat} (h : i < out.length) :
    (clearL p K out s t).getD i [] = if i < t then addRowL p (p - (out.getD i []).getD K 0) (out.getD i []) s else out.getD i [] := by
  simp [clearL, List.getD_eq_getElem?_getD, h]
theorem clearL_zero (p : Int) (K : Nat) (out : List (List Int)) (s : List Int) : clearL p K out s 0 = out := by
  apply List.ext_getElem (by rw [clearL_length])
  intro i h1 h2
  simp [clearL, List.getD_eq_getElem?_getD, h2]

/-- what is left of the row is scaled, the other rows are cleared at its column, and it is put behind them -/
theorem El.more {p k : Int} {C K : Nat} {out : List (List Int)} {q : Nat → Nat} {r cur : List Int} (hp : 2 ≤ p) (hr : Red p C out.length (mt out) q) (ho : RowsOk p C out) (h : El p C out q r cur out.length)
    (hK : K < C) (hK0 : ∀ j, j < K → cur.getD j 0 = 0) (hKn : cur.getD K 0 ≠ 0) (hk : k * cur.getD K 0 % p = 1) :
    Red p C (out.length + 1) (mt (clearL p K out (scaleL p k cur) out.length ++ [scaleL p k cur])) (fun i => if i < out.length then q i else K) ∧
    RowsOk p C (clearL p K out (scaleL p k cur) out.length ++ [scaleL p k cur]) ∧
    SameSp p C (out.length + 1) (mt (out ++ [r])) (out.length + 1) (mt (clearL p K out (scaleL p k cur) out.length ++ [scaleL p k cur])) := by
  have hs : RowOk p C (scaleL p k cur) := scaleL_ok hp h.ok.1
  have hsg : ∀ j, j < C → (scaleL p k cur).getD j 0 = (k * cur.getD j 0) % p := fun j hj => scaleL_getD (by rw [h.ok.1]; exact hj)
  have hsz : ∀ i, i < out.length → (scaleL p k cur).getD (q i) 0 = 0 := fun i hi => by rw [hsg _ (hr.lt i hi), h.zero i hi, Int.mul_zero]; rfl
  have hs0 : ∀ j, j < K → (scaleL p k cur).getD j 0 = 0 := fun j hj => by rw [hsg _ (by omega), hK0 j hj, Int.mul_zero]; rfl
  have hs1 : (scaleL p k cur).getD K 0 = 1 := by rw [hsg _ hK, hk]
  have heqv := scaleL_eqv (p := p) (k := k) h.ok.1
  generalize scaleL p k cur = s at *
  have hl : (clearL p K out s out.length).length = out.length := clearL_length _ _ _ _ _
  have hrow : ∀ i, i < out.length → (clearL p K out s out.length ++ [s]).getD i [] = addRowL p (p - (out.getD i []).getD K 0) (out.getD i []) s := fun i hi => by
    rw [getD_snoc_lt (by rw [hl]; exact hi), clearL_getD hi, if_pos hi]
  have hlast : (clearL p K out s out.length ++ [s]).getD out.length [] = s := by
    have := getD_snoc_at (clearL p K out s out.length) s
    rwa [hl] at this
  have hval : ∀ i j, i < out.length → j < C → mt (clearL p K out s out.length ++ [s]) i j = (mt out i j + (p - mt out i K) * s.getD j 0) % p := fun i j hi hj => by
    unfold mt
    rw [hrow i hi, addRowL_getD (by rw [(ho i hi).1]; exact hj)]
  have hvl : ∀ j, mt (clearL p K out s out.length ++ [s]) out.length j = s.getD j 0 := fun j => by unfold mt; rw [hlast]
  have hqK : ∀ i, i < out.length → q i ≠ K := fun i hi e => hKn (by rw [← e]; exact h.zero i hi)
  have hrng : ∀ i j, i < out.length → 0 ≤ mt out i j ∧ mt out i j < p := fun i j hi => (ho i hi).2 j
  refine ⟨⟨fun i hi => ?_, fun i m hi hm => ?_, fun i j hi hj => ?_⟩, ?_, h.same.trans ?_⟩
  · by_cases e : i < out.length
    · simp only [e, if_true]; exact hr.lt i e
    · simp only [e, if_false]; exact hK
  · by_cases e : i < out.length
    · by_cases e2 : m < out.length
      · simp only [e2, if_true]
        rw [hval i _ e (hr.lt m e2), hsz m e2, Int.mul_zero, Int.add_zero, hr.unit i m e e2]
        by_cases e3 : i = m
        · rw [if_pos e3]; exact Int.emod_eq_of_lt (by omega) (by omega)
        · rw [if_neg e3]; rfl
      · simp only [e2, if_false]
        rw [hval i _ e hK, hs1, Int.mul_one, show mt out i K + (p - mt out i K) = p by omega, Int.emod_self, if_neg (by omega)]
    · obtain rfl : i = out.length := by omega
      rw [hvl]
      by_cases e2 : m < out.length
      · simp only [e2, if_true]
        rw [hsz m e2, if_neg (by omega)]
      · simp only [e2, if_false]
        rw [hs1, if_pos (by omega)]
  · by_cases e : i < out.length
    · simp only [e, if_true] at hj
      have hC := hr.lt i e
      rw [hval i j e (by omega), hr.lead i j e hj, Int.zero_add]
      by_cases e2 : j < K
      · rw [hs0 j e2, Int.mul_zero]; rfl
      · have : mt out i K = 0 := hr.lead i K e (by have := hqK i e; omega)
        rw [this, Int.sub_zero, Int.mul_emod_right]
    · obtain rfl : i = out.length := by omega
      simp only [Nat.lt_irrefl, if_false] at hj
      rw [hvl]; exact hs0 j hj
  · refine RowsOk.snoc (fun i hi => ?_) hs
    rw [hl] at hi
    rw [clearL_getD hi, if_pos hi]
    exact addRowL_ok hp (ho i hi).1
  · have h1 : SameSp p C (out.length + 1) (mt (out ++ [cur])) (out.length + 1) (mt (out ++ [s])) := by
      refine SameSp.scale out.length (by omega) k (cur.getD K 0) ?_ ?_ fun i hi hne => ?_
      · have := Int.dvd_self_sub_emod (x := k * cur.getD K 0) (m := p)
        rwa [hk] at this
      · rw [mt_snoc_at, mt_snoc_at]; exact heqv
      · rw [mt_snoc_lt (by omega), mt_snoc_lt (by omega)]; exact .refl _ _ _
    refine h1.trans (SameSp.elim out.length (by omega) (fun i => p - mt out i K) ?_ fun i hi hne => ?_)
    · rw [mt_snoc_at]; exact .of_eq fun j _ => hvl j
    · have hi' : i < out.length := by omega
      intro j hj
      rw [hval i j hi' hj, mt_snoc_lt hi', mt_snoc_at]
      exact Eqv.emod (p := p) (C := C) (fun j => mt out i j + (p - mt out i K) * s.getD j 0) j hj

/-- one row more on both sides -/
theorem SameSp.snoc {p : Int} {C k n : Nat} {M M' M'' : Nat → Nat → Int} (h : SameSp p C k M n M') (hk : Eqv p C (M k) (M'' n)) (hM : ∀ i, i < n → Eqv p C (M'' i) (M' i)) : SameSp p C (k + 1) M (n + 1) M'' := by
  have up : ∀ v, Sp p C n M' v → Sp p C (n + 1) M'' v := fun v hv => hv.trans fun i hi => (Sp.row (show i < n + 1 by omega)).eqv (hM i hi)
  have up2 : ∀ v, Sp p C k M v → Sp p C (k + 1) M v := fun v hv => hv.trans fun i hi => .row (by omega)
  refine ⟨fun i hi => ?_, fun i hi => ?_⟩
  · by_cases e : i < k
    · exact up _ (h.1 i e)
    · obtain rfl : i = k := by omega
      exact (Sp.row (show n < n + 1 by omega)).eqv hk.symm
  · by_cases e : i < n
    · exact (up2 _ (h.2 i e)).eqv (hM i e).symm
    · obtain rfl : i = n := by omega
      exact (Sp.row (show k < k + 1 by omega)).eqv hk

end Go.Proofs.Ytpfefjdefopccaa

namespace Go.Proofs.Ytpfefjdefopccaa
set_option linter.all false

/-- what holds when the first j columns are done, with n pivots q -/
structure L7I (P : Int) (C R : Nat) (M0 M : Nat → Nat → Int) (q : Nat → Nat) (n j : Nat) : Prop where
  le : n ≤ R
  rng : ∀ i c, i < R → c < C → 0 ≤ M i c ∧ M i c < P
  lt : ∀ k, k < n → q k < j
  asc : ∀ i k, i < k → k < n → q i < q k
  unit : ∀ i k, i < R → k < n → M i (q k) = if i = k then 1 else 0
  lead : ∀ i c, i < n → c < q i → M i c = 0
  zero : ∀ i c, n ≤ i → i < R → c < j → M i c = 0
  same : SameSp P C R M0 R M

theorem L7I.start {P : Int} {C R : Nat} {M : Nat → Nat → Int} {q : Nat → Nat} (h : ∀ i c, i < R → c < C → 0 ≤ M i c ∧ M i c < P) : L7I P C R M M q 0 0 :=
  ⟨Nat.zero_le _, h, fun k hk => absurd hk (Nat.not_lt_zero _), fun i k _ hk => absurd hk (Nat.not_lt_zero _), fun i k _ hk => absurd hk (Nat.not_lt_zero _), fun i c hi => absurd hi (Nat.not_lt_zero _), fun i c _ _ hc => absurd hc (Nat.not_lt_zero _), .refl⟩

/-- no number in this column from row n on -/
theorem L7I.skip {P : Int} {C R : Nat} {M0 M : Nat → Nat → Int} {q : Nat → Nat} {n j : Nat} (h : L7I P C R M0 M q n j) (h0 : ∀ i, n ≤ i → i < R → M i j = 0) : L7I P C R M0 M q n (j + 1) :=
  ⟨h.le, h.rng, fun k hk => by have := h.lt k hk; omega, h.asc, h.unit, h.lead, fun i c h1 h2 h3 => by
    by_cases e : c = j
    · subst e; exact h0 i h1 h2
    · exact h.zero i c h1 h2 (by omega), h.same⟩

/-- rows a and n in each other's place -/
def swM (a n : Nat) (M : Nat → Nat → Int) (i c : Nat) : Int := if i = a then M n c else if i = n then M a c else M i c
/-- row n, times v -/
def scM (P v : Int) (n : Nat) (M : Nat → Nat → Int) (i c : Nat) : Int := if i = n then (M n c * v) % P else M i c
/-- every other row less its multiple of row n -/
def elM (P : Int) (n j : Nat) (M : Nat → Nat → Int) (i c : Nat) : Int := if i = n then M n c else (M i c + (P - M i j) * M n c) % P

theorem swM_same {P : Int} {C R a n : Nat} (ha : a < R) (hn : n < R) (M : Nat → Nat → Int) : SameSp P C R M R (swM a n M) := by
  refine SameSp.perm (fun i => if i = a then n else if i = n then a else i) (fun i => if i = a then n else if i = n then a else i) (fun i hi => ?_) (fun i hi => ?_)
  · by_cases e : i = a
    · subst e
      simp only [if_true]
      refine ⟨hn, .of_eq fun j _ => ?_⟩
      unfold swM
      by_cases e2 : n = i
      · subst e2; simp
      · simp [e2]
    · by_cases e2 : i = n
      · subst e2
        simp only [e, if_false, if_true]
        exact ⟨ha, .of_eq fun j _ => by unfold swM; simp⟩
      · simp only [e, e2, if_false]
        exact ⟨hi, .of_eq fun j _ => by unfold swM; simp [e, e2]⟩
  · by_cases e : i = a
    · subst e
      simp only [if_true]
      exact ⟨hn, .of_eq fun j _ => by unfold swM; simp⟩
    · by_cases e2 : i = n
      · subst e2
        simp only [e, if_false, if_true]
        exact ⟨ha, .of_eq fun j _ => by unfold swM; simp [e]⟩
      · simp only [e, e2, if_false]
        exact ⟨hi, .of_eq fun j _ => by unfold swM; simp [e, e2]⟩

theorem L7I.step {P v : Int} {C R : Nat} {M0 M : Nat → Nat → Int} {q : Nat → Nat} {n j a : Nat} (hP : 2 ≤ P) (h : L7I P C R M0 M q n j) (hj : j < C) (ha1 : n ≤ a) (ha2 : a < R) (hv : M a j * v % P = 1) :
    L7I P C R M0 (elM P n j (scM P v n (swM a n M))) (fun k => if k < n then q k else j) (n + 1) (j + 1) := by
  have hn : n < R := by omega
  obtain ⟨M1, hM1⟩ : ∃ M1, M1 = swM a n M := ⟨_, rfl⟩
  have r1 : ∀ i c, i < R → c < C → 0 ≤ M1 i c ∧ M1 i c < P := fun i c hi hc => by
    rw [hM1]; unfold swM
    split
    · exact h.rng n c hn hc
    · split
      · exact h.rng a c ha2 hc
      · exact h.rng i c hi hc
  have u1 : ∀ i k, i < R → k < n → M1 i (q k) = if i = k then 1 else 0 := fun i k hi hk => by
    rw [hM1]; unfold swM
    have e1 := h.unit a k ha2 hk
    have e2 := h.unit n k hn hk
    rw [if_neg (by omega)] at e1 e2
    split
    · rw [e2, if_neg (by omega)]
    · split
      · rw [e1, if_neg (by omega)]
      · exact h.unit i k hi hk
  have z1 : ∀ i c, n ≤ i → i < R → c < j → M1 i c = 0 := fun i c h1 h2 h3 => by
    rw [hM1]; unfold swM
    split
    · exact h.zero n c (Nat.le_refl _) hn h3
    · split
      · exact h.zero a c ha1 ha2 h3
      · exact h.zero i c h1 h2 h3
  have l1 : ∀ i c, i < n → c < q i → M1 i c = 0 := fun i c h1 h2 => by
    rw [hM1]; unfold swM
    rw [if_neg (by omega), if_neg (by omega)]
    exact h.lead i c h1 h2
  have v1 : M1 n j * v % P = 1 := by
    have : M1 n j = M a j := by
      rw [hM1]; unfold swM
      by_cases e : n = a
      · subst e; simp
      · simp [e]
    rw [this, hv]
  have s1 : SameSp P C R M0 R M1 := h.same.trans (by rw [hM1]; exact swM_same ha2 hn M)
  rw [← hM1]
  clear hM1
  obtain ⟨M2, hM2⟩ : ∃ M2, M2 = scM P v n M1 := ⟨_, rfl⟩
  have e2 : ∀ i, i ≠ n → M2 i = M1 i := fun i hi => by funext c; rw [hM2]; simp [scM, hi]
  have n2 : ∀ c, M2 n c = (M1 n c * v) % P := fun c => by rw [hM2]; simp [scM]
  have r2 : ∀ i c, i < R → c < C → 0 ≤ M2 i c ∧ M2 i c < P := fun i c hi hc => by
    by_cases e : i = n
    · subst e; rw [n2]; exact ⟨Int.emod_nonneg _ (by omega), Int.emod_lt_of_pos _ (by omega)⟩
    · rw [e2 i e]; exact r1 i c hi hc
  have u2 : ∀ i k, i < R → k < n → M2 i (q k) = if i = k then 1 else 0 := fun i k hi hk => by
    by_cases e : i = n
    · subst e; rw [n2, u1 i k hi hk, if_neg (by omega), Int.zero_mul]; rfl
    · rw [e2 i e]; exact u1 i k hi hk
  have z2 : ∀ i c, n ≤ i → i < R → c < j → M2 i c = 0 := fun i c h1 h2 h3 => by
    by_cases e : i = n
    · subst e; rw [n2, z1 i c h1 h2 h3, Int.zero_mul]; rfl
    · rw [e2 i e]; exact z1 i c h1 h2 h3
  have l2 : ∀ i c, i < n → c < q i → M2 i c = 0 := fun i c h1 h2 => by rw [e2 i (by omega)]; exact l1 i c h1 h2
  have v2 : M2 n j = 1 := by rw [n2, v1]
  have s2 : SameSp P C R M0 R M2 := by
    refine s1.trans (SameSp.scale n hn v (M1 n j) ?_ ?_ fun i _ hi => by rw [e2 i hi]; exact .refl _ _ _)
    · have := Int.dvd_self_sub_emod (x := M1 n j * v) (m := P)
      rw [v1] at this
      rwa [Int.mul_comm] at this
    · intro c _
      rw [n2, Int.mul_comm]
      exact Eqv.emod (p := P) (C := c + 1) (fun c => v * M1 n c) c (Nat.lt_succ_self _)
  rw [← hM2]
  clear hM2
  obtain ⟨M3, hM3⟩ : ∃ M3, M3 = elM P n j M2 := ⟨_, rfl⟩
  have n3 : ∀ c, M3 n c = M2 n c := fun c => by rw [hM3]; simp [elM]
  have e3 : ∀ i c, i ≠ n → M3 i c = (M2 i c + (P - M2 i j) * M2 n c) % P := fun i c hi => by rw [hM3]; simp [elM, hi]
  have u3 : ∀ i k, i < R → k < n → M3 i (q k) = if i = k then 1 else 0 := fun i k hi hk => by
    by_cases e : i = n
    · subst e; rw [n3]; exact u2 i k hi hk
    · rw [e3 i _ e, u2 i k hi hk, u2 n k hn hk, if_neg (show ¬ n = k by omega), Int.mul_zero, Int.add_zero]
      by_cases e4 : i = k
      · rw [if_pos e4]; exact Int.emod_eq_of_lt (by omega) (by omega)
      · rw [if_neg e4]; rfl
  have c3 : ∀ i, i < R → M3 i j = if i = n then 1 else 0 := fun i hi => by
    by_cases e : i = n
    · subst e; rw [n3, v2, if_pos rfl]
    · rw [e3 i _ e, v2, Int.mul_one, show M2 i j + (P - M2 i j) = P by omega, Int.emod_self, if_neg e]
  have z3 : ∀ i c, n ≤ i → i < R → c < j → M3 i c = 0 := fun i c h1 h2 h3 => by
    by_cases e : i = n
    · subst e; rw [n3]; exact z2 i c h1 h2 h3
    · rw [e3 i c e, z2 i c h1 h2 h3, z2 n c (Nat.le_refl _) hn h3, Int.mul_zero]; rfl
  rw [← hM3]
  refine ⟨hn, fun i c hi hc => ?_, fun k hk => ?_, fun i k hik hk => ?_, fun i k hi hk => ?_, fun i c hi hc => ?_, fun i c h1 h2 h3 => ?_, s2.trans ?_⟩
  · by_cases e : i = n
    · subst e; rw [n3]; exact r2 i c hi hc
    · rw [e3 i c e]; exact ⟨Int.emod_nonneg _ (by omega), Int.emod_lt_of_pos _ (by omega)⟩
  · by_cases e : k < n
    · simp only [e, if_true]; have := h.lt k e; omega
    · simp only [e, if_false]; omega
  · by_cases e : k < n
    · simp only [e, if_true, show i < n by omega]; exact h.asc i k hik e
    · simp only [e, if_false, show i < n by omega, if_true]; exact h.lt i (by omega)
  · by_cases e : k < n
    · simp only [e, if_true]; exact u3 i k hi e
    · simp only [e, if_false]
      obtain rfl : k = n := by omega
      exact c3 i hi
  · by_cases e : i < n
    · simp only [e, if_true] at hc
      have := h.lt i e
      rw [e3 i c (by omega), l2 i c e hc, z2 n c (Nat.le_refl _) hn (by omega), Int.mul_zero]; rfl
    · simp only [e, if_false] at hc
      exact z3 i c (by omega) (by omega) hc
  · by_cases e : c = j
    · subst e; rw [c3 i h2, if_neg (by omega)]
    · exact z3 i c (by omega) h2 (by omega)
  · refine SameSp.elim n hn (fun i => P - M2 i j) (.of_eq fun c _ => n3 c) fun i hi hne => ?_
    intro c _
    rw [e3 i c hne]
    exact Eqv.emod (p := P) (C := c + 1) (fun c => M2 i c + (P - M2 i j) * M2 n c) c (Nat.lt_succ_self _)

/-- all columns are done, or all rows have a pivot -/
theorem L7I.done {P : Int} {C R : Nat} {M0 M : Nat → Nat → Int} {q : Nat → Nat} {n j : Nat} (h : L7I P C R M0 M q n j) (hj : j ≤ C) (hd : j = C ∨ n = R) :
    Red P C n M q ∧ (∀ i c, n ≤ i → i < R → c < C → M i c = 0) ∧ SameSp P C R M0 n M := by
  have hz : ∀ i c, n ≤ i → i < R → c < C → M i c = 0 := fun i c h1 h2 h3 => h.zero i c h1 h2 (by omega)
  refine ⟨⟨fun i hi => by have := h.lt i hi; omega, fun i k hi hk => h.unit i k (by have := h.le; omega) hk, h.lead⟩, hz, h.same.trans ⟨fun i hi => ?_, fun i hi => .row (by have := h.le; omega)⟩⟩
  by_cases e : i < n
  · exact .row e
  · exact Sp.zero.eqv (.of_eq fun c hc => (hz i c (by omega) hi hc).symm)

end Go.Proofs.Ytpfefjdefopccaa

namespace Go.Proofs.Ytpfefjdefopccaa
set_option linter.all false
open Go.RowKit

set_option maxRecDepth 100000 in
set_option maxHeartbeats 1000000 in
theorem l7At_any (P R : Int) (C i j : Nat) (d : Value) (D : List Int) (w : World) (h : Ints w d D) (hC : i * C + j < D.length) (hD : D.length ≤ 1000000) :
    Calls Try.prog 47 #[.agg #[.int .i64 P, .int .i64 R, .int .i64 (C : Int), d], .int .i64 (i : Int), .int .i64 (j : Int)] w fun e w' =>
      e = .returned (.int .i64 (D.getD (i * C + j) 0)) ∧ Below w.heap.size w w' := by
  obtain ⟨q, capu, rfl, ⟨hu1, hu2⟩, huc⟩ := h
  unfold maxLen at hu2
  obtain ⟨b, off, rfl, hc⟩ := huc (by omega)
  have c1 : w.cell? ⟨b, off + (i * C + j), none⟩ = some (.int .i64 (D.getD (i * C + j) 0)) := by rw [hc _ hC, iv]
  have hb := World.block_lt_of_cell? _ _ c1
  obtain ⟨z, hz⟩ : ∃ z, z = D.getD (i * C + j) 0 := ⟨_, rfl⟩
  rw [← hz] at c1 ⊢
  clear huc hc hz
  go_enter Try.func47, Try.ntmps47
  go_wp2_with fail
  go_ret
  exact ⟨rfl, below_alloc _ _⟩

end Go.Proofs.Ytpfefjdefopccaa

namespace Go.Proofs.Ytpfefjdefopccaa
set_option linter.all false
open Go.RowKit

theorem cell_below {w w' : World} {a : Addr} {v : Value} (hb : Below w.heap.size w w') (h : w.cell? a = some v) : w'.cell? a = some v := by
  rw [hb.cell (World.block_lt_of_cell? _ _ h)]; exact h
theorem held_ints {c : Prop} {wr W : World} {v : Value} {xs : List Int} (h : Ints wr v xs) (hS : c ∧ Below wr.heap.size wr W) : Ints W v xs := h.below hS.2
theorem held_below {c : Prop} {wr W : World} (hS : c ∧ Below wr.heap.size wr W) : Below wr.heap.size wr W := hS.2
theorem keep4 {wr W W' : World} {a0 a1 a2 a3 : Addr} {v0 v1 v2 v3 : Value} (hb : Below W.heap.size W W')
    (h : (W.cell? a0 = some v0 ∧ W.cell? a1 = some v1 ∧ W.cell? a2 = some v2 ∧ W.cell? a3 = some v3) ∧ Below wr.heap.size wr W) :
    (W'.cell? a0 = some v0 ∧ W'.cell? a1 = some v1 ∧ W'.cell? a2 = some v2 ∧ W'.cell? a3 = some v3) ∧ Below wr.heap.size wr W' :=
  ⟨⟨cell_below hb h.1.1, cell_below hb h.1.2.1, cell_below hb h.1.2.2.1, cell_below hb h.1.2.2.2⟩, below_trans h.2 hb⟩
theorem keep8 {wr W W' : World} {a0 a1 a2 a3 a4 a5 a6 a7 : Addr} {v0 v1 v2 v3 v4 v5 v6 v7 : Value} (hb : Below W.heap.size W W')
    (h : (W.cell? a0 = some v0 ∧ W.cell? a1 = some v1 ∧ W.cell? a2 = some v2 ∧ W.cell? a3 = some v3 ∧ W.cell? a4 = some v4 ∧ W.cell? a5 = some v5 ∧ W.cell? a6 = some v6 ∧ W.cell? a7 = some v7) ∧ Below wr.heap.size wr W) :
    (W'.cell? a0 = some v0 ∧ W'.cell? a1 = some v1 ∧ W'.cell? a2 = some v2 ∧ W'.cell? a3 = some v3 ∧ W'.cell? a4 = some v4 ∧ W'.cell? a5 = some v5 ∧ W'.cell? a6 = some v6 ∧ W'.cell? a7 = some v7) ∧ Below wr.heap.size wr W' :=
  ⟨⟨cell_below hb h.1.1, cell_below hb h.1.2.1, cell_below hb h.1.2.2.1, cell_below hb h.1.2.2.2.1, cell_below hb h.1.2.2.2.2.1, cell_below hb h.1.2.2.2.2.2.1, cell_below hb h.1.2.2.2.2.2.2.1, cell_below hb h.1.2.2.2.2.2.2.2⟩, below_trans h.2 hb⟩

/-- numbers of a matrix that is right, at a place or behind the end -/
theorem getD_range {D : List Int} {P : Int} (h : ∀ x ∈ D, 0 ≤ x ∧ x < P) (hP : 0 < P) (j : Nat) : 0 ≤ D.getD j 0 ∧ D.getD j 0 < P := by
  by_cases hj : j < D.length
  · exact h _ (getD_mem hj)
  · simp [List.getD_eq_getElem?_getD, show D[j]? = none by simp; omega, hP]
theorem mul_range {x y a b : Int} (h1 : 0 ≤ x) (h2 : x ≤ a) (h3 : 0 ≤ y) (h4 : y ≤ b) : 0 ≤ x * y ∧ x * y ≤ a * b :=
  ⟨Int.mul_nonneg h1 h3, Int.mul_le_mul h2 h4 h3 (by omega)⟩

end Go.Proofs.Ytpfefjdefopccaa

namespace Go.Proofs.Ytpfefjdefopccaa
set_option linter.all false
open Go.RowKit

theorem alloc_drew_top (w : World) (o : Obj) : (w.alloc o).drew.heap[w.heap.size]? = some o := heap_alloc_top w o
theorem set4_all {w : World} {b : Nat} {x0 x1 x2 x3 : Value} {T : TypeId} (h : w.heap[b]? = some (.cells #[x0, x1, x2, x3] T (0, 0))) (y0 y1 y2 y3 : Value) :
    ((((w.setCell ⟨b, 0, none⟩ y0).setCell ⟨b, 1, none⟩ y1).setCell ⟨b, 2, none⟩ y2).setCell ⟨b, 3, none⟩ y3).heap[b]? = some (.cells #[y0, y1, y2, y3] T (0, 0)) := by
  have e := heap_setCell_at (heap_setCell_at (heap_setCell_at (heap_setCell_at h 0 y0) 1 y1) 2 y2) 3 y3
  simpa using e

/-- a pointer to a box that was made after wr, with the matrix M in it, whose numbers lie in blocks made after wr -/
def CutBox (T TM : TypeId) (wr wc : World) (M : Mx) (s : Value) : Prop :=
  ∃ q p k lo hi, s = .pointer (some ⟨q, 0, none⟩) ∧ wr.heap.size ≤ q ∧ wc.heap[q]? = some (.cells #[.int .i64 M.P, .int .i64 M.R, .int .i64 M.C, .slice p M.D.length k] TM) ∧
    OwnI T wc lo hi (.slice p M.D.length k) M.D ∧ (q < lo ∨ hi ≤ q) ∧ wr.heap.size ≤ lo ∧ hi ≤ wc.heap.size ∧ q < wc.heap.size ∧ Below wr.heap.size wr wc
theorem cutBox_alloc {T TM : TypeId} {wr w : World} {M : Mx} {p : Option Addr} {k lo : Nat} (hB : Below wr.heap.size wr w)
    (ho : OwnI T w lo w.heap.size (.slice p M.D.length k) M.D) (hlo : wr.heap.size ≤ lo) :
    CutBox T TM wr (w.alloc (.cells #[.int .i64 M.P, .int .i64 M.R, .int .i64 M.C, .slice p M.D.length k] TM)) M (.pointer (some ⟨w.heap.size, 0, none⟩)) :=
  ⟨_, _, _, _, _, rfl, hB.size, heap_alloc_top _ _, OwnI.below ho (below_alloc _ _), Or.inr (Nat.le_refl _), hlo, by simp, by simp, hB.alloc hB.size _⟩
theorem cutBox_set {T TM : TypeId} {wr w : World} {M : Mx} {p : Option Addr} {k lo q : Nat} {x0 x1 x2 x3 : Value} (hB : Below wr.heap.size wr w)
    (hz : w.heap[q]? = some (.cells #[x0, x1, x2, x3] TM)) (ho : OwnI T w lo w.heap.size (.slice p M.D.length k) M.D) (hlo : wr.heap.size ≤ lo) (hq : q < lo) (hr : wr.heap.size ≤ q) :
    CutBox T TM wr ((((w.setCell ⟨q, 0, none⟩ (.int .i64 M.P)).setCell ⟨q, 1, none⟩ (.int .i64 M.R)).setCell ⟨q, 2, none⟩ (.int .i64 M.C)).setCell ⟨q, 3, none⟩ (.slice p M.D.length k)) M (.pointer (some ⟨q, 0, none⟩)) :=
  ⟨_, _, _, _, _, rfl, hr, set4_all hz _ _ _ _, own_set4 ho (Or.inl hq) _ _ _ _, Or.inl hq, hlo, by simp, by have := blk_lt hz; simpa using this, below_set4 hB hr _ _ _ _⟩

end Go.Proofs.Ytpfefjdefopccaa
