/-
  The law FnExactCornerRank, walked call by call: it returns true, and nothing that was there has changed. (Printed by gen_law.py.)
-/
import Derived.Test.YtjofekjhkjjaoaaCorner2
import Derived.Test.YtjofekjhkjjaoaaHeld2
namespace Go.Proofs.Ytjofekjhkjjaoaa
set_option linter.all false
open Go.RowKit

set_option maxRecDepth 100000 in
set_option maxHeartbeats 8000000 in
theorem lawCornerRank (aMP aMR aMC : Int) (vaM : Value) (XaM : List Int) (aRows : Int) (aCols : Int) (w0 : World) (haM : Ints w0 vaM XaM) :
    Calls Try.prog 5 #[.agg #[.int .i64 aMP, .int .i64 aMR, .int .i64 aMC, vaM], .int .i64 aRows, .int .i64 aCols] w0 fun e w' => e = .returned (.bool true) ∧ Below w0.heap.size w0 w' := by
  have HraM_0 := Lib.hid haM
  obtain ⟨paM, kaM, rfl, ⟨laM, maM⟩, _⟩ := haM
  unfold maxLen at maM
  by_cases SaM : (XaM.length : Int) ≤ 1048576
  case neg =>
    go_enter Try.func5, Try.ntmps5
    go_wp2_with fail
    refine (szMatrix_big _ _ _ _ _ _ 1048576 _ (by omega) (by omega) (by omega) (by omega)).mono ?_
    rintro e w1 ⟨rfl, hb1⟩
    have bl1 : Below w0.heap.size w0 w1 := (below_alloc _ _).trans (hb1.mono (by simp; try omega))
    have sz1 : w0.heap.size + 1 ≤ w1.heap.size := by have := hb1.size; simp at this; omega
    have ZBaM_1 : Hid (w1.heap[w0.heap.size]? = some (.cells #[.int .i64 aMP, .int .i64 aMR, .int .i64 aMC, .slice paM XaM.length kaM] 24)) := Lib.hid ((hb1.block _ (by simp <;> omega)).trans (heap_alloc_at _ _ (by simp <;> omega)))
    clear hb1
    go_wp2_with fail
    go_ret
    exact ⟨rfl, bl1⟩
  have saM : XaM.length ≤ 1048576 := by omega
  have cs := fun (uaM : Value) (W : World) (haM : Ints W uaM XaM) => specCornerRank_any aMP aMR aMC uaM XaM aRows aCols W haM
  have ci := fun (uaM : Value) (W : World) (haM : Ints W uaM XaM) => implCornerRank_any aMP aMR aMC uaM XaM aRows aCols W haM
  generalize Classical.epsilon (CkIs aMP aMR aMC XaM aRows aCols) = M at cs ci
  have Cs := Lib.hid cs
  have Ci := Lib.hid ci
  clear cs ci
  have B0 := Below.refl w0.heap.size w0
  go_enter Try.func5, Try.ntmps5
  go_wp2_with fail
  refine (szMatrix_ok _ _ _ _ _ _ 1048576 _ SaM (by omega) (by omega)).mono ?_
  rintro e w1 ⟨rfl, hb1⟩
  have bl1 : Below w0.heap.size w0 w1 := (below_alloc _ _).trans (hb1.mono (by simp; try omega))
  have sz1 : w0.heap.size + 1 ≤ w1.heap.size := by have := hb1.size; simp at this; omega
  have ZBaM_1 : Hid (w1.heap[w0.heap.size]? = some (.cells #[.int .i64 aMP, .int .i64 aMR, .int .i64 aMC, .slice paM XaM.length kaM] 24)) := Lib.hid ((hb1.block _ (by simp <;> omega)).trans (heap_alloc_at _ _ (by simp <;> omega)))
  clear hb1
  have B1 := bl1
  clear bl1 B0
  have HraM_1 := Lib.hid (HraM_0.out.below B1)
  obtain ⟨cBaM0, cBaM1, cBaM2, cBaM3, cBaMf, zBaM⟩ := blk4 ZBaM_1.out
  go_wp2_with fail
  refine (toMatrix_any _ _ _ _ XaM _ HraM_1.out saM).mono ?_
  rintro e w2 ⟨ux1, rfl, ho2, hb2⟩
  have bl2 : Below w1.heap.size w1 w2 := hb2
  have sz2 : w1.heap.size ≤ w2.heap.size := by have := hb2.size; simpa using this
  have B2 := B1.trans (bl2.mono B1.size)
  have HraM_2 := Lib.hid (HraM_0.out.below B2)
  have ZBaM_2 := Lib.hid (blk_later ZBaM_1.out bl2)
  have Hx1_2 : Hid (OwnI 3 w2 (w1.heap.size) w2.heap.size ux1 XaM) := Lib.hid (ho2.mono (by simp) (Nat.le_refl _))
  clear ho2
  clear HraM_1 ZBaM_1
  clear hb2 bl2 B1
  clear cBaM0 cBaM1 cBaM2 cBaM3 cBaMf zBaM
  obtain ⟨px1, kx1, rfl, lx1, mx1⟩ := Hx1_2.out.shape
  go_wp2_with fail
  refine (Cs.out _ _ Hx1_2.out.ints).mono ?_
  rintro e w3 ⟨rfl, hb3⟩
  have bl3 : Below w2.heap.size w2 w3 := hb3
  have sz3 : w2.heap.size ≤ w3.heap.size := by have := hb3.size; simpa using this
  have B3 := B2.trans (bl3.mono B2.size)
  have HraM_3 := Lib.hid (HraM_0.out.below B3)
  have Hx1_3 := Lib.hid (Hx1_2.out.below bl3)
  have ZBaM_3 := Lib.hid (blk_later ZBaM_2.out bl3)
  clear HraM_2 Hx1_2 ZBaM_2
  clear hb3 bl3 B2
  obtain ⟨cBaM0, cBaM1, cBaM2, cBaM3, cBaMf, zBaM⟩ := blk4 ZBaM_3.out
  go_wp2_with fail
  refine (toMatrix_any _ _ _ _ XaM _ HraM_3.out saM).mono ?_
  rintro e w4 ⟨ux2, rfl, ho4, hb4⟩
  have bl4 : Below w3.heap.size w3 w4 := hb4
  have sz4 : w3.heap.size ≤ w4.heap.size := by have := hb4.size; simpa using this
  have B4 := B3.trans (bl4.mono B3.size)
  have HraM_4 := Lib.hid (HraM_0.out.below B4)
  have Hx1_4 := Lib.hid (Hx1_3.out.below bl4)
  have ZBaM_4 := Lib.hid (blk_later ZBaM_3.out bl4)
  have Hx2_4 : Hid (OwnI 3 w4 (w3.heap.size) w4.heap.size ux2 XaM) := Lib.hid (ho4.mono (by simp) (Nat.le_refl _))
  clear ho4
  clear HraM_3 Hx1_3 ZBaM_3
  clear hb4 bl4 B3
  clear cBaM0 cBaM1 cBaM2 cBaM3 cBaMf zBaM
  obtain ⟨px2, kx2, rfl, lx2, mx2⟩ := Hx2_4.out.shape
  go_wp2_with fail
  refine (Ci.out _ _ (Hx2_4.out.below (below_alloc _ _)).ints).mono ?_
  rintro e w5 ⟨rfl, hb5⟩
  have bl5 : Below w4.heap.size w4 w5 := (below_alloc _ _).trans (hb5.mono (by simp))
  have sz5 : w4.heap.size + 1 ≤ w5.heap.size := by have := hb5.size; simpa using this
  have B5 := B4.trans (bl5.mono B4.size)
  have HraM_5 := Lib.hid (HraM_0.out.below B5)
  have Hx1_5 := Lib.hid (Hx1_4.out.below bl5)
  have Hx2_5 := Lib.hid (Hx2_4.out.below bl5)
  have ZBaM_5 := Lib.hid (blk_later ZBaM_4.out bl5)
  have Zx2_5 := Lib.hid ((hb5.block _ (by simp)).trans (heap_alloc_top _ _))
  clear HraM_4 Hx1_4 Hx2_4 ZBaM_4
  clear hb5 bl5 B4
  obtain ⟨cx20, cx21, cx22, cx23, cx2f, zx2⟩ := blk4 Zx2_5.out
  obtain ⟨cBaM0, cBaM1, cBaM2, cBaM3, cBaMf, zBaM⟩ := blk4 ZBaM_5.out
  go_wp2_with fail
  go_region_held3 (fun w' => (w'.cell? ⟨w4.heap.size, 0, none⟩ = some (.int .i64 aMP) ∧ w'.cell? ⟨w4.heap.size, 1, none⟩ = some (.int .i64 aMR) ∧ w'.cell? ⟨w4.heap.size, 2, none⟩ = some (.int .i64 aMC) ∧ w'.cell? ⟨w4.heap.size, 3, none⟩ = some (.slice px2 XaM.length kx2) ∧ w'.cell? ⟨w0.heap.size, 0, none⟩ = some (.int .i64 aMP) ∧ w'.cell? ⟨w0.heap.size, 1, none⟩ = some (.int .i64 aMR) ∧ w'.cell? ⟨w0.heap.size, 2, none⟩ = some (.int .i64 aMC) ∧ w'.cell? ⟨w0.heap.size, 3, none⟩ = some (.slice paM XaM.length kaM)) ∧ Below w5.heap.size w5 w')
    (first | exact ⟨⟨cx20, cx21, cx22, cx23, cBaM0, cBaM1, cBaM2, cBaM3⟩, (Below.refl _ _).drew⟩ | exact keep8 hb1 (by assumption) | exact keep8 (below_alloc _ _) (by assumption) | exact keep8 ((below_alloc _ _).drew) ⟨⟨cx20, cx21, cx22, cx23, cBaM0, cBaM1, cBaM2, cBaM3⟩, Below.refl _ _⟩ | exact keep8 (hBz.alloc hBz.size _) ⟨⟨cx20, cx21, cx22, cx23, cBaM0, cBaM1, cBaM2, cBaM3⟩, Below.refl _ _⟩ | exact keep8 (below_set4 hBz (by first | exact Nat.le_refl _ | omega | (simp; omega)) _ _ _ _) ⟨⟨cx20, cx21, cx22, cx23, cBaM0, cBaM1, cBaM2, cBaM3⟩, Below.refl _ _⟩)
    (first
      | (go_at_call 11; refine (toMatrix_any _ _ _ _ XaM _ (held_ints HraM_5.out (by assumption)) saM).mono ?_; rintro e w' ⟨uc, rfl, hoc, hb1⟩; obtain ⟨pc, kc, rfl, _, _⟩ := hoc.shape)
      | (go_at_call 13; refine (eqMatrix_same _ _ _ _ _ XaM _ (held_ints Hx2_5.out.ints (by assumption)) hoc.ints).mono ?_; rintro e w' ⟨rfl, hb1⟩))
  have bl6 : Below w5.heap.size w5 _ := held_below (by assumption)
  obtain ⟨w6, rfl⟩ : ∃ x : World, x = w' := ⟨_, rfl⟩
  have sz6 := bl6.size
  have B6 := B5.trans (bl6.mono B5.size)
  have HraM_6 := Lib.hid (HraM_0.out.below B6)
  have Hx1_6 := Lib.hid (Hx1_5.out.below bl6)
  have Hx2_6 := Lib.hid (Hx2_5.out.below bl6)
  have ZBaM_6 := Lib.hid (blk_later ZBaM_5.out bl6)
  have Zx2_6 := Lib.hid (blk_later Zx2_5.out bl6)
  clear cx20 cx21 cx22 cx23 cx2f zx2 cBaM0 cBaM1 cBaM2 cBaM3 cBaMf zBaM
  clear HraM_5 Hx1_5 Hx2_5 ZBaM_5 Zx2_5 bl6 B5
  go_wp2_with fail
  go_ret
  exact ⟨rfl, B6⟩

end Go.Proofs.Ytjofekjhkjjaoaa
