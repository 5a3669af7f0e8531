/-
  The law FnExactKeepsEssential, walked call by call: it returns true, and nothing that was there has changed. (Printed by gen_law.py.)
-/
import Derived.Test.YtejoapielndnnaaKeepE
import Derived.Test.YtejoapielndnnaaHeld2
namespace Go.Proofs.Ytejoapielndnnaa
set_option linter.all false
open Go.RowKit

set_option maxRecDepth 100000 in
set_option maxHeartbeats 8000000 in
theorem lawKeepsEssential (aMP aMR aMC : Int) (vaM : Value) (XaM : List Int) (vaW : Value) (XaW : List Int) (w0 : World) (haM : Ints w0 vaM XaM) (haW : Ints w0 vaW XaW) :
    Calls Try.prog 3 #[.agg #[.int .i64 aMP, .int .i64 aMR, .int .i64 aMC, vaM], vaW] w0 fun e w' => e = .returned (.bool true) ∧ Below w0.heap.size w0 w' := by
  have HraM_0 := Lib.hid haM
  obtain ⟨paM, kaM, rfl, ⟨laM, maM⟩, _⟩ := haM
  unfold maxLen at maM
  have HraW_0 := Lib.hid haW
  obtain ⟨paW, kaW, rfl, ⟨laW, maW⟩, _⟩ := haW
  unfold maxLen at maW
  by_cases saW : XaW.length ≤ 1048576
  case neg =>
    have baW : (1048576 : Int) < (XaW.length : Int) := by omega
    go_enter Try.func3, Try.ntmps3
    go_wp2_with fail
    go_ret
    exact ⟨rfl, (below_alloc _ _)⟩
  have taW : ¬ (1048576 : Int) < (XaW.length : Int) := by omega
  by_cases SaM : (XaM.length : Int) ≤ 1048576
  case neg =>
    go_enter Try.func3, Try.ntmps3
    go_wp2_with fail
    refine (szMatrix_big _ _ _ _ _ _ 1048576 _ (by omega) (by omega) (by omega) (by omega)).mono ?_
    rintro e w1 ⟨rfl, hb1⟩
    have bl1 : Below w0.heap.size w0 w1 := (below_alloc _ _).trans (hb1.mono (by simp; try omega))
    have sz1 : w0.heap.size + 1 ≤ w1.heap.size := by have := hb1.size; simp at this; omega
    have ZBaM_1 : Hid (w1.heap[w0.heap.size]? = some (.cells #[.int .i64 aMP, .int .i64 aMR, .int .i64 aMC, .slice paM XaM.length kaM] 24)) := Lib.hid ((hb1.block _ (by simp <;> omega)).trans (heap_alloc_at _ _ (by simp <;> omega)))
    clear hb1
    go_wp2_with fail
    go_ret
    exact ⟨rfl, bl1⟩
  have saM : XaM.length ≤ 1048576 := by omega
  have cs := fun (uaM : Value) (uaW : Value) (W : World) (haM : Ints W uaM XaM) (haW : Ints W uaW XaW) => (specKeepsEss_any aMP aMR aMC uaM uaW XaM XaW W haM haW)
  have ci := fun (uaM : Value) (uaW : Value) (W : World) (haM : Ints W uaM XaM) (haW : Ints W uaW XaW) => (implKeepsEss_any aMP aMR aMC uaM uaW XaM XaW W haM haW)
  generalize Classical.epsilon (KeIs aMP aMR aMC XaM XaW) = M at cs ci
  have Cs := Lib.hid cs
  have Ci := Lib.hid ci
  clear cs ci
  have B0 := Below.refl w0.heap.size w0
  go_enter Try.func3, Try.ntmps3
  go_wp2_with fail
  refine (szMatrix_ok _ _ _ _ _ _ 1048576 _ SaM (by omega) (by omega)).mono ?_
  rintro e w1 ⟨rfl, hb1⟩
  have bl1 : Below w0.heap.size w0 w1 := (below_alloc _ _).trans (hb1.mono (by simp; try omega))
  have sz1 : w0.heap.size + 1 ≤ w1.heap.size := by have := hb1.size; simp at this; omega
  have ZBaM_1 : Hid (w1.heap[w0.heap.size]? = some (.cells #[.int .i64 aMP, .int .i64 aMR, .int .i64 aMC, .slice paM XaM.length kaM] 24)) := Lib.hid ((hb1.block _ (by simp <;> omega)).trans (heap_alloc_at _ _ (by simp <;> omega)))
  clear hb1
  have B1 := bl1
  clear bl1 B0
  have HraM_1 := Lib.hid (HraM_0.out.below B1)
  have HraW_1 := Lib.hid (HraW_0.out.below B1)
  obtain ⟨cBaM0, cBaM1, cBaM2, cBaM3, cBaMf, zBaM⟩ := blk4 ZBaM_1.out
  go_wp2_with fail
  refine (toMatrix_any _ _ _ _ XaM _ HraM_1.out saM).mono ?_
  rintro e w2 ⟨ux1, rfl, ho2, hb2⟩
  have bl2 : Below w1.heap.size w1 w2 := hb2
  have sz2 : w1.heap.size ≤ w2.heap.size := by have := hb2.size; simpa using this
  have B2 := B1.trans (bl2.mono B1.size)
  have HraM_2 := Lib.hid (HraM_0.out.below B2)
  have HraW_2 := Lib.hid (HraW_0.out.below B2)
  have ZBaM_2 := Lib.hid (blk_later ZBaM_1.out bl2)
  have Hx1_2 : Hid (OwnI 3 w2 (w1.heap.size) w2.heap.size ux1 XaM) := Lib.hid (ho2.mono (by simp) (Nat.le_refl _))
  clear ho2
  clear HraM_1 HraW_1 ZBaM_1
  clear hb2 bl2 B1
  clear cBaM0 cBaM1 cBaM2 cBaM3 cBaMf zBaM
  obtain ⟨px1, kx1, rfl, lx1, mx1⟩ := Hx1_2.out.shape
  go_wp2_with fail
  refine (toIntS_any _ XaW _ HraW_2.out saW).mono ?_
  rintro e w3 ⟨ux2, rfl, ho3, hb3⟩
  have bl3 : Below w2.heap.size w2 w3 := hb3
  have sz3 : w2.heap.size ≤ w3.heap.size := by have := hb3.size; simpa using this
  have B3 := B2.trans (bl3.mono B2.size)
  have HraM_3 := Lib.hid (HraM_0.out.below B3)
  have HraW_3 := Lib.hid (HraW_0.out.below B3)
  have Hx1_3 := Lib.hid (Hx1_2.out.below bl3)
  have ZBaM_3 := Lib.hid (blk_later ZBaM_2.out bl3)
  have Hx2_3 : Hid (OwnI 3 w3 (w2.heap.size) w3.heap.size ux2 XaW) := Lib.hid (ho3.mono (by simp) (Nat.le_refl _))
  clear ho3
  clear HraM_2 HraW_2 Hx1_2 ZBaM_2
  clear hb3 bl3 B2
  go_wp2_with fail
  refine (Cs.out _ _ _ Hx1_3.out.ints Hx2_3.out.ints).mono ?_
  rintro e w4 ⟨rfl, hb4⟩
  have bl4 : Below w3.heap.size w3 w4 := hb4
  have sz4 : w3.heap.size ≤ w4.heap.size := by have := hb4.size; simpa using this
  have B4 := B3.trans (bl4.mono B3.size)
  have HraM_4 := Lib.hid (HraM_0.out.below B4)
  have HraW_4 := Lib.hid (HraW_0.out.below B4)
  have Hx1_4 := Lib.hid (Hx1_3.out.below bl4)
  have Hx2_4 := Lib.hid (Hx2_3.out.below bl4)
  have ZBaM_4 := Lib.hid (blk_later ZBaM_3.out bl4)
  clear HraM_3 HraW_3 Hx1_3 Hx2_3 ZBaM_3
  clear hb4 bl4 B3
  obtain ⟨cBaM0, cBaM1, cBaM2, cBaM3, cBaMf, zBaM⟩ := blk4 ZBaM_4.out
  go_wp2_with fail
  refine (toMatrix_any _ _ _ _ XaM _ HraM_4.out saM).mono ?_
  rintro e w5 ⟨ux3, rfl, ho5, hb5⟩
  have bl5 : Below w4.heap.size w4 w5 := hb5
  have sz5 : w4.heap.size ≤ w5.heap.size := by have := hb5.size; simpa using this
  have B5 := B4.trans (bl5.mono B4.size)
  have HraM_5 := Lib.hid (HraM_0.out.below B5)
  have HraW_5 := Lib.hid (HraW_0.out.below B5)
  have Hx1_5 := Lib.hid (Hx1_4.out.below bl5)
  have Hx2_5 := Lib.hid (Hx2_4.out.below bl5)
  have ZBaM_5 := Lib.hid (blk_later ZBaM_4.out bl5)
  have Hx3_5 : Hid (OwnI 3 w5 (w4.heap.size) w5.heap.size ux3 XaM) := Lib.hid (ho5.mono (by simp) (Nat.le_refl _))
  clear ho5
  clear HraM_4 HraW_4 Hx1_4 Hx2_4 ZBaM_4
  clear hb5 bl5 B4
  clear cBaM0 cBaM1 cBaM2 cBaM3 cBaMf zBaM
  obtain ⟨px3, kx3, rfl, lx3, mx3⟩ := Hx3_5.out.shape
  go_wp2_with fail
  refine (toIntS_any _ XaW _ (HraW_5.out.below (below_alloc _ _)) saW).mono ?_
  rintro e w6 ⟨ux4, rfl, ho6, hb6⟩
  have bl6 : Below w5.heap.size w5 w6 := (below_alloc _ _).trans (hb6.mono (by simp))
  have sz6 : w5.heap.size + 1 ≤ w6.heap.size := by have := hb6.size; simpa using this
  have B6 := B5.trans (bl6.mono B5.size)
  have HraM_6 := Lib.hid (HraM_0.out.below B6)
  have HraW_6 := Lib.hid (HraW_0.out.below B6)
  have Hx1_6 := Lib.hid (Hx1_5.out.below bl6)
  have Hx2_6 := Lib.hid (Hx2_5.out.below bl6)
  have Hx3_6 := Lib.hid (Hx3_5.out.below bl6)
  have ZBaM_6 := Lib.hid (blk_later ZBaM_5.out bl6)
  have Zx3_6 := Lib.hid ((hb6.block _ (by simp)).trans (heap_alloc_top _ _))
  have Hx4_6 : Hid (OwnI 3 w6 (w5.heap.size + 1) w6.heap.size ux4 XaW) := Lib.hid (ho6.mono (by simp) (Nat.le_refl _))
  clear ho6
  clear HraM_5 HraW_5 Hx1_5 Hx2_5 Hx3_5 ZBaM_5
  clear hb6 bl6 B5
  obtain ⟨cx30, cx31, cx32, cx33, cx3f, zx3⟩ := blk4 Zx3_6.out
  go_wp2_with fail
  refine (Ci.out _ _ _ Hx3_6.out.ints Hx4_6.out.ints).mono ?_
  rintro e w7 ⟨rfl, hb7⟩
  have bl7 : Below w6.heap.size w6 w7 := hb7
  have sz7 : w6.heap.size ≤ w7.heap.size := by have := hb7.size; simpa using this
  have B7 := B6.trans (bl7.mono B6.size)
  have HraM_7 := Lib.hid (HraM_0.out.below B7)
  have HraW_7 := Lib.hid (HraW_0.out.below B7)
  have Hx1_7 := Lib.hid (Hx1_6.out.below bl7)
  have Hx2_7 := Lib.hid (Hx2_6.out.below bl7)
  have Hx3_7 := Lib.hid (Hx3_6.out.below bl7)
  have Hx4_7 := Lib.hid (Hx4_6.out.below bl7)
  have ZBaM_7 := Lib.hid (blk_later ZBaM_6.out bl7)
  have Zx3_7 := Lib.hid (blk_later Zx3_6.out bl7)
  clear HraM_6 HraW_6 Hx1_6 Hx2_6 Hx3_6 Hx4_6 ZBaM_6 Zx3_6
  clear hb7 bl7 B6
  clear cx30 cx31 cx32 cx33 cx3f zx3
  obtain ⟨cx30, cx31, cx32, cx33, cx3f, zx3⟩ := blk4 Zx3_7.out
  obtain ⟨cBaM0, cBaM1, cBaM2, cBaM3, cBaMf, zBaM⟩ := blk4 ZBaM_7.out
  go_wp2_with fail
  go_region_held3 (fun w' => (w'.cell? ⟨w5.heap.size, 0, none⟩ = some (.int .i64 aMP) ∧ w'.cell? ⟨w5.heap.size, 1, none⟩ = some (.int .i64 aMR) ∧ w'.cell? ⟨w5.heap.size, 2, none⟩ = some (.int .i64 aMC) ∧ w'.cell? ⟨w5.heap.size, 3, none⟩ = some (.slice px3 XaM.length kx3) ∧ w'.cell? ⟨w0.heap.size, 0, none⟩ = some (.int .i64 aMP) ∧ w'.cell? ⟨w0.heap.size, 1, none⟩ = some (.int .i64 aMR) ∧ w'.cell? ⟨w0.heap.size, 2, none⟩ = some (.int .i64 aMC) ∧ w'.cell? ⟨w0.heap.size, 3, none⟩ = some (.slice paM XaM.length kaM)) ∧ Below w7.heap.size w7 w')
    (first | exact ⟨⟨cx30, cx31, cx32, cx33, cBaM0, cBaM1, cBaM2, cBaM3⟩, (Below.refl _ _).drew⟩ | exact keep8 hb1 (by assumption) | exact keep8 (below_alloc _ _) (by assumption) | exact keep8 ((below_alloc _ _).drew) ⟨⟨cx30, cx31, cx32, cx33, cBaM0, cBaM1, cBaM2, cBaM3⟩, Below.refl _ _⟩ | exact keep8 (hBz.alloc hBz.size _) ⟨⟨cx30, cx31, cx32, cx33, cBaM0, cBaM1, cBaM2, cBaM3⟩, Below.refl _ _⟩ | exact keep8 (below_set4 hBz (by first | exact Nat.le_refl _ | omega | (simp; omega)) _ _ _ _) ⟨⟨cx30, cx31, cx32, cx33, cBaM0, cBaM1, cBaM2, cBaM3⟩, Below.refl _ _⟩)
    (first
      | (go_at_call 9; refine (toMatrix_any _ _ _ _ XaM _ (held_ints HraM_7.out (by assumption)) saM).mono ?_; rintro e w' ⟨uc, rfl, hoc, hb1⟩; obtain ⟨pc, kc, rfl, _, _⟩ := hoc.shape)
      | (go_at_call 12; refine (eqMatrix_same _ _ _ _ _ XaM _ (held_ints Hx3_7.out.ints (by assumption)) hoc.ints).mono ?_; rintro e w' ⟨rfl, hb1⟩))
  have bl8 : Below w7.heap.size w7 _ := held_below (by assumption)
  obtain ⟨w8, rfl⟩ : ∃ x : World, x = w' := ⟨_, rfl⟩
  have sz8 := bl8.size
  have B8 := B7.trans (bl8.mono B7.size)
  have HraM_8 := Lib.hid (HraM_0.out.below B8)
  have HraW_8 := Lib.hid (HraW_0.out.below B8)
  have Hx1_8 := Lib.hid (Hx1_7.out.below bl8)
  have Hx2_8 := Lib.hid (Hx2_7.out.below bl8)
  have Hx3_8 := Lib.hid (Hx3_7.out.below bl8)
  have Hx4_8 := Lib.hid (Hx4_7.out.below bl8)
  have ZBaM_8 := Lib.hid (blk_later ZBaM_7.out bl8)
  have Zx3_8 := Lib.hid (blk_later Zx3_7.out bl8)
  clear cx30 cx31 cx32 cx33 cx3f zx3 cBaM0 cBaM1 cBaM2 cBaM3 cBaMf zBaM
  clear HraM_7 HraW_7 Hx1_7 Hx2_7 Hx3_7 Hx4_7 ZBaM_7 Zx3_7 bl8 B7
  go_wp2_with fail
  refine (toIntS_any _ XaW _ HraW_8.out saW).mono ?_
  rintro e w9 ⟨ux5, rfl, ho9, hb9⟩
  have bl9 : Below w8.heap.size w8 w9 := hb9
  have sz9 : w8.heap.size ≤ w9.heap.size := by have := hb9.size; simpa using this
  have B9 := B8.trans (bl9.mono B8.size)
  have HraM_9 := Lib.hid (HraM_0.out.below B9)
  have HraW_9 := Lib.hid (HraW_0.out.below B9)
  have Hx1_9 := Lib.hid (Hx1_8.out.below bl9)
  have Hx2_9 := Lib.hid (Hx2_8.out.below bl9)
  have Hx3_9 := Lib.hid (Hx3_8.out.below bl9)
  have Hx4_9 := Lib.hid (Hx4_8.out.below bl9)
  have ZBaM_9 := Lib.hid (blk_later ZBaM_8.out bl9)
  have Zx3_9 := Lib.hid (blk_later Zx3_8.out bl9)
  have Hx5_9 : Hid (OwnI 3 w9 (w8.heap.size) w9.heap.size ux5 XaW) := Lib.hid (ho9.mono (by simp) (Nat.le_refl _))
  clear ho9
  clear HraM_8 HraW_8 Hx1_8 Hx2_8 Hx3_8 Hx4_8 ZBaM_8 Zx3_8
  clear hb9 bl9 B8
  go_wp2_with fail
  refine (eqIntS_same _ _ XaW _ Hx4_9.out.ints Hx5_9.out.ints).mono ?_
  rintro e w10 ⟨rfl, hb10⟩
  have bl10 : Below w9.heap.size w9 w10 := hb10
  have sz10 : w9.heap.size ≤ w10.heap.size := by have := hb10.size; simpa using this
  have B10 := B9.trans (bl10.mono B9.size)
  have HraM_10 := Lib.hid (HraM_0.out.below B10)
  have HraW_10 := Lib.hid (HraW_0.out.below B10)
  have Hx1_10 := Lib.hid (Hx1_9.out.below bl10)
  have Hx2_10 := Lib.hid (Hx2_9.out.below bl10)
  have Hx3_10 := Lib.hid (Hx3_9.out.below bl10)
  have Hx4_10 := Lib.hid (Hx4_9.out.below bl10)
  have Hx5_10 := Lib.hid (Hx5_9.out.below bl10)
  have ZBaM_10 := Lib.hid (blk_later ZBaM_9.out bl10)
  have Zx3_10 := Lib.hid (blk_later Zx3_9.out bl10)
  clear HraM_9 HraW_9 Hx1_9 Hx2_9 Hx3_9 Hx4_9 Hx5_9 ZBaM_9 Zx3_9
  clear hb10 bl10 B9
  go_wp2_with fail
  go_ret
  exact ⟨rfl, B10⟩

end Go.Proofs.Ytejoapielndnnaa
