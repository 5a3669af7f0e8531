/-
  The law FnExactFlagPerm, walked call by call: it returns true, and nothing that was there has changed. (Printed by gen_law.py.)
-/
import Derived.Test.YtapmnfakjnhlbaaNorm
import Derived.Test.YtapmnfakjnhlbaaHeld2
namespace Go.Proofs.Ytapmnfakjnhlbaa
set_option linter.all false
open Go.RowKit

set_option maxRecDepth 100000 in
set_option maxHeartbeats 8000000 in
theorem lawFlagPerm (aMP aMR aMC : Int) (vaM : Value) (XaM : List Int) (w0 : World) (haM : Ints w0 vaM XaM) :
    Calls Try.prog 5 #[.agg #[.int .i64 aMP, .int .i64 aMR, .int .i64 aMC, vaM]] w0 fun e w' => e = .returned (.bool true) ∧ Below w0.heap.size w0 w' := by
  have HraM_0 := Lib.hid haM
  obtain ⟨paM, kaM, rfl, ⟨laM, maM⟩, _⟩ := haM
  unfold maxLen at maM
  by_cases SaM : (XaM.length : Int) ≤ 1048576
  case neg =>
    go_enter Try.func5, Try.ntmps5
    go_wp2_with fail
    refine (szMatrix_big _ _ _ _ _ _ 1048576 _ (by omega) (by omega) (by omega) (by omega)).mono ?_
    rintro e w1 ⟨rfl, hb1⟩
    have bl1 : Below w0.heap.size w0 w1 := (below_alloc _ _).trans (hb1.mono (by simp; try omega))
    have sz1 : w0.heap.size + 1 ≤ w1.heap.size := by have := hb1.size; simp at this; omega
    have ZBaM_1 : Hid (w1.heap[w0.heap.size]? = some (.cells #[.int .i64 aMP, .int .i64 aMR, .int .i64 aMC, .slice paM XaM.length kaM] 24)) := Lib.hid ((hb1.block _ (by simp <;> omega)).trans (heap_alloc_at _ _ (by simp <;> omega)))
    clear hb1
    go_wp2_with fail
    go_ret
    exact ⟨rfl, bl1⟩
  have saM : XaM.length ≤ 1048576 := by omega
  have cs := fun (uaM : Value) (W : World) (haM : Ints W uaM XaM) => (specFp_any aMP aMR aMC uaM XaM W haM)
  have ci := fun (uaM : Value) (W : World) (haM : Ints W uaM XaM) => (implFp_any aMP aMR aMC uaM XaM W haM)
  have hM := fperm_len aMP aMR aMC XaM
  generalize Classical.epsilon (LsQ (FpIs aMP aMR aMC XaM)) = M at cs ci hM
  have Cs := Lib.hid cs
  have Ci := Lib.hid ci
  clear cs ci
  have B0 := Below.refl w0.heap.size w0
  go_enter Try.func5, Try.ntmps5
  go_wp2_with fail
  refine (szMatrix_ok _ _ _ _ _ _ 1048576 _ SaM (by omega) (by omega)).mono ?_
  rintro e w1 ⟨rfl, hb1⟩
  have bl1 : Below w0.heap.size w0 w1 := (below_alloc _ _).trans (hb1.mono (by simp; try omega))
  have sz1 : w0.heap.size + 1 ≤ w1.heap.size := by have := hb1.size; simp at this; omega
  have ZBaM_1 : Hid (w1.heap[w0.heap.size]? = some (.cells #[.int .i64 aMP, .int .i64 aMR, .int .i64 aMC, .slice paM XaM.length kaM] 24)) := Lib.hid ((hb1.block _ (by simp <;> omega)).trans (heap_alloc_at _ _ (by simp <;> omega)))
  clear hb1
  have B1 := bl1
  clear bl1 B0
  have HraM_1 := Lib.hid (HraM_0.out.below B1)
  obtain ⟨cBaM0, cBaM1, cBaM2, cBaM3, cBaMf, zBaM⟩ := blk4 ZBaM_1.out
  go_wp2_with fail
  refine (toMatrix_any _ _ _ _ XaM _ HraM_1.out saM).mono ?_
  rintro e w2 ⟨ux1, rfl, ho2, hb2⟩
  have bl2 : Below w1.heap.size w1 w2 := hb2
  have sz2 : w1.heap.size ≤ w2.heap.size := by have := hb2.size; simpa using this
  have B2 := B1.trans (bl2.mono B1.size)
  have HraM_2 := Lib.hid (HraM_0.out.below B2)
  have ZBaM_2 := Lib.hid (blk_later ZBaM_1.out bl2)
  have Hx1_2 : Hid (OwnI 3 w2 (w1.heap.size) w2.heap.size ux1 XaM) := Lib.hid (ho2.mono (by simp) (Nat.le_refl _))
  clear ho2
  clear HraM_1 ZBaM_1
  clear hb2 bl2 B1
  clear cBaM0 cBaM1 cBaM2 cBaM3 cBaMf zBaM
  obtain ⟨px1, kx1, rfl, lx1, mx1⟩ := Hx1_2.out.shape
  go_wp2_with fail
  refine (Cs.out _ _ Hx1_2.out.ints).mono ?_
  rintro e w3 ⟨uw, rfl, ho3, hb3⟩
  have bl3 : Below w2.heap.size w2 w3 := hb3
  have sz3 : w2.heap.size ≤ w3.heap.size := by have := hb3.size; simpa using this
  have B3 := B2.trans (bl3.mono B2.size)
  have HraM_3 := Lib.hid (HraM_0.out.below B3)
  have Hx1_3 := Lib.hid (Hx1_2.out.below bl3)
  have ZBaM_3 := Lib.hid (blk_later ZBaM_2.out bl3)
  have Hw_3 : Hid (OwnI 3 w3 (w2.heap.size) w3.heap.size uw M) := Lib.hid (ho3.mono (by simp) (Nat.le_refl _))
  clear ho3
  clear HraM_2 Hx1_2 ZBaM_2
  clear hb3 bl3 B2
  obtain ⟨pw, kw, rfl, lw, mw⟩ := Hw_3.out.shape
  obtain ⟨cBaM0, cBaM1, cBaM2, cBaM3, cBaMf, zBaM⟩ := blk4 ZBaM_3.out
  go_wp2_with fail
  refine (toMatrix_any _ _ _ _ XaM _ HraM_3.out saM).mono ?_
  rintro e w4 ⟨ux2, rfl, ho4, hb4⟩
  have bl4 : Below w3.heap.size w3 w4 := hb4
  have sz4 : w3.heap.size ≤ w4.heap.size := by have := hb4.size; simpa using this
  have B4 := B3.trans (bl4.mono B3.size)
  have HraM_4 := Lib.hid (HraM_0.out.below B4)
  have Hx1_4 := Lib.hid (Hx1_3.out.below bl4)
  have Hw_4 := Lib.hid (Hw_3.out.below bl4)
  have ZBaM_4 := Lib.hid (blk_later ZBaM_3.out bl4)
  have Hx2_4 : Hid (OwnI 3 w4 (w3.heap.size) w4.heap.size ux2 XaM) := Lib.hid (ho4.mono (by simp) (Nat.le_refl _))
  clear ho4
  clear HraM_3 Hx1_3 Hw_3 ZBaM_3
  clear hb4 bl4 B3
  clear cBaM0 cBaM1 cBaM2 cBaM3 cBaMf zBaM
  obtain ⟨px2, kx2, rfl, lx2, mx2⟩ := Hx2_4.out.shape
  go_wp2_with fail
  refine (Ci.out _ _ (Hx2_4.out.below (below_alloc _ _)).ints).mono ?_
  rintro e w5 ⟨ug, rfl, ho5, hb5⟩
  have bl5 : Below w4.heap.size w4 w5 := (below_alloc _ _).trans (hb5.mono (by simp))
  have sz5 : w4.heap.size + 1 ≤ w5.heap.size := by have := hb5.size; simpa using this
  have B5 := B4.trans (bl5.mono B4.size)
  have HraM_5 := Lib.hid (HraM_0.out.below B5)
  have Hx1_5 := Lib.hid (Hx1_4.out.below bl5)
  have Hw_5 := Lib.hid (Hw_4.out.below bl5)
  have Hx2_5 := Lib.hid (Hx2_4.out.below bl5)
  have ZBaM_5 := Lib.hid (blk_later ZBaM_4.out bl5)
  have Zx2_5 := Lib.hid ((hb5.block _ (by simp)).trans (heap_alloc_top _ _))
  have Hg_5 : Hid (OwnI 3 w5 (w4.heap.size + 1) w5.heap.size ug M) := Lib.hid (ho5.mono (by simp) (Nat.le_refl _))
  clear ho5
  clear HraM_4 Hx1_4 Hw_4 Hx2_4 ZBaM_4
  clear hb5 bl5 B4
  obtain ⟨pg, kg, rfl, lg, mg⟩ := Hg_5.out.shape
  go_wp2_with fail
  refine (eqIntS_same _ _ _ _ Hg_5.out.ints Hw_5.out.ints).mono ?_
  rintro e w6 ⟨rfl, hb6⟩
  have bl6 : Below w5.heap.size w5 w6 := hb6
  have sz6 : w5.heap.size ≤ w6.heap.size := by have := hb6.size; simpa using this
  have B6 := B5.trans (bl6.mono B5.size)
  have HraM_6 := Lib.hid (HraM_0.out.below B6)
  have Hx1_6 := Lib.hid (Hx1_5.out.below bl6)
  have Hw_6 := Lib.hid (Hw_5.out.below bl6)
  have Hx2_6 := Lib.hid (Hx2_5.out.below bl6)
  have Hg_6 := Lib.hid (Hg_5.out.below bl6)
  have ZBaM_6 := Lib.hid (blk_later ZBaM_5.out bl6)
  have Zx2_6 := Lib.hid (blk_later Zx2_5.out bl6)
  clear HraM_5 Hx1_5 Hw_5 Hx2_5 Hg_5 ZBaM_5 Zx2_5
  clear hb6 bl6 B5
  obtain ⟨cx20, cx21, cx22, cx23, cx2f, zx2⟩ := blk4 Zx2_6.out
  obtain ⟨cBaM0, cBaM1, cBaM2, cBaM3, cBaMf, zBaM⟩ := blk4 ZBaM_6.out
  go_wp2_with fail
  go_region_held3 (fun w' => (w'.cell? ⟨w4.heap.size, 0, none⟩ = some (.int .i64 aMP) ∧ w'.cell? ⟨w4.heap.size, 1, none⟩ = some (.int .i64 aMR) ∧ w'.cell? ⟨w4.heap.size, 2, none⟩ = some (.int .i64 aMC) ∧ w'.cell? ⟨w4.heap.size, 3, none⟩ = some (.slice px2 XaM.length kx2) ∧ w'.cell? ⟨w0.heap.size, 0, none⟩ = some (.int .i64 aMP) ∧ w'.cell? ⟨w0.heap.size, 1, none⟩ = some (.int .i64 aMR) ∧ w'.cell? ⟨w0.heap.size, 2, none⟩ = some (.int .i64 aMC) ∧ w'.cell? ⟨w0.heap.size, 3, none⟩ = some (.slice paM XaM.length kaM)) ∧ Below w6.heap.size w6 w')
    (first | exact ⟨⟨cx20, cx21, cx22, cx23, cBaM0, cBaM1, cBaM2, cBaM3⟩, (Below.refl _ _).drew⟩ | exact keep8 hb1 (by assumption) | exact keep8 (below_alloc _ _) (by assumption) | exact keep8 ((below_alloc _ _).drew) ⟨⟨cx20, cx21, cx22, cx23, cBaM0, cBaM1, cBaM2, cBaM3⟩, Below.refl _ _⟩ | exact keep8 (hBz.alloc hBz.size _) ⟨⟨cx20, cx21, cx22, cx23, cBaM0, cBaM1, cBaM2, cBaM3⟩, Below.refl _ _⟩ | exact keep8 (below_set4 hBz (by first | exact Nat.le_refl _ | omega | (simp; omega)) _ _ _ _) ⟨⟨cx20, cx21, cx22, cx23, cBaM0, cBaM1, cBaM2, cBaM3⟩, Below.refl _ _⟩)
    (first
      | (go_at_call 9; refine (toMatrix_any _ _ _ _ XaM _ (held_ints HraM_6.out (by assumption)) saM).mono ?_; rintro e w' ⟨uc, rfl, hoc, hb1⟩; obtain ⟨pc, kc, rfl, _, _⟩ := hoc.shape)
      | (go_at_call 11; refine (eqMatrix_same _ _ _ _ _ XaM _ (held_ints Hx2_6.out.ints (by assumption)) hoc.ints).mono ?_; rintro e w' ⟨rfl, hb1⟩))
  have bl7 : Below w6.heap.size w6 _ := held_below (by assumption)
  obtain ⟨w7, rfl⟩ : ∃ x : World, x = w' := ⟨_, rfl⟩
  have sz7 := bl7.size
  have B7 := B6.trans (bl7.mono B6.size)
  have HraM_7 := Lib.hid (HraM_0.out.below B7)
  have Hx1_7 := Lib.hid (Hx1_6.out.below bl7)
  have Hw_7 := Lib.hid (Hw_6.out.below bl7)
  have Hx2_7 := Lib.hid (Hx2_6.out.below bl7)
  have Hg_7 := Lib.hid (Hg_6.out.below bl7)
  have ZBaM_7 := Lib.hid (blk_later ZBaM_6.out bl7)
  have Zx2_7 := Lib.hid (blk_later Zx2_6.out bl7)
  clear cx20 cx21 cx22 cx23 cx2f zx2 cBaM0 cBaM1 cBaM2 cBaM3 cBaMf zBaM
  clear HraM_6 Hx1_6 Hw_6 Hx2_6 Hg_6 ZBaM_6 Zx2_6 bl7 B6
  obtain ⟨cx20, cx21, cx22, cx23, cx2f, zx2⟩ := blk4 Zx2_7.out
  go_wp2_with fail
  refine (markMatrix_any _ _ _ _ XaM _ _ _ _ Hx2_7.out (by omega) (by omega)).mono ?_
  rintro e w8 ⟨rfl, ho8, hb8⟩
  have sz8 := hb8.size
  have B8 := B7.trans (hb8.below (by omega) B7.size)
  have HraM_8 := Lib.hid (HraM_0.out.below B8)
  have Hx1_8 := Lib.hid (Hx1_7.out.frm hb8 (by omega))
  have Hw_8 := Lib.hid (Hw_7.out.frm hb8 (by omega))
  have Hg_8 := Lib.hid (Hg_7.out.frm hb8 (by omega))
  have ZBaM_8 := Lib.hid (hb8.blk ZBaM_7.out (by omega))
  have Zx2_8 := Lib.hid (hb8.blk Zx2_7.out (by omega))
  have Hx2_8 := Lib.hid ho8
  clear ho8
  clear HraM_7 Hx1_7 Hw_7 Hg_7 ZBaM_7 Zx2_7 Hx2_7
  clear hb8 B7
  clear cx20 cx21 cx22 cx23 cx2f zx2
  go_wp2_with fail
  refine (eqIntS_same _ _ _ _ Hg_8.out.ints Hw_8.out.ints).mono ?_
  rintro e w9 ⟨rfl, hb9⟩
  have bl9 : Below w8.heap.size w8 w9 := hb9
  have sz9 : w8.heap.size ≤ w9.heap.size := by have := hb9.size; simpa using this
  have B9 := B8.trans (bl9.mono B8.size)
  have HraM_9 := Lib.hid (HraM_0.out.below B9)
  have Hx1_9 := Lib.hid (Hx1_8.out.below bl9)
  have Hw_9 := Lib.hid (Hw_8.out.below bl9)
  have Hx2_9 := Lib.hid (Hx2_8.out.below bl9)
  have Hg_9 := Lib.hid (Hg_8.out.below bl9)
  have ZBaM_9 := Lib.hid (blk_later ZBaM_8.out bl9)
  have Zx2_9 := Lib.hid (blk_later Zx2_8.out bl9)
  clear HraM_8 Hx1_8 Hw_8 Hx2_8 Hg_8 ZBaM_8 Zx2_8
  clear hb9 bl9 B8
  go_wp2_with fail
  refine (markIntS_any _ M _ _ 1 _ Hg_9.out (by omega) (by omega)).mono ?_
  rintro e w10 ⟨rfl, ho10, hb10⟩
  have sz10 := hb10.size
  have B10 := B9.trans (hb10.below (by omega) B9.size)
  have HraM_10 := Lib.hid (HraM_0.out.below B10)
  have Hx1_10 := Lib.hid (Hx1_9.out.frm hb10 (by omega))
  have Hw_10 := Lib.hid (Hw_9.out.frm hb10 (by omega))
  have Hx2_10 := Lib.hid (Hx2_9.out.frm hb10 (by omega))
  have ZBaM_10 := Lib.hid (hb10.blk ZBaM_9.out (by omega))
  have Zx2_10 := Lib.hid (hb10.blk Zx2_9.out (by omega))
  have Hg_10 := Lib.hid ho10
  clear ho10
  clear HraM_9 Hx1_9 Hw_9 Hx2_9 ZBaM_9 Zx2_9 Hg_9
  clear hb10 B9
  go_wp2_with fail
  refine (heldIntS_runs _ M.length 1 _ Hg_10.out.ints (by omega) (by omega)).mono ?_
  rintro e w11 ⟨rfl, hb11⟩
  have bl11 : Below w10.heap.size w10 w11 := hb11
  have sz11 : w10.heap.size ≤ w11.heap.size := by have := hb11.size; simpa using this
  have B11 := B10.trans (bl11.mono B10.size)
  have HraM_11 := Lib.hid (HraM_0.out.below B11)
  have Hx1_11 := Lib.hid (Hx1_10.out.below bl11)
  have Hw_11 := Lib.hid (Hw_10.out.below bl11)
  have Hx2_11 := Lib.hid (Hx2_10.out.below bl11)
  have Hg_11 := Lib.hid (Hg_10.out.below bl11)
  have ZBaM_11 := Lib.hid (blk_later ZBaM_10.out bl11)
  have Zx2_11 := Lib.hid (blk_later Zx2_10.out bl11)
  clear HraM_10 Hx1_10 Hw_10 Hx2_10 Hg_10 ZBaM_10 Zx2_10
  clear hb11 bl11 B10
  obtain ⟨cBaM0, cBaM1, cBaM2, cBaM3, cBaMf, zBaM⟩ := blk4 ZBaM_11.out
  go_wp2_with fail
  refine (toMatrix_any _ _ _ _ XaM _ HraM_11.out saM).mono ?_
  rintro e w12 ⟨ux3, rfl, ho12, hb12⟩
  have bl12 : Below w11.heap.size w11 w12 := hb12
  have sz12 : w11.heap.size ≤ w12.heap.size := by have := hb12.size; simpa using this
  have B12 := B11.trans (bl12.mono B11.size)
  have HraM_12 := Lib.hid (HraM_0.out.below B12)
  have Hx1_12 := Lib.hid (Hx1_11.out.below bl12)
  have Hw_12 := Lib.hid (Hw_11.out.below bl12)
  have Hx2_12 := Lib.hid (Hx2_11.out.below bl12)
  have Hg_12 := Lib.hid (Hg_11.out.below bl12)
  have ZBaM_12 := Lib.hid (blk_later ZBaM_11.out bl12)
  have Zx2_12 := Lib.hid (blk_later Zx2_11.out bl12)
  have Hx3_12 : Hid (OwnI 3 w12 (w11.heap.size) w12.heap.size ux3 XaM) := Lib.hid (ho12.mono (by simp) (Nat.le_refl _))
  clear ho12
  clear HraM_11 Hx1_11 Hw_11 Hx2_11 Hg_11 ZBaM_11 Zx2_11
  clear hb12 bl12 B11
  clear cBaM0 cBaM1 cBaM2 cBaM3 cBaMf zBaM
  obtain ⟨px3, kx3, rfl, lx3, mx3⟩ := Hx3_12.out.shape
  go_wp2_with fail
  refine (Ci.out _ _ Hx3_12.out.ints).mono ?_
  rintro e w13 ⟨uh, rfl, ho13, hb13⟩
  have bl13 : Below w12.heap.size w12 w13 := hb13
  have sz13 : w12.heap.size ≤ w13.heap.size := by have := hb13.size; simpa using this
  have B13 := B12.trans (bl13.mono B12.size)
  have HraM_13 := Lib.hid (HraM_0.out.below B13)
  have Hx1_13 := Lib.hid (Hx1_12.out.below bl13)
  have Hw_13 := Lib.hid (Hw_12.out.below bl13)
  have Hx2_13 := Lib.hid (Hx2_12.out.below bl13)
  have Hg_13 := Lib.hid (Hg_12.out.below bl13)
  have Hx3_13 := Lib.hid (Hx3_12.out.below bl13)
  have ZBaM_13 := Lib.hid (blk_later ZBaM_12.out bl13)
  have Zx2_13 := Lib.hid (blk_later Zx2_12.out bl13)
  have Hh_13 : Hid (OwnI 3 w13 (w12.heap.size) w13.heap.size uh M) := Lib.hid (ho13.mono (by simp) (Nat.le_refl _))
  clear ho13
  clear HraM_12 Hx1_12 Hw_12 Hx2_12 Hg_12 Hx3_12 ZBaM_12 Zx2_12
  clear hb13 bl13 B12
  obtain ⟨ph, kh, rfl, lh, mh⟩ := Hh_13.out.shape
  go_wp2_with fail
  refine (eqIntS_same _ _ _ _ Hh_13.out.ints Hw_13.out.ints).mono ?_
  rintro e w14 ⟨rfl, hb14⟩
  have bl14 : Below w13.heap.size w13 w14 := hb14
  have sz14 : w13.heap.size ≤ w14.heap.size := by have := hb14.size; simpa using this
  have B14 := B13.trans (bl14.mono B13.size)
  have HraM_14 := Lib.hid (HraM_0.out.below B14)
  have Hx1_14 := Lib.hid (Hx1_13.out.below bl14)
  have Hw_14 := Lib.hid (Hw_13.out.below bl14)
  have Hx2_14 := Lib.hid (Hx2_13.out.below bl14)
  have Hg_14 := Lib.hid (Hg_13.out.below bl14)
  have Hx3_14 := Lib.hid (Hx3_13.out.below bl14)
  have Hh_14 := Lib.hid (Hh_13.out.below bl14)
  have ZBaM_14 := Lib.hid (blk_later ZBaM_13.out bl14)
  have Zx2_14 := Lib.hid (blk_later Zx2_13.out bl14)
  clear HraM_13 Hx1_13 Hw_13 Hx2_13 Hg_13 Hx3_13 Hh_13 ZBaM_13 Zx2_13
  clear hb14 bl14 B13
  go_wp2_with fail
  refine (heldIntS_runs _ M.length 1 _ Hg_14.out.ints (by omega) (by omega)).mono ?_
  rintro e w15 ⟨rfl, hb15⟩
  have bl15 : Below w14.heap.size w14 w15 := hb15
  have sz15 : w14.heap.size ≤ w15.heap.size := by have := hb15.size; simpa using this
  have B15 := B14.trans (bl15.mono B14.size)
  have HraM_15 := Lib.hid (HraM_0.out.below B15)
  have Hx1_15 := Lib.hid (Hx1_14.out.below bl15)
  have Hw_15 := Lib.hid (Hw_14.out.below bl15)
  have Hx2_15 := Lib.hid (Hx2_14.out.below bl15)
  have Hg_15 := Lib.hid (Hg_14.out.below bl15)
  have Hx3_15 := Lib.hid (Hx3_14.out.below bl15)
  have Hh_15 := Lib.hid (Hh_14.out.below bl15)
  have ZBaM_15 := Lib.hid (blk_later ZBaM_14.out bl15)
  have Zx2_15 := Lib.hid (blk_later Zx2_14.out bl15)
  clear HraM_14 Hx1_14 Hw_14 Hx2_14 Hg_14 Hx3_14 Hh_14 ZBaM_14 Zx2_14
  clear hb15 bl15 B14
  go_wp2_with fail
  go_ret
  exact ⟨rfl, B15⟩

end Go.Proofs.Ytapmnfakjnhlbaa
