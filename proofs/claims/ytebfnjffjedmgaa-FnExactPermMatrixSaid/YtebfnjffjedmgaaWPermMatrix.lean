/-
  The law FnExactPermMatrix, walked call by call: it returns true, and nothing that was there has changed. (Printed by gen_law.py.)
-/
import Derived.Test.YtebfnjffjedmgaaPmat
namespace Go.Proofs.Ytebfnjffjedmgaa
open Go.RowKit

set_option maxRecDepth 100000 in
set_option maxHeartbeats 4000000 in
theorem lawPermMatrix (aP : Int) (vaW : Value) (XaW : List Int) (w0 : World) (haW : Ints w0 vaW XaW) :
    Calls Try.prog 5 #[.int .i64 aP, vaW] w0 fun e w' => e = .returned (.bool true) ∧ Below w0.heap.size w0 w' := by
  have HraW_0 := Lib.hid haW
  obtain ⟨paW, kaW, rfl, ⟨laW, maW⟩, _⟩ := haW
  unfold maxLen at maW
  by_cases saW : XaW.length ≤ 1048576
  case neg =>
    have baW : (1048576 : Int) < (XaW.length : Int) := by omega
    go_enter Try.func5, Try.ntmps5
    go_wp2_with fail
    go_ret
    exact ⟨rfl, Below.refl _ _⟩
  have taW : ¬ (1048576 : Int) < (XaW.length : Int) := by omega
  have cs := fun (uaW : Value) (W : World) (haW : Ints W uaW XaW) => specPermMatrix_any aP uaW XaW W haW
  have ci := fun (uaW : Value) (W : World) (haW : Ints W uaW XaW) => implPermMatrix_any aP uaW XaW W haW
  have hM := permMx_len aP XaW
  generalize permMx aP XaW = M at cs ci hM
  have Cs := Lib.hid cs
  have Ci := Lib.hid ci
  clear cs ci
  have B0 := Below.refl w0.heap.size w0
  go_enter Try.func5, Try.ntmps5
  go_wp2_with fail
  refine (toIntS_any _ XaW _ HraW_0.out saW).mono ?_
  rintro e w1 ⟨ux1, rfl, ho1, hb1⟩
  have bl1 : Below w0.heap.size w0 w1 := hb1
  have sz1 : w0.heap.size ≤ w1.heap.size := by have := hb1.size; simpa using this
  have B1 := B0.trans (bl1.mono B0.size)
  have HraW_1 := Lib.hid (HraW_0.out.below B1)
  have Hx1_1 : Hid (OwnI 3 w1 (w0.heap.size) w1.heap.size ux1 XaW) := Lib.hid (ho1.mono (by simp) (Nat.le_refl _))
  clear ho1
  clear hb1 bl1 B0
  go_wp2_with fail
  refine (Cs.out _ _ Hx1_1.out.ints).mono ?_
  rintro e w2 ⟨uw, rfl, ho2, hb2⟩
  have bl2 : Below w1.heap.size w1 w2 := hb2
  have sz2 : w1.heap.size ≤ w2.heap.size := by have := hb2.size; simpa using this
  have B2 := B1.trans (bl2.mono B1.size)
  have HraW_2 := Lib.hid (HraW_0.out.below B2)
  have Hx1_2 := Lib.hid (Hx1_1.out.below bl2)
  have Hw_2 : Hid (OwnI 3 w2 (w1.heap.size) w2.heap.size uw M.D) := Lib.hid (ho2.mono (by simp) (Nat.le_refl _))
  clear ho2
  clear HraW_1 Hx1_1
  clear hb2 bl2 B1
  obtain ⟨pw, kw, rfl, lw, mw⟩ := Hw_2.out.shape
  go_wp2_with fail
  refine (toIntS_any _ XaW _ (HraW_2.out.below (below_alloc _ _)) saW).mono ?_
  rintro e w3 ⟨ux2, rfl, ho3, hb3⟩
  have bl3 : Below w2.heap.size w2 w3 := (below_alloc _ _).trans (hb3.mono (by simp))
  have sz3 : w2.heap.size + 1 ≤ w3.heap.size := by have := hb3.size; simpa using this
  have B3 := B2.trans (bl3.mono B2.size)
  have HraW_3 := Lib.hid (HraW_0.out.below B3)
  have Hx1_3 := Lib.hid (Hx1_2.out.below bl3)
  have Hw_3 := Lib.hid (Hw_2.out.below bl3)
  have Zw_3 := Lib.hid ((hb3.block _ (by simp)).trans (heap_alloc_top _ _))
  have Hx2_3 : Hid (OwnI 3 w3 (w2.heap.size + 1) w3.heap.size ux2 XaW) := Lib.hid (ho3.mono (by simp) (Nat.le_refl _))
  clear ho3
  clear HraW_2 Hx1_2 Hw_2
  clear hb3 bl3 B2
  go_wp2_with fail
  refine (Ci.out _ _ Hx2_3.out.ints).mono ?_
  rintro e w4 ⟨ug, rfl, ho4, hb4⟩
  have bl4 : Below w3.heap.size w3 w4 := hb4
  have sz4 : w3.heap.size ≤ w4.heap.size := by have := hb4.size; simpa using this
  have B4 := B3.trans (bl4.mono B3.size)
  have HraW_4 := Lib.hid (HraW_0.out.below B4)
  have Hx1_4 := Lib.hid (Hx1_3.out.below bl4)
  have Hw_4 := Lib.hid (Hw_3.out.below bl4)
  have Hx2_4 := Lib.hid (Hx2_3.out.below bl4)
  have Zw_4 := Lib.hid (blk_later Zw_3.out bl4)
  have Hg_4 : Hid (OwnI 3 w4 (w3.heap.size) w4.heap.size ug M.D) := Lib.hid (ho4.mono (by simp) (Nat.le_refl _))
  clear ho4
  clear HraW_3 Hx1_3 Hw_3 Hx2_3 Zw_3
  clear hb4 bl4 B3
  obtain ⟨pg, kg, rfl, lg, mg⟩ := Hg_4.out.shape
  obtain ⟨cw0, cw1, cw2, cw3, cwf, zw⟩ := blk4 Zw_4.out
  go_wp2_with fail
  refine (eqMatrix_same _ _ _ _ _ _ _ (Hg_4.out.below (below_alloc _ _)).ints (Hw_4.out.below (below_alloc _ _)).ints).mono ?_
  rintro e w5 ⟨rfl, hb5⟩
  have bl5 : Below w4.heap.size w4 w5 := (below_alloc _ _).trans (hb5.mono (by simp))
  have sz5 : w4.heap.size + 1 ≤ w5.heap.size := by have := hb5.size; simpa using this
  have B5 := B4.trans (bl5.mono B4.size)
  have HraW_5 := Lib.hid (HraW_0.out.below B5)
  have Hx1_5 := Lib.hid (Hx1_4.out.below bl5)
  have Hw_5 := Lib.hid (Hw_4.out.below bl5)
  have Hx2_5 := Lib.hid (Hx2_4.out.below bl5)
  have Hg_5 := Lib.hid (Hg_4.out.below bl5)
  have Zw_5 := Lib.hid (blk_later Zw_4.out bl5)
  have Zg_5 := Lib.hid ((hb5.block _ (by simp)).trans (heap_alloc_top _ _))
  clear HraW_4 Hx1_4 Hw_4 Hx2_4 Hg_4 Zw_4
  clear hb5 bl5 B4
  clear cw0 cw1 cw2 cw3 cwf zw
  go_wp2_with fail
  refine (toIntS_any _ XaW _ HraW_5.out saW).mono ?_
  rintro e w6 ⟨ux3, rfl, ho6, hb6⟩
  have bl6 : Below w5.heap.size w5 w6 := hb6
  have sz6 : w5.heap.size ≤ w6.heap.size := by have := hb6.size; simpa using this
  have B6 := B5.trans (bl6.mono B5.size)
  have HraW_6 := Lib.hid (HraW_0.out.below B6)
  have Hx1_6 := Lib.hid (Hx1_5.out.below bl6)
  have Hw_6 := Lib.hid (Hw_5.out.below bl6)
  have Hx2_6 := Lib.hid (Hx2_5.out.below bl6)
  have Hg_6 := Lib.hid (Hg_5.out.below bl6)
  have Zw_6 := Lib.hid (blk_later Zw_5.out bl6)
  have Zg_6 := Lib.hid (blk_later Zg_5.out bl6)
  have Hx3_6 : Hid (OwnI 3 w6 (w5.heap.size) w6.heap.size ux3 XaW) := Lib.hid (ho6.mono (by simp) (Nat.le_refl _))
  clear ho6
  clear HraW_5 Hx1_5 Hw_5 Hx2_5 Hg_5 Zw_5 Zg_5
  clear hb6 bl6 B5
  go_wp2_with fail
  refine (eqIntS_same _ _ XaW _ Hx2_6.out.ints Hx3_6.out.ints).mono ?_
  rintro e w7 ⟨rfl, hb7⟩
  have bl7 : Below w6.heap.size w6 w7 := hb7
  have sz7 : w6.heap.size ≤ w7.heap.size := by have := hb7.size; simpa using this
  have B7 := B6.trans (bl7.mono B6.size)
  have HraW_7 := Lib.hid (HraW_0.out.below B7)
  have Hx1_7 := Lib.hid (Hx1_6.out.below bl7)
  have Hw_7 := Lib.hid (Hw_6.out.below bl7)
  have Hx2_7 := Lib.hid (Hx2_6.out.below bl7)
  have Hg_7 := Lib.hid (Hg_6.out.below bl7)
  have Hx3_7 := Lib.hid (Hx3_6.out.below bl7)
  have Zw_7 := Lib.hid (blk_later Zw_6.out bl7)
  have Zg_7 := Lib.hid (blk_later Zg_6.out bl7)
  clear HraW_6 Hx1_6 Hw_6 Hx2_6 Hg_6 Hx3_6 Zw_6 Zg_6
  clear hb7 bl7 B6
  go_wp2_with fail
  refine (markIntS_any _ XaW _ _ _ _ Hx2_7.out (by omega) (by omega)).mono ?_
  rintro e w8 ⟨rfl, ho8, hb8⟩
  have sz8 := hb8.size
  have B8 := B7.trans (hb8.below (by omega) B7.size)
  have HraW_8 := Lib.hid (HraW_0.out.below B8)
  have Hx1_8 := Lib.hid (Hx1_7.out.frm hb8 (by omega))
  have Hw_8 := Lib.hid (Hw_7.out.frm hb8 (by omega))
  have Hg_8 := Lib.hid (Hg_7.out.frm hb8 (by omega))
  have Hx3_8 := Lib.hid (Hx3_7.out.frm hb8 (by omega))
  have Zw_8 := Lib.hid (hb8.blk Zw_7.out (by omega))
  have Zg_8 := Lib.hid (hb8.blk Zg_7.out (by omega))
  have Hx2_8 := Lib.hid ho8
  clear ho8
  clear HraW_7 Hx1_7 Hw_7 Hg_7 Hx3_7 Zw_7 Zg_7 Hx2_7
  clear hb8 B7
  obtain ⟨cg0, cg1, cg2, cg3, cgf, zg⟩ := blk4 Zg_8.out
  obtain ⟨cw0, cw1, cw2, cw3, cwf, zw⟩ := blk4 Zw_8.out
  go_wp2_with fail
  refine (eqMatrix_same _ _ _ _ _ _ _ Hg_8.out.ints Hw_8.out.ints).mono ?_
  rintro e w9 ⟨rfl, hb9⟩
  have bl9 : Below w8.heap.size w8 w9 := hb9
  have sz9 : w8.heap.size ≤ w9.heap.size := by have := hb9.size; simpa using this
  have B9 := B8.trans (bl9.mono B8.size)
  have HraW_9 := Lib.hid (HraW_0.out.below B9)
  have Hx1_9 := Lib.hid (Hx1_8.out.below bl9)
  have Hw_9 := Lib.hid (Hw_8.out.below bl9)
  have Hx2_9 := Lib.hid (Hx2_8.out.below bl9)
  have Hg_9 := Lib.hid (Hg_8.out.below bl9)
  have Hx3_9 := Lib.hid (Hx3_8.out.below bl9)
  have Zw_9 := Lib.hid (blk_later Zw_8.out bl9)
  have Zg_9 := Lib.hid (blk_later Zg_8.out bl9)
  clear HraW_8 Hx1_8 Hw_8 Hx2_8 Hg_8 Hx3_8 Zw_8 Zg_8
  clear hb9 bl9 B8
  clear cg0 cg1 cg2 cg3 cgf zg cw0 cw1 cw2 cw3 cwf zw
  obtain ⟨cg0, cg1, cg2, cg3, cgf, zg⟩ := blk4 Zg_9.out
  go_wp2_with fail
  refine (markMatrix_any _ _ _ _ M.D _ _ 1 _ Hg_9.out (by omega) (by omega)).mono ?_
  rintro e w10 ⟨rfl, ho10, hb10⟩
  have sz10 := hb10.size
  have B10 := B9.trans (hb10.below (by omega) B9.size)
  have HraW_10 := Lib.hid (HraW_0.out.below B10)
  have Hx1_10 := Lib.hid (Hx1_9.out.frm hb10 (by omega))
  have Hw_10 := Lib.hid (Hw_9.out.frm hb10 (by omega))
  have Hx2_10 := Lib.hid (Hx2_9.out.frm hb10 (by omega))
  have Hx3_10 := Lib.hid (Hx3_9.out.frm hb10 (by omega))
  have Zw_10 := Lib.hid (hb10.blk Zw_9.out (by omega))
  have Zg_10 := Lib.hid (hb10.blk Zg_9.out (by omega))
  have Hg_10 := Lib.hid ho10
  clear ho10
  clear HraW_9 Hx1_9 Hw_9 Hx2_9 Hx3_9 Zw_9 Zg_9 Hg_9
  clear hb10 B9
  clear cg0 cg1 cg2 cg3 cgf zg
  obtain ⟨cg0, cg1, cg2, cg3, cgf, zg⟩ := blk4 Zg_10.out
  go_wp2_with fail
  refine (heldMatrix_runs _ _ _ _ M.D.length 1 _ Hg_10.out.ints (by omega) (by omega)).mono ?_
  rintro e w11 ⟨rfl, hb11⟩
  have bl11 : Below w10.heap.size w10 w11 := hb11
  have sz11 : w10.heap.size ≤ w11.heap.size := by have := hb11.size; simpa using this
  have B11 := B10.trans (bl11.mono B10.size)
  have HraW_11 := Lib.hid (HraW_0.out.below B11)
  have Hx1_11 := Lib.hid (Hx1_10.out.below bl11)
  have Hw_11 := Lib.hid (Hw_10.out.below bl11)
  have Hx2_11 := Lib.hid (Hx2_10.out.below bl11)
  have Hg_11 := Lib.hid (Hg_10.out.below bl11)
  have Hx3_11 := Lib.hid (Hx3_10.out.below bl11)
  have Zw_11 := Lib.hid (blk_later Zw_10.out bl11)
  have Zg_11 := Lib.hid (blk_later Zg_10.out bl11)
  clear HraW_10 Hx1_10 Hw_10 Hx2_10 Hg_10 Hx3_10 Zw_10 Zg_10
  clear hb11 bl11 B10
  clear cg0 cg1 cg2 cg3 cgf zg
  go_wp2_with fail
  refine (toIntS_any _ XaW _ HraW_11.out saW).mono ?_
  rintro e w12 ⟨ux4, rfl, ho12, hb12⟩
  have bl12 : Below w11.heap.size w11 w12 := hb12
  have sz12 : w11.heap.size ≤ w12.heap.size := by have := hb12.size; simpa using this
  have B12 := B11.trans (bl12.mono B11.size)
  have HraW_12 := Lib.hid (HraW_0.out.below B12)
  have Hx1_12 := Lib.hid (Hx1_11.out.below bl12)
  have Hw_12 := Lib.hid (Hw_11.out.below bl12)
  have Hx2_12 := Lib.hid (Hx2_11.out.below bl12)
  have Hg_12 := Lib.hid (Hg_11.out.below bl12)
  have Hx3_12 := Lib.hid (Hx3_11.out.below bl12)
  have Zw_12 := Lib.hid (blk_later Zw_11.out bl12)
  have Zg_12 := Lib.hid (blk_later Zg_11.out bl12)
  have Hx4_12 : Hid (OwnI 3 w12 (w11.heap.size) w12.heap.size ux4 XaW) := Lib.hid (ho12.mono (by simp) (Nat.le_refl _))
  clear ho12
  clear HraW_11 Hx1_11 Hw_11 Hx2_11 Hg_11 Hx3_11 Zw_11 Zg_11
  clear hb12 bl12 B11
  go_wp2_with fail
  refine (Ci.out _ _ Hx4_12.out.ints).mono ?_
  rintro e w13 ⟨uh, rfl, ho13, hb13⟩
  have bl13 : Below w12.heap.size w12 w13 := hb13
  have sz13 : w12.heap.size ≤ w13.heap.size := by have := hb13.size; simpa using this
  have B13 := B12.trans (bl13.mono B12.size)
  have HraW_13 := Lib.hid (HraW_0.out.below B13)
  have Hx1_13 := Lib.hid (Hx1_12.out.below bl13)
  have Hw_13 := Lib.hid (Hw_12.out.below bl13)
  have Hx2_13 := Lib.hid (Hx2_12.out.below bl13)
  have Hg_13 := Lib.hid (Hg_12.out.below bl13)
  have Hx3_13 := Lib.hid (Hx3_12.out.below bl13)
  have Hx4_13 := Lib.hid (Hx4_12.out.below bl13)
  have Zw_13 := Lib.hid (blk_later Zw_12.out bl13)
  have Zg_13 := Lib.hid (blk_later Zg_12.out bl13)
  have Hh_13 : Hid (OwnI 3 w13 (w12.heap.size) w13.heap.size uh M.D) := Lib.hid (ho13.mono (by simp) (Nat.le_refl _))
  clear ho13
  clear HraW_12 Hx1_12 Hw_12 Hx2_12 Hg_12 Hx3_12 Hx4_12 Zw_12 Zg_12
  clear hb13 bl13 B12
  obtain ⟨ph, kh, rfl, lh, mh⟩ := Hh_13.out.shape
  obtain ⟨cw0, cw1, cw2, cw3, cwf, zw⟩ := blk4 Zw_13.out
  go_wp2_with fail
  refine (eqMatrix_same _ _ _ _ _ _ _ (Hh_13.out.below (below_alloc _ _)).ints (Hw_13.out.below (below_alloc _ _)).ints).mono ?_
  rintro e w14 ⟨rfl, hb14⟩
  have bl14 : Below w13.heap.size w13 w14 := (below_alloc _ _).trans (hb14.mono (by simp))
  have sz14 : w13.heap.size + 1 ≤ w14.heap.size := by have := hb14.size; simpa using this
  have B14 := B13.trans (bl14.mono B13.size)
  have HraW_14 := Lib.hid (HraW_0.out.below B14)
  have Hx1_14 := Lib.hid (Hx1_13.out.below bl14)
  have Hw_14 := Lib.hid (Hw_13.out.below bl14)
  have Hx2_14 := Lib.hid (Hx2_13.out.below bl14)
  have Hg_14 := Lib.hid (Hg_13.out.below bl14)
  have Hx3_14 := Lib.hid (Hx3_13.out.below bl14)
  have Hx4_14 := Lib.hid (Hx4_13.out.below bl14)
  have Hh_14 := Lib.hid (Hh_13.out.below bl14)
  have Zw_14 := Lib.hid (blk_later Zw_13.out bl14)
  have Zg_14 := Lib.hid (blk_later Zg_13.out bl14)
  have Zh_14 := Lib.hid ((hb14.block _ (by simp)).trans (heap_alloc_top _ _))
  clear HraW_13 Hx1_13 Hw_13 Hx2_13 Hg_13 Hx3_13 Hx4_13 Hh_13 Zw_13 Zg_13
  clear hb14 bl14 B13
  clear cw0 cw1 cw2 cw3 cwf zw
  obtain ⟨cg0, cg1, cg2, cg3, cgf, zg⟩ := blk4 Zg_14.out
  go_wp2_with fail
  refine (heldMatrix_runs _ _ _ _ M.D.length 1 _ Hg_14.out.ints (by omega) (by omega)).mono ?_
  rintro e w15 ⟨rfl, hb15⟩
  have bl15 : Below w14.heap.size w14 w15 := hb15
  have sz15 : w14.heap.size ≤ w15.heap.size := by have := hb15.size; simpa using this
  have B15 := B14.trans (bl15.mono B14.size)
  have HraW_15 := Lib.hid (HraW_0.out.below B15)
  have Hx1_15 := Lib.hid (Hx1_14.out.below bl15)
  have Hw_15 := Lib.hid (Hw_14.out.below bl15)
  have Hx2_15 := Lib.hid (Hx2_14.out.below bl15)
  have Hg_15 := Lib.hid (Hg_14.out.below bl15)
  have Hx3_15 := Lib.hid (Hx3_14.out.below bl15)
  have Hx4_15 := Lib.hid (Hx4_14.out.below bl15)
  have Hh_15 := Lib.hid (Hh_14.out.below bl15)
  have Zw_15 := Lib.hid (blk_later Zw_14.out bl15)
  have Zg_15 := Lib.hid (blk_later Zg_14.out bl15)
  have Zh_15 := Lib.hid (blk_later Zh_14.out bl15)
  clear HraW_14 Hx1_14 Hw_14 Hx2_14 Hg_14 Hx3_14 Hx4_14 Hh_14 Zw_14 Zg_14 Zh_14
  clear hb15 bl15 B14
  clear cg0 cg1 cg2 cg3 cgf zg
  go_wp2_with fail
  go_ret
  exact ⟨rfl, B15⟩

end Go.Proofs.Ytebfnjffjedmgaa
