/-
  The law FnExactIsGkm, walked call by call: it returns true, and nothing that was there has changed. (Printed by gen_law.py.)
-/
import Derived.Test.YtajilmfaconjbaaGkM
import Derived.Test.YtajilmfaconjbaaGkN
import Derived.Test.YtajilmfaconjbaaHeld2
namespace Go.Proofs.Ytajilmfaconjbaa
set_option linter.all false
open Go.RowKit

set_option maxRecDepth 100000 in
set_option maxHeartbeats 8000000 in
theorem lawIsGkm (aN : Int) (vaValues : Value) (XaValues : List Int) (vaY : Value) (XaY : List Int) (w0 : World) (haValues : Ints w0 vaValues XaValues) (haY : Ints w0 vaY XaY) :
    Calls Try.prog 3 #[.int .i64 aN, vaValues, vaY] w0 fun e w' => e = .returned (.bool true) ∧ Below w0.heap.size w0 w' := by
  have HraValues_0 := Lib.hid haValues
  obtain ⟨paValues, kaValues, rfl, ⟨laValues, maValues⟩, _⟩ := haValues
  unfold maxLen at maValues
  have HraY_0 := Lib.hid haY
  obtain ⟨paY, kaY, rfl, ⟨laY, maY⟩, _⟩ := haY
  unfold maxLen at maY
  by_cases saValues : XaValues.length ≤ 1048576
  case neg =>
    have baValues : (1048576 : Int) < (XaValues.length : Int) := by omega
    go_enter Try.func3, Try.ntmps3
    go_wp2_with fail
    go_ret
    exact ⟨rfl, (Below.refl _ _)⟩
  have taValues : ¬ (1048576 : Int) < (XaValues.length : Int) := by omega
  by_cases saY : XaY.length ≤ 1048576
  case neg =>
    have baY : (1048576 : Int) < (XaY.length : Int) := by omega
    go_enter Try.func3, Try.ntmps3
    go_wp2_with fail
    go_ret
    exact ⟨rfl, (Below.refl _ _)⟩
  have taY : ¬ (1048576 : Int) < (XaY.length : Int) := by omega
  have cs := fun (uaValues : Value) (uaY : Value) (W : World) (haValues : Ints W uaValues XaValues) (haY : Ints W uaY XaY) => (specIsGkm_any aN uaValues uaY XaValues XaY W haValues haY)
  have ci := fun (uaValues : Value) (uaY : Value) (W : World) (haValues : Ints W uaValues XaValues) (haY : Ints W uaY XaY) => (implIsGkm_any aN uaValues uaY XaValues XaY W haValues haY)
  generalize Classical.epsilon (GkIs aN XaValues XaY) = M at cs ci
  have Cs := Lib.hid cs
  have Ci := Lib.hid ci
  clear cs ci
  have B0 := Below.refl w0.heap.size w0
  go_enter Try.func3, Try.ntmps3
  go_wp2_with fail
  refine (toIntS_any _ XaValues _ HraValues_0.out saValues).mono ?_
  rintro e w1 ⟨ux1, rfl, ho1, hb1⟩
  have bl1 : Below w0.heap.size w0 w1 := hb1
  have sz1 : w0.heap.size ≤ w1.heap.size := by have := hb1.size; simpa using this
  have B1 := B0.trans (bl1.mono B0.size)
  have HraValues_1 := Lib.hid (HraValues_0.out.below B1)
  have HraY_1 := Lib.hid (HraY_0.out.below B1)
  have Hx1_1 : Hid (OwnI 3 w1 (w0.heap.size) w1.heap.size ux1 XaValues) := Lib.hid (ho1.mono (by simp) (Nat.le_refl _))
  clear ho1
  clear hb1 bl1 B0
  go_wp2_with fail
  refine (toIntS_any _ XaY _ HraY_1.out saY).mono ?_
  rintro e w2 ⟨ux2, rfl, ho2, hb2⟩
  have bl2 : Below w1.heap.size w1 w2 := hb2
  have sz2 : w1.heap.size ≤ w2.heap.size := by have := hb2.size; simpa using this
  have B2 := B1.trans (bl2.mono B1.size)
  have HraValues_2 := Lib.hid (HraValues_0.out.below B2)
  have HraY_2 := Lib.hid (HraY_0.out.below B2)
  have Hx1_2 := Lib.hid (Hx1_1.out.below bl2)
  have Hx2_2 : Hid (OwnI 3 w2 (w1.heap.size) w2.heap.size ux2 XaY) := Lib.hid (ho2.mono (by simp) (Nat.le_refl _))
  clear ho2
  clear HraValues_1 HraY_1 Hx1_1
  clear hb2 bl2 B1
  go_wp2_with fail
  refine (Cs.out _ _ _ Hx1_2.out.ints Hx2_2.out.ints).mono ?_
  rintro e w3 ⟨rfl, hb3⟩
  have bl3 : Below w2.heap.size w2 w3 := hb3
  have sz3 : w2.heap.size ≤ w3.heap.size := by have := hb3.size; simpa using this
  have B3 := B2.trans (bl3.mono B2.size)
  have HraValues_3 := Lib.hid (HraValues_0.out.below B3)
  have HraY_3 := Lib.hid (HraY_0.out.below B3)
  have Hx1_3 := Lib.hid (Hx1_2.out.below bl3)
  have Hx2_3 := Lib.hid (Hx2_2.out.below bl3)
  clear HraValues_2 HraY_2 Hx1_2 Hx2_2
  clear hb3 bl3 B2
  go_wp2_with fail
  refine (toIntS_any _ XaValues _ HraValues_3.out saValues).mono ?_
  rintro e w4 ⟨ux3, rfl, ho4, hb4⟩
  have bl4 : Below w3.heap.size w3 w4 := hb4
  have sz4 : w3.heap.size ≤ w4.heap.size := by have := hb4.size; simpa using this
  have B4 := B3.trans (bl4.mono B3.size)
  have HraValues_4 := Lib.hid (HraValues_0.out.below B4)
  have HraY_4 := Lib.hid (HraY_0.out.below B4)
  have Hx1_4 := Lib.hid (Hx1_3.out.below bl4)
  have Hx2_4 := Lib.hid (Hx2_3.out.below bl4)
  have Hx3_4 : Hid (OwnI 3 w4 (w3.heap.size) w4.heap.size ux3 XaValues) := Lib.hid (ho4.mono (by simp) (Nat.le_refl _))
  clear ho4
  clear HraValues_3 HraY_3 Hx1_3 Hx2_3
  clear hb4 bl4 B3
  go_wp2_with fail
  refine (toIntS_any _ XaY _ HraY_4.out saY).mono ?_
  rintro e w5 ⟨ux4, rfl, ho5, hb5⟩
  have bl5 : Below w4.heap.size w4 w5 := hb5
  have sz5 : w4.heap.size ≤ w5.heap.size := by have := hb5.size; simpa using this
  have B5 := B4.trans (bl5.mono B4.size)
  have HraValues_5 := Lib.hid (HraValues_0.out.below B5)
  have HraY_5 := Lib.hid (HraY_0.out.below B5)
  have Hx1_5 := Lib.hid (Hx1_4.out.below bl5)
  have Hx2_5 := Lib.hid (Hx2_4.out.below bl5)
  have Hx3_5 := Lib.hid (Hx3_4.out.below bl5)
  have Hx4_5 : Hid (OwnI 3 w5 (w4.heap.size) w5.heap.size ux4 XaY) := Lib.hid (ho5.mono (by simp) (Nat.le_refl _))
  clear ho5
  clear HraValues_4 HraY_4 Hx1_4 Hx2_4 Hx3_4
  clear hb5 bl5 B4
  go_wp2_with fail
  refine (Ci.out _ _ _ Hx3_5.out.ints Hx4_5.out.ints).mono ?_
  rintro e w6 ⟨rfl, hb6⟩
  have bl6 : Below w5.heap.size w5 w6 := hb6
  have sz6 : w5.heap.size ≤ w6.heap.size := by have := hb6.size; simpa using this
  have B6 := B5.trans (bl6.mono B5.size)
  have HraValues_6 := Lib.hid (HraValues_0.out.below B6)
  have HraY_6 := Lib.hid (HraY_0.out.below B6)
  have Hx1_6 := Lib.hid (Hx1_5.out.below bl6)
  have Hx2_6 := Lib.hid (Hx2_5.out.below bl6)
  have Hx3_6 := Lib.hid (Hx3_5.out.below bl6)
  have Hx4_6 := Lib.hid (Hx4_5.out.below bl6)
  clear HraValues_5 HraY_5 Hx1_5 Hx2_5 Hx3_5 Hx4_5
  clear hb6 bl6 B5
  go_wp2_with fail
  refine (toIntS_any _ XaValues _ HraValues_6.out saValues).mono ?_
  rintro e w7 ⟨ux5, rfl, ho7, hb7⟩
  have bl7 : Below w6.heap.size w6 w7 := hb7
  have sz7 : w6.heap.size ≤ w7.heap.size := by have := hb7.size; simpa using this
  have B7 := B6.trans (bl7.mono B6.size)
  have HraValues_7 := Lib.hid (HraValues_0.out.below B7)
  have HraY_7 := Lib.hid (HraY_0.out.below B7)
  have Hx1_7 := Lib.hid (Hx1_6.out.below bl7)
  have Hx2_7 := Lib.hid (Hx2_6.out.below bl7)
  have Hx3_7 := Lib.hid (Hx3_6.out.below bl7)
  have Hx4_7 := Lib.hid (Hx4_6.out.below bl7)
  have Hx5_7 : Hid (OwnI 3 w7 (w6.heap.size) w7.heap.size ux5 XaValues) := Lib.hid (ho7.mono (by simp) (Nat.le_refl _))
  clear ho7
  clear HraValues_6 HraY_6 Hx1_6 Hx2_6 Hx3_6 Hx4_6
  clear hb7 bl7 B6
  go_wp2_with fail
  refine (eqIntS_same _ _ XaValues _ Hx3_7.out.ints Hx5_7.out.ints).mono ?_
  rintro e w8 ⟨rfl, hb8⟩
  have bl8 : Below w7.heap.size w7 w8 := hb8
  have sz8 : w7.heap.size ≤ w8.heap.size := by have := hb8.size; simpa using this
  have B8 := B7.trans (bl8.mono B7.size)
  have HraValues_8 := Lib.hid (HraValues_0.out.below B8)
  have HraY_8 := Lib.hid (HraY_0.out.below B8)
  have Hx1_8 := Lib.hid (Hx1_7.out.below bl8)
  have Hx2_8 := Lib.hid (Hx2_7.out.below bl8)
  have Hx3_8 := Lib.hid (Hx3_7.out.below bl8)
  have Hx4_8 := Lib.hid (Hx4_7.out.below bl8)
  have Hx5_8 := Lib.hid (Hx5_7.out.below bl8)
  clear HraValues_7 HraY_7 Hx1_7 Hx2_7 Hx3_7 Hx4_7 Hx5_7
  clear hb8 bl8 B7
  go_wp2_with fail
  refine (toIntS_any _ XaY _ HraY_8.out saY).mono ?_
  rintro e w9 ⟨ux6, rfl, ho9, hb9⟩
  have bl9 : Below w8.heap.size w8 w9 := hb9
  have sz9 : w8.heap.size ≤ w9.heap.size := by have := hb9.size; simpa using this
  have B9 := B8.trans (bl9.mono B8.size)
  have HraValues_9 := Lib.hid (HraValues_0.out.below B9)
  have HraY_9 := Lib.hid (HraY_0.out.below B9)
  have Hx1_9 := Lib.hid (Hx1_8.out.below bl9)
  have Hx2_9 := Lib.hid (Hx2_8.out.below bl9)
  have Hx3_9 := Lib.hid (Hx3_8.out.below bl9)
  have Hx4_9 := Lib.hid (Hx4_8.out.below bl9)
  have Hx5_9 := Lib.hid (Hx5_8.out.below bl9)
  have Hx6_9 : Hid (OwnI 3 w9 (w8.heap.size) w9.heap.size ux6 XaY) := Lib.hid (ho9.mono (by simp) (Nat.le_refl _))
  clear ho9
  clear HraValues_8 HraY_8 Hx1_8 Hx2_8 Hx3_8 Hx4_8 Hx5_8
  clear hb9 bl9 B8
  go_wp2_with fail
  refine (eqIntS_same _ _ XaY _ Hx4_9.out.ints Hx6_9.out.ints).mono ?_
  rintro e w10 ⟨rfl, hb10⟩
  have bl10 : Below w9.heap.size w9 w10 := hb10
  have sz10 : w9.heap.size ≤ w10.heap.size := by have := hb10.size; simpa using this
  have B10 := B9.trans (bl10.mono B9.size)
  have HraValues_10 := Lib.hid (HraValues_0.out.below B10)
  have HraY_10 := Lib.hid (HraY_0.out.below B10)
  have Hx1_10 := Lib.hid (Hx1_9.out.below bl10)
  have Hx2_10 := Lib.hid (Hx2_9.out.below bl10)
  have Hx3_10 := Lib.hid (Hx3_9.out.below bl10)
  have Hx4_10 := Lib.hid (Hx4_9.out.below bl10)
  have Hx5_10 := Lib.hid (Hx5_9.out.below bl10)
  have Hx6_10 := Lib.hid (Hx6_9.out.below bl10)
  clear HraValues_9 HraY_9 Hx1_9 Hx2_9 Hx3_9 Hx4_9 Hx5_9 Hx6_9
  clear hb10 bl10 B9
  go_wp2_with fail
  go_ret
  exact ⟨rfl, B10⟩

end Go.Proofs.Ytajilmfaconjbaa
