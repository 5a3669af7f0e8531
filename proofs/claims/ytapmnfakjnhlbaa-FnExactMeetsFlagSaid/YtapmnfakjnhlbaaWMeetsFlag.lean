/-
  The law FnExactMeetsFlag, walked call by call: it returns true, and nothing that was there has changed. (Printed by gen_law.py.)
-/
import Derived.Test.YtapmnfakjnhlbaaMeetF
import Derived.Test.YtapmnfakjnhlbaaHeld2
namespace Go.Proofs.Ytapmnfakjnhlbaa
set_option linter.all false
open Go.RowKit

set_option maxRecDepth 100000 in
set_option maxHeartbeats 8000000 in
theorem lawMeetsFlag (aAP aAR aAC : Int) (vaA : Value) (XaA : List Int) (aBP aBR aBC : Int) (vaB : Value) (XaB : List Int) (vaS : Value) (XaS : List Int) (w0 : World) (haA : Ints w0 vaA XaA) (haB : Ints w0 vaB XaB) (haS : Ints w0 vaS XaS) :
    Calls Try.prog 6 #[.agg #[.int .i64 aAP, .int .i64 aAR, .int .i64 aAC, vaA], .agg #[.int .i64 aBP, .int .i64 aBR, .int .i64 aBC, vaB], vaS] w0 fun e w' => e = .returned (.bool true) ∧ Below w0.heap.size w0 w' := by
  have HraA_0 := Lib.hid haA
  obtain ⟨paA, kaA, rfl, ⟨laA, maA⟩, _⟩ := haA
  unfold maxLen at maA
  have HraB_0 := Lib.hid haB
  obtain ⟨paB, kaB, rfl, ⟨laB, maB⟩, _⟩ := haB
  unfold maxLen at maB
  have HraS_0 := Lib.hid haS
  obtain ⟨paS, kaS, rfl, ⟨laS, maS⟩, _⟩ := haS
  unfold maxLen at maS
  by_cases saS : XaS.length ≤ 1048576
  case neg =>
    have baS : (1048576 : Int) < (XaS.length : Int) := by omega
    go_enter Try.func6, Try.ntmps6
    go_wp2_with fail
    go_ret
    exact ⟨rfl, (below_alloc2 _ _ _)⟩
  have taS : ¬ (1048576 : Int) < (XaS.length : Int) := by omega
  by_cases SaA : (XaA.length : Int) ≤ 1048576
  case neg =>
    go_enter Try.func6, Try.ntmps6
    go_wp2_with fail
    refine (szMatrix_big _ _ _ _ _ _ 1048576 _ (by omega) (by omega) (by omega) (by omega)).mono ?_
    rintro e w1 ⟨rfl, hb1⟩
    have bl1 : Below w0.heap.size w0 w1 := (below_alloc2 _ _ _).trans (hb1.mono (by simp; try omega))
    have sz1 : w0.heap.size + 2 ≤ w1.heap.size := by have := hb1.size; simp at this; omega
    have ZBaA_1 : Hid (w1.heap[w0.heap.size]? = some (.cells #[.int .i64 aAP, .int .i64 aAR, .int .i64 aAC, .slice paA XaA.length kaA] 24)) := Lib.hid ((hb1.block _ (by simp <;> omega)).trans ((heap_alloc_low _ _ (by simp <;> omega)).trans (heap_alloc_at _ _ (by simp <;> omega))))
    have ZBaB_1 : Hid (w1.heap[w0.heap.size + 1]? = some (.cells #[.int .i64 aBP, .int .i64 aBR, .int .i64 aBC, .slice paB XaB.length kaB] 24)) := Lib.hid ((hb1.block _ (by simp <;> omega)).trans (heap_alloc_at _ _ (by simp <;> omega)))
    clear hb1
    go_wp2_with fail
    go_ret
    exact ⟨rfl, bl1⟩
  by_cases SaB : (XaB.length : Int) ≤ (1048576 - (XaA.length : Int))
  case neg =>
    go_enter Try.func6, Try.ntmps6
    go_wp2_with fail
    refine (szMatrix_ok _ _ _ _ _ _ 1048576 _ SaA (by omega) (by omega)).mono ?_
    rintro e w1 ⟨rfl, hb1⟩
    have bl1 : Below w0.heap.size w0 w1 := (below_alloc2 _ _ _).trans (hb1.mono (by simp; try omega))
    have sz1 : w0.heap.size + 2 ≤ w1.heap.size := by have := hb1.size; simp at this; omega
    have ZBaA_1 : Hid (w1.heap[w0.heap.size]? = some (.cells #[.int .i64 aAP, .int .i64 aAR, .int .i64 aAC, .slice paA XaA.length kaA] 24)) := Lib.hid ((hb1.block _ (by simp <;> omega)).trans ((heap_alloc_low _ _ (by simp <;> omega)).trans (heap_alloc_at _ _ (by simp <;> omega))))
    have ZBaB_1 : Hid (w1.heap[w0.heap.size + 1]? = some (.cells #[.int .i64 aBP, .int .i64 aBR, .int .i64 aBC, .slice paB XaB.length kaB] 24)) := Lib.hid ((hb1.block _ (by simp <;> omega)).trans (heap_alloc_at _ _ (by simp <;> omega)))
    clear hb1
    obtain ⟨cBaB0, cBaB1, cBaB2, cBaB3, cBaBf, zBaB⟩ := blk4 ZBaB_1.out
    go_wp2_with fail
    refine (szMatrix_big _ _ _ _ _ _ (1048576 - (XaA.length : Int)) _ (by omega) (by omega) (by omega) (by omega)).mono ?_
    rintro e w2 ⟨rfl, hb2⟩
    have bl2 : Below w0.heap.size w0 w2 := bl1.trans (hb2.mono bl1.size)
    have sz2 := hb2.size
    have ZBaA_2 := Lib.hid (blk_later ZBaA_1.out hb2)
    have ZBaB_2 := Lib.hid (blk_later ZBaB_1.out hb2)
    clear ZBaA_1 ZBaB_1 bl1 cBaB0 cBaB1 cBaB2 cBaB3 cBaBf zBaB
    clear hb2
    go_wp2_with fail
    go_ret
    exact ⟨rfl, bl2⟩
  have saA : XaA.length ≤ 1048576 := by omega
  have saB : XaB.length ≤ 1048576 := by omega
  have cs := fun (uaA : Value) (uaB : Value) (uaS : Value) (W : World) (haA : Ints W uaA XaA) (haB : Ints W uaB XaB) (haS : Ints W uaS XaS) => (specMf_any aAP aAR aAC aBP aBR aBC uaA uaB uaS XaA XaB XaS W haA haB haS)
  have ci := fun (uaA : Value) (uaB : Value) (uaS : Value) (W : World) (haA : Ints W uaA XaA) (haB : Ints W uaB XaB) (haS : Ints W uaS XaS) => (implMf_any aAP aAR aAC aBP aBR aBC uaA uaB uaS XaA XaB XaS W haA haB haS)
  generalize Classical.epsilon (MfIs aAP aAR aAC XaA aBP aBR aBC XaB XaS) = M at cs ci
  have Cs := Lib.hid cs
  have Ci := Lib.hid ci
  clear cs ci
  have B0 := Below.refl w0.heap.size w0
  go_enter Try.func6, Try.ntmps6
  go_wp2_with fail
  refine (szMatrix_ok _ _ _ _ _ _ 1048576 _ SaA (by omega) (by omega)).mono ?_
  rintro e w1 ⟨rfl, hb1⟩
  have bl1 : Below w0.heap.size w0 w1 := (below_alloc2 _ _ _).trans (hb1.mono (by simp; try omega))
  have sz1 : w0.heap.size + 2 ≤ w1.heap.size := by have := hb1.size; simp at this; omega
  have ZBaA_1 : Hid (w1.heap[w0.heap.size]? = some (.cells #[.int .i64 aAP, .int .i64 aAR, .int .i64 aAC, .slice paA XaA.length kaA] 24)) := Lib.hid ((hb1.block _ (by simp <;> omega)).trans ((heap_alloc_low _ _ (by simp <;> omega)).trans (heap_alloc_at _ _ (by simp <;> omega))))
  have ZBaB_1 : Hid (w1.heap[w0.heap.size + 1]? = some (.cells #[.int .i64 aBP, .int .i64 aBR, .int .i64 aBC, .slice paB XaB.length kaB] 24)) := Lib.hid ((hb1.block _ (by simp <;> omega)).trans (heap_alloc_at _ _ (by simp <;> omega)))
  clear hb1
  obtain ⟨cBaB0, cBaB1, cBaB2, cBaB3, cBaBf, zBaB⟩ := blk4 ZBaB_1.out
  go_wp2_with fail
  refine (szMatrix_ok _ _ _ _ _ _ (1048576 - (XaA.length : Int)) _ SaB (by omega) (by omega)).mono ?_
  rintro e w2 ⟨rfl, hb2⟩
  have bl2 : Below w0.heap.size w0 w2 := bl1.trans (hb2.mono bl1.size)
  have sz2 := hb2.size
  have ZBaA_2 := Lib.hid (blk_later ZBaA_1.out hb2)
  have ZBaB_2 := Lib.hid (blk_later ZBaB_1.out hb2)
  clear ZBaA_1 ZBaB_1 bl1 cBaB0 cBaB1 cBaB2 cBaB3 cBaBf zBaB
  clear hb2
  have B2 := bl2
  clear bl2 B0
  have HraA_2 := Lib.hid (HraA_0.out.below B2)
  have HraB_2 := Lib.hid (HraB_0.out.below B2)
  have HraS_2 := Lib.hid (HraS_0.out.below B2)
  obtain ⟨cBaA0, cBaA1, cBaA2, cBaA3, cBaAf, zBaA⟩ := blk4 ZBaA_2.out
  obtain ⟨cBaB0, cBaB1, cBaB2, cBaB3, cBaBf, zBaB⟩ := blk4 ZBaB_2.out
  go_wp2_with fail
  go_region_held3 (fun w' => (w'.cell? ⟨w0.heap.size, 0, none⟩ = some (.int .i64 aAP) ∧ w'.cell? ⟨w0.heap.size, 1, none⟩ = some (.int .i64 aAR) ∧ w'.cell? ⟨w0.heap.size, 2, none⟩ = some (.int .i64 aAC) ∧ w'.cell? ⟨w0.heap.size, 3, none⟩ = some (.slice paA XaA.length kaA) ∧ w'.cell? ⟨w0.heap.size + 1, 0, none⟩ = some (.int .i64 aBP) ∧ w'.cell? ⟨w0.heap.size + 1, 1, none⟩ = some (.int .i64 aBR) ∧ w'.cell? ⟨w0.heap.size + 1, 2, none⟩ = some (.int .i64 aBC) ∧ w'.cell? ⟨w0.heap.size + 1, 3, none⟩ = some (.slice paB XaB.length kaB)) ∧ Below w2.heap.size w2 w')
    (first | exact ⟨⟨cBaA0, cBaA1, cBaA2, cBaA3, cBaB0, cBaB1, cBaB2, cBaB3⟩, (Below.refl _ _).drew⟩ | exact keep8 hb1 (by assumption) | exact keep8 (below_alloc _ _) (by assumption) | exact keep8 ((below_alloc _ _).drew) ⟨⟨cBaA0, cBaA1, cBaA2, cBaA3, cBaB0, cBaB1, cBaB2, cBaB3⟩, Below.refl _ _⟩ | exact keep8 (hBz.alloc hBz.size _) ⟨⟨cBaA0, cBaA1, cBaA2, cBaA3, cBaB0, cBaB1, cBaB2, cBaB3⟩, Below.refl _ _⟩ | exact keep8 (below_set4 hBz (by first | exact Nat.le_refl _ | omega | (simp; omega)) _ _ _ _) ⟨⟨cBaA0, cBaA1, cBaA2, cBaA3, cBaB0, cBaB1, cBaB2, cBaB3⟩, Below.refl _ _⟩)
    (first
      | (go_at_call_of 9 (Value.slice paA XaA.length kaA); refine (toMatrix_any _ _ _ _ XaA _ (held_ints HraA_2.out (by assumption)) saA).mono ?_; rintro e w' ⟨ucaA, rfl, hoaA, hb1⟩; have hBz : Below w2.heap.size w2 w' := below_trans (held_below (by assumption)) hb1; have hzz := hBz.size; obtain ⟨pcaA, kcaA, rfl, _, _⟩ := hoaA.shape; skip)
      | (go_at_call_of 9 (Value.slice paB XaB.length kaB); refine (toMatrix_any _ _ _ _ XaB _ (held_ints HraB_2.out (by assumption)) saB).mono ?_; rintro e w' ⟨ucaB, rfl, hoaB, hb1⟩; have hBz : Below w2.heap.size w2 w' := below_trans (held_below (by assumption)) hb1; have hzz := hBz.size; have hoaA := (OwnI.below hoaA (by first | exact Below.refl _ _ | exact (Below.refl _ _).drew | exact below_alloc _ _ | exact (below_alloc _ _).drew)).below hb1; obtain ⟨pcaB, kcaB, rfl, _, _⟩ := hoaB.shape; skip)
      | (go_at_call 22; refine (toIntS_any _ XaS _ (held_ints HraS_2.out (by assumption)) saS).mono ?_; rintro e w' ⟨ucaS, rfl, hoaS, hb1⟩; have hBz : Below w2.heap.size w2 w' := below_trans (held_below (by assumption)) hb1; have hzz := hBz.size; have hoaA := (OwnI.below hoaA (by first | exact Below.refl _ _ | exact (Below.refl _ _).drew | exact below_alloc _ _ | exact (below_alloc _ _).drew)).below hb1; have hoaB := (OwnI.below hoaB (by first | exact Below.refl _ _ | exact (Below.refl _ _).drew | exact below_alloc _ _ | exact (below_alloc _ _).drew)).below hb1; obtain ⟨pcaS, kcaS, rfl, _, _⟩ := hoaS.shape; skip)
      | (go_at_call 21; have hsX := (held_below (by assumption)).size; refine (Cs.out _ _ _ _ (OwnI.below hoaA (by first | exact Below.refl _ _ | exact (Below.refl _ _).drew | exact below_alloc _ _ | exact (below_alloc _ _).drew)).ints (OwnI.below hoaB (by first | exact Below.refl _ _ | exact (Below.refl _ _).drew | exact below_alloc _ _ | exact (below_alloc _ _).drew)).ints (OwnI.below hoaS (by first | exact Below.refl _ _ | exact (Below.refl _ _).drew | exact below_alloc _ _ | exact (below_alloc _ _).drew)).ints).mono ?_; rintro e w' ⟨rfl, hb1⟩))
  have hb3 : Below w2.heap.size w2 _ := held_below (by assumption)
  obtain ⟨w3, rfl⟩ : ∃ x : World, x = w' := ⟨_, rfl⟩
  have bl3 := hb3
  have sz3 := hb3.size
  have B3 := B2.trans (bl3.mono B2.size)
  have HraA_3 := Lib.hid (HraA_0.out.below B3)
  have HraB_3 := Lib.hid (HraB_0.out.below B3)
  have HraS_3 := Lib.hid (HraS_0.out.below B3)
  have ZBaA_3 := Lib.hid (blk_later ZBaA_2.out bl3)
  have ZBaB_3 := Lib.hid (blk_later ZBaB_2.out bl3)
  clear cBaA0 cBaA1 cBaA2 cBaA3 cBaAf zBaA cBaB0 cBaB1 cBaB2 cBaB3 cBaBf zBaB
  clear HraA_2 HraB_2 HraS_2 ZBaA_2 ZBaB_2 hb3 bl3 B2
  obtain ⟨cBaA0, cBaA1, cBaA2, cBaA3, cBaAf, zBaA⟩ := blk4 ZBaA_3.out
  go_wp2_with fail
  refine (toMatrix_any _ _ _ _ XaA _ HraA_3.out saA).mono ?_
  rintro e w4 ⟨ux1, rfl, ho4, hb4⟩
  have bl4 : Below w3.heap.size w3 w4 := hb4
  have sz4 : w3.heap.size ≤ w4.heap.size := by have := hb4.size; simpa using this
  have B4 := B3.trans (bl4.mono B3.size)
  have HraA_4 := Lib.hid (HraA_0.out.below B4)
  have HraB_4 := Lib.hid (HraB_0.out.below B4)
  have HraS_4 := Lib.hid (HraS_0.out.below B4)
  have ZBaA_4 := Lib.hid (blk_later ZBaA_3.out bl4)
  have ZBaB_4 := Lib.hid (blk_later ZBaB_3.out bl4)
  have Hx1_4 : Hid (OwnI 3 w4 (w3.heap.size) w4.heap.size ux1 XaA) := Lib.hid (ho4.mono (by simp) (Nat.le_refl _))
  clear ho4
  clear HraA_3 HraB_3 HraS_3 ZBaA_3 ZBaB_3
  clear hb4 bl4 B3
  clear cBaA0 cBaA1 cBaA2 cBaA3 cBaAf zBaA
  obtain ⟨px1, kx1, rfl, lx1, mx1⟩ := Hx1_4.out.shape
  obtain ⟨cBaB0, cBaB1, cBaB2, cBaB3, cBaBf, zBaB⟩ := blk4 ZBaB_4.out
  go_wp2_with fail
  refine (toMatrix_any _ _ _ _ XaB _ (HraB_4.out.below (below_alloc _ _)) saB).mono ?_
  rintro e w5 ⟨ux2, rfl, ho5, hb5⟩
  have bl5 : Below w4.heap.size w4 w5 := (below_alloc _ _).trans (hb5.mono (by simp))
  have sz5 : w4.heap.size + 1 ≤ w5.heap.size := by have := hb5.size; simpa using this
  have B5 := B4.trans (bl5.mono B4.size)
  have HraA_5 := Lib.hid (HraA_0.out.below B5)
  have HraB_5 := Lib.hid (HraB_0.out.below B5)
  have HraS_5 := Lib.hid (HraS_0.out.below B5)
  have Hx1_5 := Lib.hid (Hx1_4.out.below bl5)
  have ZBaA_5 := Lib.hid (blk_later ZBaA_4.out bl5)
  have ZBaB_5 := Lib.hid (blk_later ZBaB_4.out bl5)
  have Zx1_5 := Lib.hid ((hb5.block _ (by simp)).trans (heap_alloc_top _ _))
  have Hx2_5 : Hid (OwnI 3 w5 (w4.heap.size + 1) w5.heap.size ux2 XaB) := Lib.hid (ho5.mono (by simp) (Nat.le_refl _))
  clear ho5
  clear HraA_4 HraB_4 HraS_4 Hx1_4 ZBaA_4 ZBaB_4
  clear hb5 bl5 B4
  clear cBaB0 cBaB1 cBaB2 cBaB3 cBaBf zBaB
  obtain ⟨px2, kx2, rfl, lx2, mx2⟩ := Hx2_5.out.shape
  go_wp2_with fail
  refine (toIntS_any _ XaS _ (HraS_5.out.below (below_alloc _ _)) saS).mono ?_
  rintro e w6 ⟨ux3, rfl, ho6, hb6⟩
  have bl6 : Below w5.heap.size w5 w6 := (below_alloc _ _).trans (hb6.mono (by simp))
  have sz6 : w5.heap.size + 1 ≤ w6.heap.size := by have := hb6.size; simpa using this
  have B6 := B5.trans (bl6.mono B5.size)
  have HraA_6 := Lib.hid (HraA_0.out.below B6)
  have HraB_6 := Lib.hid (HraB_0.out.below B6)
  have HraS_6 := Lib.hid (HraS_0.out.below B6)
  have Hx1_6 := Lib.hid (Hx1_5.out.below bl6)
  have Hx2_6 := Lib.hid (Hx2_5.out.below bl6)
  have ZBaA_6 := Lib.hid (blk_later ZBaA_5.out bl6)
  have ZBaB_6 := Lib.hid (blk_later ZBaB_5.out bl6)
  have Zx1_6 := Lib.hid (blk_later Zx1_5.out bl6)
  have Zx2_6 := Lib.hid ((hb6.block _ (by simp)).trans (heap_alloc_top _ _))
  have Hx3_6 : Hid (OwnI 3 w6 (w5.heap.size + 1) w6.heap.size ux3 XaS) := Lib.hid (ho6.mono (by simp) (Nat.le_refl _))
  clear ho6
  clear HraA_5 HraB_5 HraS_5 Hx1_5 Hx2_5 ZBaA_5 ZBaB_5 Zx1_5
  clear hb6 bl6 B5
  obtain ⟨cx10, cx11, cx12, cx13, cx1f, zx1⟩ := blk4 Zx1_6.out
  obtain ⟨cx20, cx21, cx22, cx23, cx2f, zx2⟩ := blk4 Zx2_6.out
  go_wp2_with fail
  refine (Ci.out _ _ _ _ Hx1_6.out.ints Hx2_6.out.ints Hx3_6.out.ints).mono ?_
  rintro e w7 ⟨rfl, hb7⟩
  have bl7 : Below w6.heap.size w6 w7 := hb7
  have sz7 : w6.heap.size ≤ w7.heap.size := by have := hb7.size; simpa using this
  have B7 := B6.trans (bl7.mono B6.size)
  have HraA_7 := Lib.hid (HraA_0.out.below B7)
  have HraB_7 := Lib.hid (HraB_0.out.below B7)
  have HraS_7 := Lib.hid (HraS_0.out.below B7)
  have Hx1_7 := Lib.hid (Hx1_6.out.below bl7)
  have Hx2_7 := Lib.hid (Hx2_6.out.below bl7)
  have Hx3_7 := Lib.hid (Hx3_6.out.below bl7)
  have ZBaA_7 := Lib.hid (blk_later ZBaA_6.out bl7)
  have ZBaB_7 := Lib.hid (blk_later ZBaB_6.out bl7)
  have Zx1_7 := Lib.hid (blk_later Zx1_6.out bl7)
  have Zx2_7 := Lib.hid (blk_later Zx2_6.out bl7)
  clear HraA_6 HraB_6 HraS_6 Hx1_6 Hx2_6 Hx3_6 ZBaA_6 ZBaB_6 Zx1_6 Zx2_6
  clear hb7 bl7 B6
  clear cx10 cx11 cx12 cx13 cx1f zx1 cx20 cx21 cx22 cx23 cx2f zx2
  obtain ⟨cx10, cx11, cx12, cx13, cx1f, zx1⟩ := blk4 Zx1_7.out
  obtain ⟨cBaA0, cBaA1, cBaA2, cBaA3, cBaAf, zBaA⟩ := blk4 ZBaA_7.out
  go_wp2_with fail
  go_region_held3 (fun w' => (w'.cell? ⟨w4.heap.size, 0, none⟩ = some (.int .i64 aAP) ∧ w'.cell? ⟨w4.heap.size, 1, none⟩ = some (.int .i64 aAR) ∧ w'.cell? ⟨w4.heap.size, 2, none⟩ = some (.int .i64 aAC) ∧ w'.cell? ⟨w4.heap.size, 3, none⟩ = some (.slice px1 XaA.length kx1) ∧ w'.cell? ⟨w0.heap.size, 0, none⟩ = some (.int .i64 aAP) ∧ w'.cell? ⟨w0.heap.size, 1, none⟩ = some (.int .i64 aAR) ∧ w'.cell? ⟨w0.heap.size, 2, none⟩ = some (.int .i64 aAC) ∧ w'.cell? ⟨w0.heap.size, 3, none⟩ = some (.slice paA XaA.length kaA)) ∧ Below w7.heap.size w7 w')
    (first | exact ⟨⟨cx10, cx11, cx12, cx13, cBaA0, cBaA1, cBaA2, cBaA3⟩, (Below.refl _ _).drew⟩ | exact keep8 hb1 (by assumption) | exact keep8 (below_alloc _ _) (by assumption) | exact keep8 ((below_alloc _ _).drew) ⟨⟨cx10, cx11, cx12, cx13, cBaA0, cBaA1, cBaA2, cBaA3⟩, Below.refl _ _⟩ | exact keep8 (hBz.alloc hBz.size _) ⟨⟨cx10, cx11, cx12, cx13, cBaA0, cBaA1, cBaA2, cBaA3⟩, Below.refl _ _⟩ | exact keep8 (below_set4 hBz (by first | exact Nat.le_refl _ | omega | (simp; omega)) _ _ _ _) ⟨⟨cx10, cx11, cx12, cx13, cBaA0, cBaA1, cBaA2, cBaA3⟩, Below.refl _ _⟩)
    (first
      | (go_at_call 9; refine (toMatrix_any _ _ _ _ XaA _ (held_ints HraA_7.out (by assumption)) saA).mono ?_; rintro e w' ⟨uc, rfl, hoc, hb1⟩; obtain ⟨pc, kc, rfl, _, _⟩ := hoc.shape)
      | (go_at_call 11; refine (eqMatrix_same _ _ _ _ _ XaA _ (held_ints Hx1_7.out.ints (by assumption)) hoc.ints).mono ?_; rintro e w' ⟨rfl, hb1⟩))
  have bl8 : Below w7.heap.size w7 _ := held_below (by assumption)
  obtain ⟨w8, rfl⟩ : ∃ x : World, x = w' := ⟨_, rfl⟩
  have sz8 := bl8.size
  have B8 := B7.trans (bl8.mono B7.size)
  have HraA_8 := Lib.hid (HraA_0.out.below B8)
  have HraB_8 := Lib.hid (HraB_0.out.below B8)
  have HraS_8 := Lib.hid (HraS_0.out.below B8)
  have Hx1_8 := Lib.hid (Hx1_7.out.below bl8)
  have Hx2_8 := Lib.hid (Hx2_7.out.below bl8)
  have Hx3_8 := Lib.hid (Hx3_7.out.below bl8)
  have ZBaA_8 := Lib.hid (blk_later ZBaA_7.out bl8)
  have ZBaB_8 := Lib.hid (blk_later ZBaB_7.out bl8)
  have Zx1_8 := Lib.hid (blk_later Zx1_7.out bl8)
  have Zx2_8 := Lib.hid (blk_later Zx2_7.out bl8)
  clear cx10 cx11 cx12 cx13 cx1f zx1 cBaA0 cBaA1 cBaA2 cBaA3 cBaAf zBaA
  clear HraA_7 HraB_7 HraS_7 Hx1_7 Hx2_7 Hx3_7 ZBaA_7 ZBaB_7 Zx1_7 Zx2_7 bl8 B7
  obtain ⟨cx20, cx21, cx22, cx23, cx2f, zx2⟩ := blk4 Zx2_8.out
  obtain ⟨cBaB0, cBaB1, cBaB2, cBaB3, cBaBf, zBaB⟩ := blk4 ZBaB_8.out
  go_wp2_with fail
  go_region_held3 (fun w' => (w'.cell? ⟨w5.heap.size, 0, none⟩ = some (.int .i64 aBP) ∧ w'.cell? ⟨w5.heap.size, 1, none⟩ = some (.int .i64 aBR) ∧ w'.cell? ⟨w5.heap.size, 2, none⟩ = some (.int .i64 aBC) ∧ w'.cell? ⟨w5.heap.size, 3, none⟩ = some (.slice px2 XaB.length kx2) ∧ w'.cell? ⟨w0.heap.size + 1, 0, none⟩ = some (.int .i64 aBP) ∧ w'.cell? ⟨w0.heap.size + 1, 1, none⟩ = some (.int .i64 aBR) ∧ w'.cell? ⟨w0.heap.size + 1, 2, none⟩ = some (.int .i64 aBC) ∧ w'.cell? ⟨w0.heap.size + 1, 3, none⟩ = some (.slice paB XaB.length kaB)) ∧ Below w8.heap.size w8 w')
    (first | exact ⟨⟨cx20, cx21, cx22, cx23, cBaB0, cBaB1, cBaB2, cBaB3⟩, (Below.refl _ _).drew⟩ | exact keep8 hb1 (by assumption) | exact keep8 (below_alloc _ _) (by assumption) | exact keep8 ((below_alloc _ _).drew) ⟨⟨cx20, cx21, cx22, cx23, cBaB0, cBaB1, cBaB2, cBaB3⟩, Below.refl _ _⟩ | exact keep8 (hBz.alloc hBz.size _) ⟨⟨cx20, cx21, cx22, cx23, cBaB0, cBaB1, cBaB2, cBaB3⟩, Below.refl _ _⟩ | exact keep8 (below_set4 hBz (by first | exact Nat.le_refl _ | omega | (simp; omega)) _ _ _ _) ⟨⟨cx20, cx21, cx22, cx23, cBaB0, cBaB1, cBaB2, cBaB3⟩, Below.refl _ _⟩)
    (first
      | (go_at_call 9; refine (toMatrix_any _ _ _ _ XaB _ (held_ints HraB_8.out (by assumption)) saB).mono ?_; rintro e w' ⟨uc, rfl, hoc, hb1⟩; obtain ⟨pc, kc, rfl, _, _⟩ := hoc.shape)
      | (go_at_call 11; refine (eqMatrix_same _ _ _ _ _ XaB _ (held_ints Hx2_8.out.ints (by assumption)) hoc.ints).mono ?_; rintro e w' ⟨rfl, hb1⟩))
  have bl9 : Below w8.heap.size w8 _ := held_below (by assumption)
  obtain ⟨w9, rfl⟩ : ∃ x : World, x = w' := ⟨_, rfl⟩
  have sz9 := bl9.size
  have B9 := B8.trans (bl9.mono B8.size)
  have HraA_9 := Lib.hid (HraA_0.out.below B9)
  have HraB_9 := Lib.hid (HraB_0.out.below B9)
  have HraS_9 := Lib.hid (HraS_0.out.below B9)
  have Hx1_9 := Lib.hid (Hx1_8.out.below bl9)
  have Hx2_9 := Lib.hid (Hx2_8.out.below bl9)
  have Hx3_9 := Lib.hid (Hx3_8.out.below bl9)
  have ZBaA_9 := Lib.hid (blk_later ZBaA_8.out bl9)
  have ZBaB_9 := Lib.hid (blk_later ZBaB_8.out bl9)
  have Zx1_9 := Lib.hid (blk_later Zx1_8.out bl9)
  have Zx2_9 := Lib.hid (blk_later Zx2_8.out bl9)
  clear cx20 cx21 cx22 cx23 cx2f zx2 cBaB0 cBaB1 cBaB2 cBaB3 cBaBf zBaB
  clear HraA_8 HraB_8 HraS_8 Hx1_8 Hx2_8 Hx3_8 ZBaA_8 ZBaB_8 Zx1_8 Zx2_8 bl9 B8
  go_wp2_with fail
  refine (toIntS_any _ XaS _ HraS_9.out saS).mono ?_
  rintro e w10 ⟨ux4, rfl, ho10, hb10⟩
  have bl10 : Below w9.heap.size w9 w10 := hb10
  have sz10 : w9.heap.size ≤ w10.heap.size := by have := hb10.size; simpa using this
  have B10 := B9.trans (bl10.mono B9.size)
  have HraA_10 := Lib.hid (HraA_0.out.below B10)
  have HraB_10 := Lib.hid (HraB_0.out.below B10)
  have HraS_10 := Lib.hid (HraS_0.out.below B10)
  have Hx1_10 := Lib.hid (Hx1_9.out.below bl10)
  have Hx2_10 := Lib.hid (Hx2_9.out.below bl10)
  have Hx3_10 := Lib.hid (Hx3_9.out.below bl10)
  have ZBaA_10 := Lib.hid (blk_later ZBaA_9.out bl10)
  have ZBaB_10 := Lib.hid (blk_later ZBaB_9.out bl10)
  have Zx1_10 := Lib.hid (blk_later Zx1_9.out bl10)
  have Zx2_10 := Lib.hid (blk_later Zx2_9.out bl10)
  have Hx4_10 : Hid (OwnI 3 w10 (w9.heap.size) w10.heap.size ux4 XaS) := Lib.hid (ho10.mono (by simp) (Nat.le_refl _))
  clear ho10
  clear HraA_9 HraB_9 HraS_9 Hx1_9 Hx2_9 Hx3_9 ZBaA_9 ZBaB_9 Zx1_9 Zx2_9
  clear hb10 bl10 B9
  go_wp2_with fail
  refine (eqIntS_same _ _ XaS _ Hx3_10.out.ints Hx4_10.out.ints).mono ?_
  rintro e w11 ⟨rfl, hb11⟩
  have bl11 : Below w10.heap.size w10 w11 := hb11
  have sz11 : w10.heap.size ≤ w11.heap.size := by have := hb11.size; simpa using this
  have B11 := B10.trans (bl11.mono B10.size)
  have HraA_11 := Lib.hid (HraA_0.out.below B11)
  have HraB_11 := Lib.hid (HraB_0.out.below B11)
  have HraS_11 := Lib.hid (HraS_0.out.below B11)
  have Hx1_11 := Lib.hid (Hx1_10.out.below bl11)
  have Hx2_11 := Lib.hid (Hx2_10.out.below bl11)
  have Hx3_11 := Lib.hid (Hx3_10.out.below bl11)
  have Hx4_11 := Lib.hid (Hx4_10.out.below bl11)
  have ZBaA_11 := Lib.hid (blk_later ZBaA_10.out bl11)
  have ZBaB_11 := Lib.hid (blk_later ZBaB_10.out bl11)
  have Zx1_11 := Lib.hid (blk_later Zx1_10.out bl11)
  have Zx2_11 := Lib.hid (blk_later Zx2_10.out bl11)
  clear HraA_10 HraB_10 HraS_10 Hx1_10 Hx2_10 Hx3_10 Hx4_10 ZBaA_10 ZBaB_10 Zx1_10 Zx2_10
  clear hb11 bl11 B10
  go_wp2_with fail
  go_ret
  exact ⟨rfl, B11⟩

end Go.Proofs.Ytapmnfakjnhlbaa
