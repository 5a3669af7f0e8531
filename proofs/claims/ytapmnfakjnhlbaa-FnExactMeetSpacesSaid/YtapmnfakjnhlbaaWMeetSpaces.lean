/-
  The law FnExactMeetSpaces, walked call by call: it returns true, and nothing that was there has changed. (Printed by gen_law.py.)
-/
import Derived.Test.YtapmnfakjnhlbaaMeetI
import Derived.Test.YtapmnfakjnhlbaaMulI
import Derived.Test.YtapmnfakjnhlbaaHeld2
namespace Go.Proofs.Ytapmnfakjnhlbaa
set_option linter.all false
open Go.RowKit

set_option maxRecDepth 100000 in
set_option maxHeartbeats 8000000 in
theorem lawMeetSpaces (aAP aAR aAC : Int) (vaA : Value) (XaA : List Int) (aBP aBR aBC : Int) (vaB : Value) (XaB : List Int) (w0 : World) (haA : Ints w0 vaA XaA) (haB : Ints w0 vaB XaB) :
    Calls Try.prog 3 #[.agg #[.int .i64 aAP, .int .i64 aAR, .int .i64 aAC, vaA], .agg #[.int .i64 aBP, .int .i64 aBR, .int .i64 aBC, vaB]] w0 fun e w' => e = .returned (.bool true) ∧ Below w0.heap.size w0 w' := by
  have HraA_0 := Lib.hid haA
  obtain ⟨paA, kaA, rfl, ⟨laA, maA⟩, _⟩ := haA
  unfold maxLen at maA
  have HraB_0 := Lib.hid haB
  obtain ⟨paB, kaB, rfl, ⟨laB, maB⟩, _⟩ := haB
  unfold maxLen at maB
  by_cases SaA : (XaA.length : Int) ≤ 1048576
  case neg =>
    go_enter Try.func3, Try.ntmps3
    go_wp2_with fail
    refine (szMatrix_big _ _ _ _ _ _ 1048576 _ (by omega) (by omega) (by omega) (by omega)).mono ?_
    rintro e w1 ⟨rfl, hb1⟩
    have bl1 : Below w0.heap.size w0 w1 := (below_alloc2 _ _ _).trans (hb1.mono (by simp; try omega))
    have sz1 : w0.heap.size + 2 ≤ w1.heap.size := by have := hb1.size; simp at this; omega
    have ZBaA_1 : Hid (w1.heap[w0.heap.size]? = some (.cells #[.int .i64 aAP, .int .i64 aAR, .int .i64 aAC, .slice paA XaA.length kaA] 24)) := Lib.hid ((hb1.block _ (by simp <;> omega)).trans ((heap_alloc_low _ _ (by simp <;> omega)).trans (heap_alloc_at _ _ (by simp <;> omega))))
    have ZBaB_1 : Hid (w1.heap[w0.heap.size + 1]? = some (.cells #[.int .i64 aBP, .int .i64 aBR, .int .i64 aBC, .slice paB XaB.length kaB] 24)) := Lib.hid ((hb1.block _ (by simp <;> omega)).trans (heap_alloc_at _ _ (by simp <;> omega)))
    clear hb1
    go_wp2_with fail
    go_ret
    exact ⟨rfl, bl1⟩
  by_cases SaB : (XaB.length : Int) ≤ (1048576 - (XaA.length : Int))
  case neg =>
    go_enter Try.func3, Try.ntmps3
    go_wp2_with fail
    refine (szMatrix_ok _ _ _ _ _ _ 1048576 _ SaA (by omega) (by omega)).mono ?_
    rintro e w1 ⟨rfl, hb1⟩
    have bl1 : Below w0.heap.size w0 w1 := (below_alloc2 _ _ _).trans (hb1.mono (by simp; try omega))
    have sz1 : w0.heap.size + 2 ≤ w1.heap.size := by have := hb1.size; simp at this; omega
    have ZBaA_1 : Hid (w1.heap[w0.heap.size]? = some (.cells #[.int .i64 aAP, .int .i64 aAR, .int .i64 aAC, .slice paA XaA.length kaA] 24)) := Lib.hid ((hb1.block _ (by simp <;> omega)).trans ((heap_alloc_low _ _ (by simp <;> omega)).trans (heap_alloc_at _ _ (by simp <;> omega))))
    have ZBaB_1 : Hid (w1.heap[w0.heap.size + 1]? = some (.cells #[.int .i64 aBP, .int .i64 aBR, .int .i64 aBC, .slice paB XaB.length kaB] 24)) := Lib.hid ((hb1.block _ (by simp <;> omega)).trans (heap_alloc_at _ _ (by simp <;> omega)))
    clear hb1
    obtain ⟨cBaB0, cBaB1, cBaB2, cBaB3, cBaBf, zBaB⟩ := blk4 ZBaB_1.out
    go_wp2_with fail
    refine (szMatrix_big _ _ _ _ _ _ (1048576 - (XaA.length : Int)) _ (by omega) (by omega) (by omega) (by omega)).mono ?_
    rintro e w2 ⟨rfl, hb2⟩
    have bl2 : Below w0.heap.size w0 w2 := bl1.trans (hb2.mono bl1.size)
    have sz2 := hb2.size
    have ZBaA_2 := Lib.hid (blk_later ZBaA_1.out hb2)
    have ZBaB_2 := Lib.hid (blk_later ZBaB_1.out hb2)
    clear ZBaA_1 ZBaB_1 bl1 cBaB0 cBaB1 cBaB2 cBaB3 cBaBf zBaB
    clear hb2
    go_wp2_with fail
    go_ret
    exact ⟨rfl, bl2⟩
  have saA : XaA.length ≤ 1048576 := by omega
  have saB : XaB.length ≤ 1048576 := by omega
  have cs := fun (uaA : Value) (uaB : Value) (W : World) (haA : Ints W uaA XaA) (haB : Ints W uaB XaB) => (specMeet_any aAP aAR aAC aBP aBR aBC uaA uaB XaA XaB W haA haB)
  have ci := fun (uaA : Value) (uaB : Value) (W : World) (haA : Ints W uaA XaA) (haB : Ints W uaB XaB) => (implMeet_any aAP aAR aAC aBP aBR aBC uaA uaB XaA XaB W haA haB)
  have hM := meet_len aAP aAR aAC XaA aBP aBR aBC XaB
  generalize (Classical.epsilon (PrQ (MeIs aAP aAR aAC XaA aBP aBR aBC XaB))).1 = M at cs ci hM
  generalize (Classical.epsilon (PrQ (MeIs aAP aAR aAC XaA aBP aBR aBC XaB))).2 = N2 at cs ci
  have Cs := Lib.hid cs
  have Ci := Lib.hid ci
  clear cs ci
  have B0 := Below.refl w0.heap.size w0
  go_enter Try.func3, Try.ntmps3
  go_wp2_with fail
  refine (szMatrix_ok _ _ _ _ _ _ 1048576 _ SaA (by omega) (by omega)).mono ?_
  rintro e w1 ⟨rfl, hb1⟩
  have bl1 : Below w0.heap.size w0 w1 := (below_alloc2 _ _ _).trans (hb1.mono (by simp; try omega))
  have sz1 : w0.heap.size + 2 ≤ w1.heap.size := by have := hb1.size; simp at this; omega
  have ZBaA_1 : Hid (w1.heap[w0.heap.size]? = some (.cells #[.int .i64 aAP, .int .i64 aAR, .int .i64 aAC, .slice paA XaA.length kaA] 24)) := Lib.hid ((hb1.block _ (by simp <;> omega)).trans ((heap_alloc_low _ _ (by simp <;> omega)).trans (heap_alloc_at _ _ (by simp <;> omega))))
  have ZBaB_1 : Hid (w1.heap[w0.heap.size + 1]? = some (.cells #[.int .i64 aBP, .int .i64 aBR, .int .i64 aBC, .slice paB XaB.length kaB] 24)) := Lib.hid ((hb1.block _ (by simp <;> omega)).trans (heap_alloc_at _ _ (by simp <;> omega)))
  clear hb1
  obtain ⟨cBaB0, cBaB1, cBaB2, cBaB3, cBaBf, zBaB⟩ := blk4 ZBaB_1.out
  go_wp2_with fail
  refine (szMatrix_ok _ _ _ _ _ _ (1048576 - (XaA.length : Int)) _ SaB (by omega) (by omega)).mono ?_
  rintro e w2 ⟨rfl, hb2⟩
  have bl2 : Below w0.heap.size w0 w2 := bl1.trans (hb2.mono bl1.size)
  have sz2 := hb2.size
  have ZBaA_2 := Lib.hid (blk_later ZBaA_1.out hb2)
  have ZBaB_2 := Lib.hid (blk_later ZBaB_1.out hb2)
  clear ZBaA_1 ZBaB_1 bl1 cBaB0 cBaB1 cBaB2 cBaB3 cBaBf zBaB
  clear hb2
  have B2 := bl2
  clear bl2 B0
  have HraA_2 := Lib.hid (HraA_0.out.below B2)
  have HraB_2 := Lib.hid (HraB_0.out.below B2)
  obtain ⟨cBaA0, cBaA1, cBaA2, cBaA3, cBaAf, zBaA⟩ := blk4 ZBaA_2.out
  obtain ⟨cBaB0, cBaB1, cBaB2, cBaB3, cBaBf, zBaB⟩ := blk4 ZBaB_2.out
  go_wp2_with fail
  go_cut [6, 7] (fun s6 s7 wc => CutBox 3 26 w2 wc M s6 ∧ s7 = .bool N2)
  case first =>
    go_region_held3 (fun w' => (w'.cell? ⟨w0.heap.size, 0, none⟩ = some (.int .i64 aAP) ∧ w'.cell? ⟨w0.heap.size, 1, none⟩ = some (.int .i64 aAR) ∧ w'.cell? ⟨w0.heap.size, 2, none⟩ = some (.int .i64 aAC) ∧ w'.cell? ⟨w0.heap.size, 3, none⟩ = some (.slice paA XaA.length kaA) ∧ w'.cell? ⟨w0.heap.size + 1, 0, none⟩ = some (.int .i64 aBP) ∧ w'.cell? ⟨w0.heap.size + 1, 1, none⟩ = some (.int .i64 aBR) ∧ w'.cell? ⟨w0.heap.size + 1, 2, none⟩ = some (.int .i64 aBC) ∧ w'.cell? ⟨w0.heap.size + 1, 3, none⟩ = some (.slice paB XaB.length kaB)) ∧ Below w2.heap.size w2 w')
      (first | exact ⟨⟨cBaA0, cBaA1, cBaA2, cBaA3, cBaB0, cBaB1, cBaB2, cBaB3⟩, (Below.refl _ _).drew⟩ | exact keep8 hb1 (by assumption) | exact keep8 (below_alloc _ _) (by assumption) | exact keep8 ((below_alloc _ _).drew) ⟨⟨cBaA0, cBaA1, cBaA2, cBaA3, cBaB0, cBaB1, cBaB2, cBaB3⟩, Below.refl _ _⟩ | exact keep8 (hBz.alloc hBz.size _) ⟨⟨cBaA0, cBaA1, cBaA2, cBaA3, cBaB0, cBaB1, cBaB2, cBaB3⟩, Below.refl _ _⟩ | exact keep8 (below_set4 hBz (by first | exact Nat.le_refl _ | omega | (simp; omega)) _ _ _ _) ⟨⟨cBaA0, cBaA1, cBaA2, cBaA3, cBaB0, cBaB1, cBaB2, cBaB3⟩, Below.refl _ _⟩)
      (first
        | (go_at_call_of 9 (Value.slice paA XaA.length kaA); refine (toMatrix_any _ _ _ _ XaA _ (held_ints HraA_2.out (by assumption)) saA).mono ?_; rintro e w' ⟨ucaA, rfl, hoaA, hb1⟩; have hBz : Below w2.heap.size w2 w' := below_trans (held_below (by assumption)) hb1; have hzz := hBz.size; obtain ⟨pcaA, kcaA, rfl, _, _⟩ := hoaA.shape; first | (have hz := blk_later hz hb1; obtain ⟨q0, q1, q2, q3, qf, qz⟩ := blk4 hz) | (have hz := blk_later (heap_alloc_top _ _) hb1; obtain ⟨q0, q1, q2, q3, qf, qz⟩ := blk4 hz) | (have hz := blk_later (alloc_drew_top _ _) hb1; obtain ⟨q0, q1, q2, q3, qf, qz⟩ := blk4 hz) | skip)
        | (go_at_call_of 9 (Value.slice paB XaB.length kaB); refine (toMatrix_any _ _ _ _ XaB _ (held_ints HraB_2.out (by assumption)) saB).mono ?_; rintro e w' ⟨ucaB, rfl, hoaB, hb1⟩; have hBz : Below w2.heap.size w2 w' := below_trans (held_below (by assumption)) hb1; have hzz := hBz.size; have hoaA := (OwnI.below hoaA (by first | exact Below.refl _ _ | exact (Below.refl _ _).drew | exact below_alloc _ _ | exact (below_alloc _ _).drew)).below hb1; obtain ⟨pcaB, kcaB, rfl, _, _⟩ := hoaB.shape; first | (have hz := blk_later hz hb1; obtain ⟨q0, q1, q2, q3, qf, qz⟩ := blk4 hz) | (have hz := blk_later (heap_alloc_top _ _) hb1; obtain ⟨q0, q1, q2, q3, qf, qz⟩ := blk4 hz) | (have hz := blk_later (alloc_drew_top _ _) hb1; obtain ⟨q0, q1, q2, q3, qf, qz⟩ := blk4 hz) | skip)
        | (go_at_call 8; refine (Cs.out _ _ _ (OwnI.below hoaA (by first | exact Below.refl _ _ | exact (Below.refl _ _).drew | exact below_alloc _ _ | exact (below_alloc _ _).drew)).ints (OwnI.below hoaB (by first | exact Below.refl _ _ | exact (Below.refl _ _).drew | exact below_alloc _ _ | exact (below_alloc _ _).drew)).ints).mono ?_; rintro e w' ⟨uw, rfl, hoR, hb1⟩; have hBz : Below w2.heap.size w2 w' := below_trans (held_below (by assumption)) hb1; have hzz := hBz.size; obtain ⟨pw, kw, rfl, _, _⟩ := hoR.shape; first | (have hz := blk_later hz hb1; obtain ⟨q0, q1, q2, q3, qf, qz⟩ := blk4 hz) | (have hz := blk_later (heap_alloc_top _ _) hb1; obtain ⟨q0, q1, q2, q3, qf, qz⟩ := blk4 hz) | (have hz := blk_later (alloc_drew_top _ _) hb1; obtain ⟨q0, q1, q2, q3, qf, qz⟩ := blk4 hz) | skip))
    all_goals go_wp2_with fail
    all_goals go_meet
    all_goals refine ⟨?_, rfl⟩
    all_goals first
      | (with_reducible refine cutBox_alloc hBz hoR ?_ ; (first | assumption | exact Nat.le_refl _ | omega | (simp <;> omega)))
      | (with_reducible refine cutBox_set hBz hz hoR ?_ ?_ ?_ <;> (first | assumption | exact Nat.le_refl _ | omega | (simp <;> omega)))
  case rest =>
    obtain ⟨qw, pw, kw, low, hiw, rfl, hq1, hblk, hown, hq2, hq3, hq4, hq5, hb3⟩ := hcut.1
    have hc2 := hcut.2; subst hc2
    obtain ⟨w3, rfl⟩ : ∃ x : World, x = wc := ⟨_, rfl⟩
    have bl3 := hb3
    have sz3 := hb3.size
    have B3 := B2.trans (bl3.mono B2.size)
    have HraA_3 := Lib.hid (HraA_0.out.below B3)
    have HraB_3 := Lib.hid (HraB_0.out.below B3)
    have ZBaA_3 := Lib.hid (blk_later ZBaA_2.out bl3)
    have ZBaB_3 := Lib.hid (blk_later ZBaB_2.out bl3)
    have Zw_3 := Lib.hid hblk
    have Hw_3 := Lib.hid hown
    clear hblk hown
    clear cBaA0 cBaA1 cBaA2 cBaA3 cBaAf zBaA cBaB0 cBaB1 cBaB2 cBaB3 cBaBf zBaB
    clear HraA_2 HraB_2 ZBaA_2 ZBaB_2 hb3 bl3 B2
    obtain ⟨cBaA0, cBaA1, cBaA2, cBaA3, cBaAf, zBaA⟩ := blk4 ZBaA_3.out
    go_wp2_with fail
    refine (toMatrix_any _ _ _ _ XaA _ HraA_3.out saA).mono ?_
    rintro e w4 ⟨ux1, rfl, ho4, hb4⟩
    have bl4 : Below w3.heap.size w3 w4 := hb4
    have sz4 : w3.heap.size ≤ w4.heap.size := by have := hb4.size; simpa using this
    have B4 := B3.trans (bl4.mono B3.size)
    have HraA_4 := Lib.hid (HraA_0.out.below B4)
    have HraB_4 := Lib.hid (HraB_0.out.below B4)
    have Hw_4 := Lib.hid (Hw_3.out.below bl4)
    have ZBaA_4 := Lib.hid (blk_later ZBaA_3.out bl4)
    have ZBaB_4 := Lib.hid (blk_later ZBaB_3.out bl4)
    have Zw_4 := Lib.hid (blk_later Zw_3.out bl4)
    have Hx1_4 : Hid (OwnI 3 w4 (w3.heap.size) w4.heap.size ux1 XaA) := Lib.hid (ho4.mono (by simp) (Nat.le_refl _))
    clear ho4
    clear HraA_3 HraB_3 Hw_3 ZBaA_3 ZBaB_3 Zw_3
    clear hb4 bl4 B3
    clear cBaA0 cBaA1 cBaA2 cBaA3 cBaAf zBaA
    obtain ⟨px1, kx1, rfl, lx1, mx1⟩ := Hx1_4.out.shape
    obtain ⟨cBaB0, cBaB1, cBaB2, cBaB3, cBaBf, zBaB⟩ := blk4 ZBaB_4.out
    go_wp2_with fail
    refine (toMatrix_any _ _ _ _ XaB _ (HraB_4.out.below (below_alloc _ _)) saB).mono ?_
    rintro e w5 ⟨ux2, rfl, ho5, hb5⟩
    have bl5 : Below w4.heap.size w4 w5 := (below_alloc _ _).trans (hb5.mono (by simp))
    have sz5 : w4.heap.size + 1 ≤ w5.heap.size := by have := hb5.size; simpa using this
    have B5 := B4.trans (bl5.mono B4.size)
    have HraA_5 := Lib.hid (HraA_0.out.below B5)
    have HraB_5 := Lib.hid (HraB_0.out.below B5)
    have Hw_5 := Lib.hid (Hw_4.out.below bl5)
    have Hx1_5 := Lib.hid (Hx1_4.out.below bl5)
    have ZBaA_5 := Lib.hid (blk_later ZBaA_4.out bl5)
    have ZBaB_5 := Lib.hid (blk_later ZBaB_4.out bl5)
    have Zw_5 := Lib.hid (blk_later Zw_4.out bl5)
    have Zx1_5 := Lib.hid ((hb5.block _ (by simp)).trans (heap_alloc_top _ _))
    have Hx2_5 : Hid (OwnI 3 w5 (w4.heap.size + 1) w5.heap.size ux2 XaB) := Lib.hid (ho5.mono (by simp) (Nat.le_refl _))
    clear ho5
    clear HraA_4 HraB_4 Hw_4 Hx1_4 ZBaA_4 ZBaB_4 Zw_4
    clear hb5 bl5 B4
    clear cBaB0 cBaB1 cBaB2 cBaB3 cBaBf zBaB
    obtain ⟨px2, kx2, rfl, lx2, mx2⟩ := Hx2_5.out.shape
    obtain ⟨cx10, cx11, cx12, cx13, cx1f, zx1⟩ := blk4 Zx1_5.out
    go_wp2_with fail
    refine (Ci.out _ _ _ (Hx1_5.out.below (below_alloc _ _)).ints (Hx2_5.out.below (below_alloc _ _)).ints).mono ?_
    rintro e w6 ⟨ug, rfl, ho6, hb6⟩
    have bl6 : Below w5.heap.size w5 w6 := (below_alloc _ _).trans (hb6.mono (by simp))
    have sz6 : w5.heap.size + 1 ≤ w6.heap.size := by have := hb6.size; simpa using this
    have B6 := B5.trans (bl6.mono B5.size)
    have HraA_6 := Lib.hid (HraA_0.out.below B6)
    have HraB_6 := Lib.hid (HraB_0.out.below B6)
    have Hw_6 := Lib.hid (Hw_5.out.below bl6)
    have Hx1_6 := Lib.hid (Hx1_5.out.below bl6)
    have Hx2_6 := Lib.hid (Hx2_5.out.below bl6)
    have ZBaA_6 := Lib.hid (blk_later ZBaA_5.out bl6)
    have ZBaB_6 := Lib.hid (blk_later ZBaB_5.out bl6)
    have Zw_6 := Lib.hid (blk_later Zw_5.out bl6)
    have Zx1_6 := Lib.hid (blk_later Zx1_5.out bl6)
    have Zx2_6 := Lib.hid ((hb6.block _ (by simp)).trans (heap_alloc_top _ _))
    have Hg_6 : Hid (OwnI 3 w6 (w5.heap.size + 1) w6.heap.size ug M.D) := Lib.hid (ho6.mono (by simp) (Nat.le_refl _))
    clear ho6
    clear HraA_5 HraB_5 Hw_5 Hx1_5 Hx2_5 ZBaA_5 ZBaB_5 Zw_5 Zx1_5
    clear hb6 bl6 B5
    obtain ⟨pg, kg, rfl, lg, mg⟩ := Hg_6.out.shape
    clear cx10 cx11 cx12 cx13 cx1f zx1
    obtain ⟨cw0, cw1, cw2, cw3, cwf, zw⟩ := blk4 Zw_6.out
    go_wp2_with fail
    refine (eqMatrix_same _ _ _ _ _ _ _ (Hg_6.out.below (below_alloc _ _)).ints (Hw_6.out.below (below_alloc _ _)).ints).mono ?_
    rintro e w7 ⟨rfl, hb7⟩
    have bl7 : Below w6.heap.size w6 w7 := (below_alloc _ _).trans (hb7.mono (by simp))
    have sz7 : w6.heap.size + 1 ≤ w7.heap.size := by have := hb7.size; simpa using this
    have B7 := B6.trans (bl7.mono B6.size)
    have HraA_7 := Lib.hid (HraA_0.out.below B7)
    have HraB_7 := Lib.hid (HraB_0.out.below B7)
    have Hw_7 := Lib.hid (Hw_6.out.below bl7)
    have Hx1_7 := Lib.hid (Hx1_6.out.below bl7)
    have Hx2_7 := Lib.hid (Hx2_6.out.below bl7)
    have Hg_7 := Lib.hid (Hg_6.out.below bl7)
    have ZBaA_7 := Lib.hid (blk_later ZBaA_6.out bl7)
    have ZBaB_7 := Lib.hid (blk_later ZBaB_6.out bl7)
    have Zw_7 := Lib.hid (blk_later Zw_6.out bl7)
    have Zx1_7 := Lib.hid (blk_later Zx1_6.out bl7)
    have Zx2_7 := Lib.hid (blk_later Zx2_6.out bl7)
    have Zg_7 := Lib.hid ((hb7.block _ (by simp)).trans (heap_alloc_top _ _))
    clear HraA_6 HraB_6 Hw_6 Hx1_6 Hx2_6 Hg_6 ZBaA_6 ZBaB_6 Zw_6 Zx1_6 Zx2_6
    clear hb7 bl7 B6
    clear cw0 cw1 cw2 cw3 cwf zw
    obtain ⟨cx10, cx11, cx12, cx13, cx1f, zx1⟩ := blk4 Zx1_7.out
    obtain ⟨cBaA0, cBaA1, cBaA2, cBaA3, cBaAf, zBaA⟩ := blk4 ZBaA_7.out
    go_wp2_with fail
    go_region_held3 (fun w' => (w'.cell? ⟨w4.heap.size, 0, none⟩ = some (.int .i64 aAP) ∧ w'.cell? ⟨w4.heap.size, 1, none⟩ = some (.int .i64 aAR) ∧ w'.cell? ⟨w4.heap.size, 2, none⟩ = some (.int .i64 aAC) ∧ w'.cell? ⟨w4.heap.size, 3, none⟩ = some (.slice px1 XaA.length kx1) ∧ w'.cell? ⟨w0.heap.size, 0, none⟩ = some (.int .i64 aAP) ∧ w'.cell? ⟨w0.heap.size, 1, none⟩ = some (.int .i64 aAR) ∧ w'.cell? ⟨w0.heap.size, 2, none⟩ = some (.int .i64 aAC) ∧ w'.cell? ⟨w0.heap.size, 3, none⟩ = some (.slice paA XaA.length kaA)) ∧ Below w7.heap.size w7 w')
      (first | exact ⟨⟨cx10, cx11, cx12, cx13, cBaA0, cBaA1, cBaA2, cBaA3⟩, (Below.refl _ _).drew⟩ | exact keep8 hb1 (by assumption) | exact keep8 (below_alloc _ _) (by assumption) | exact keep8 ((below_alloc _ _).drew) ⟨⟨cx10, cx11, cx12, cx13, cBaA0, cBaA1, cBaA2, cBaA3⟩, Below.refl _ _⟩ | exact keep8 (hBz.alloc hBz.size _) ⟨⟨cx10, cx11, cx12, cx13, cBaA0, cBaA1, cBaA2, cBaA3⟩, Below.refl _ _⟩ | exact keep8 (below_set4 hBz (by first | exact Nat.le_refl _ | omega | (simp; omega)) _ _ _ _) ⟨⟨cx10, cx11, cx12, cx13, cBaA0, cBaA1, cBaA2, cBaA3⟩, Below.refl _ _⟩)
      (first
        | (go_at_call 9; refine (toMatrix_any _ _ _ _ XaA _ (held_ints HraA_7.out (by assumption)) saA).mono ?_; rintro e w' ⟨uc, rfl, hoc, hb1⟩; obtain ⟨pc, kc, rfl, _, _⟩ := hoc.shape)
        | (go_at_call 11; refine (eqMatrix_same _ _ _ _ _ XaA _ (held_ints Hx1_7.out.ints (by assumption)) hoc.ints).mono ?_; rintro e w' ⟨rfl, hb1⟩))
    have bl8 : Below w7.heap.size w7 _ := held_below (by assumption)
    obtain ⟨w8, rfl⟩ : ∃ x : World, x = w' := ⟨_, rfl⟩
    have sz8 := bl8.size
    have B8 := B7.trans (bl8.mono B7.size)
    have HraA_8 := Lib.hid (HraA_0.out.below B8)
    have HraB_8 := Lib.hid (HraB_0.out.below B8)
    have Hw_8 := Lib.hid (Hw_7.out.below bl8)
    have Hx1_8 := Lib.hid (Hx1_7.out.below bl8)
    have Hx2_8 := Lib.hid (Hx2_7.out.below bl8)
    have Hg_8 := Lib.hid (Hg_7.out.below bl8)
    have ZBaA_8 := Lib.hid (blk_later ZBaA_7.out bl8)
    have ZBaB_8 := Lib.hid (blk_later ZBaB_7.out bl8)
    have Zw_8 := Lib.hid (blk_later Zw_7.out bl8)
    have Zx1_8 := Lib.hid (blk_later Zx1_7.out bl8)
    have Zx2_8 := Lib.hid (blk_later Zx2_7.out bl8)
    have Zg_8 := Lib.hid (blk_later Zg_7.out bl8)
    clear cx10 cx11 cx12 cx13 cx1f zx1 cBaA0 cBaA1 cBaA2 cBaA3 cBaAf zBaA
    clear HraA_7 HraB_7 Hw_7 Hx1_7 Hx2_7 Hg_7 ZBaA_7 ZBaB_7 Zw_7 Zx1_7 Zx2_7 Zg_7 bl8 B7
    obtain ⟨cx20, cx21, cx22, cx23, cx2f, zx2⟩ := blk4 Zx2_8.out
    obtain ⟨cBaB0, cBaB1, cBaB2, cBaB3, cBaBf, zBaB⟩ := blk4 ZBaB_8.out
    go_wp2_with fail
    go_region_held3 (fun w' => (w'.cell? ⟨w5.heap.size, 0, none⟩ = some (.int .i64 aBP) ∧ w'.cell? ⟨w5.heap.size, 1, none⟩ = some (.int .i64 aBR) ∧ w'.cell? ⟨w5.heap.size, 2, none⟩ = some (.int .i64 aBC) ∧ w'.cell? ⟨w5.heap.size, 3, none⟩ = some (.slice px2 XaB.length kx2) ∧ w'.cell? ⟨w0.heap.size + 1, 0, none⟩ = some (.int .i64 aBP) ∧ w'.cell? ⟨w0.heap.size + 1, 1, none⟩ = some (.int .i64 aBR) ∧ w'.cell? ⟨w0.heap.size + 1, 2, none⟩ = some (.int .i64 aBC) ∧ w'.cell? ⟨w0.heap.size + 1, 3, none⟩ = some (.slice paB XaB.length kaB)) ∧ Below w8.heap.size w8 w')
      (first | exact ⟨⟨cx20, cx21, cx22, cx23, cBaB0, cBaB1, cBaB2, cBaB3⟩, (Below.refl _ _).drew⟩ | exact keep8 hb1 (by assumption) | exact keep8 (below_alloc _ _) (by assumption) | exact keep8 ((below_alloc _ _).drew) ⟨⟨cx20, cx21, cx22, cx23, cBaB0, cBaB1, cBaB2, cBaB3⟩, Below.refl _ _⟩ | exact keep8 (hBz.alloc hBz.size _) ⟨⟨cx20, cx21, cx22, cx23, cBaB0, cBaB1, cBaB2, cBaB3⟩, Below.refl _ _⟩ | exact keep8 (below_set4 hBz (by first | exact Nat.le_refl _ | omega | (simp; omega)) _ _ _ _) ⟨⟨cx20, cx21, cx22, cx23, cBaB0, cBaB1, cBaB2, cBaB3⟩, Below.refl _ _⟩)
      (first
        | (go_at_call 9; refine (toMatrix_any _ _ _ _ XaB _ (held_ints HraB_8.out (by assumption)) saB).mono ?_; rintro e w' ⟨uc, rfl, hoc, hb1⟩; obtain ⟨pc, kc, rfl, _, _⟩ := hoc.shape)
        | (go_at_call 11; refine (eqMatrix_same _ _ _ _ _ XaB _ (held_ints Hx2_8.out.ints (by assumption)) hoc.ints).mono ?_; rintro e w' ⟨rfl, hb1⟩))
    have bl9 : Below w8.heap.size w8 _ := held_below (by assumption)
    obtain ⟨w9, rfl⟩ : ∃ x : World, x = w' := ⟨_, rfl⟩
    have sz9 := bl9.size
    have B9 := B8.trans (bl9.mono B8.size)
    have HraA_9 := Lib.hid (HraA_0.out.below B9)
    have HraB_9 := Lib.hid (HraB_0.out.below B9)
    have Hw_9 := Lib.hid (Hw_8.out.below bl9)
    have Hx1_9 := Lib.hid (Hx1_8.out.below bl9)
    have Hx2_9 := Lib.hid (Hx2_8.out.below bl9)
    have Hg_9 := Lib.hid (Hg_8.out.below bl9)
    have ZBaA_9 := Lib.hid (blk_later ZBaA_8.out bl9)
    have ZBaB_9 := Lib.hid (blk_later ZBaB_8.out bl9)
    have Zw_9 := Lib.hid (blk_later Zw_8.out bl9)
    have Zx1_9 := Lib.hid (blk_later Zx1_8.out bl9)
    have Zx2_9 := Lib.hid (blk_later Zx2_8.out bl9)
    have Zg_9 := Lib.hid (blk_later Zg_8.out bl9)
    clear cx20 cx21 cx22 cx23 cx2f zx2 cBaB0 cBaB1 cBaB2 cBaB3 cBaBf zBaB
    clear HraA_8 HraB_8 Hw_8 Hx1_8 Hx2_8 Hg_8 ZBaA_8 ZBaB_8 Zw_8 Zx1_8 Zx2_8 Zg_8 bl9 B8
    obtain ⟨cx10, cx11, cx12, cx13, cx1f, zx1⟩ := blk4 Zx1_9.out
    go_wp2_with fail
    refine (markMatrix_any _ _ _ _ XaA _ _ _ _ Hx1_9.out (by omega) (by omega)).mono ?_
    rintro e w10 ⟨rfl, ho10, hb10⟩
    have sz10 := hb10.size
    have B10 := B9.trans (hb10.below (by omega) B9.size)
    have HraA_10 := Lib.hid (HraA_0.out.below B10)
    have HraB_10 := Lib.hid (HraB_0.out.below B10)
    have Hw_10 := Lib.hid (Hw_9.out.frm hb10 (by omega))
    have Hx2_10 := Lib.hid (Hx2_9.out.frm hb10 (by omega))
    have Hg_10 := Lib.hid (Hg_9.out.frm hb10 (by omega))
    have ZBaA_10 := Lib.hid (hb10.blk ZBaA_9.out (by omega))
    have ZBaB_10 := Lib.hid (hb10.blk ZBaB_9.out (by omega))
    have Zw_10 := Lib.hid (hb10.blk Zw_9.out (by omega))
    have Zx1_10 := Lib.hid (hb10.blk Zx1_9.out (by omega))
    have Zx2_10 := Lib.hid (hb10.blk Zx2_9.out (by omega))
    have Zg_10 := Lib.hid (hb10.blk Zg_9.out (by omega))
    have Hx1_10 := Lib.hid ho10
    clear ho10
    clear HraA_9 HraB_9 Hw_9 Hx2_9 Hg_9 ZBaA_9 ZBaB_9 Zw_9 Zx1_9 Zx2_9 Zg_9 Hx1_9
    clear hb10 B9
    clear cx10 cx11 cx12 cx13 cx1f zx1
    obtain ⟨cx20, cx21, cx22, cx23, cx2f, zx2⟩ := blk4 Zx2_10.out
    go_wp2_with fail
    refine (markMatrix_any _ _ _ _ XaB _ _ _ _ Hx2_10.out (by omega) (by omega)).mono ?_
    rintro e w11 ⟨rfl, ho11, hb11⟩
    have sz11 := hb11.size
    have B11 := B10.trans (hb11.below (by omega) B10.size)
    have HraA_11 := Lib.hid (HraA_0.out.below B11)
    have HraB_11 := Lib.hid (HraB_0.out.below B11)
    have Hw_11 := Lib.hid (Hw_10.out.frm hb11 (by omega))
    have Hx1_11 := Lib.hid (Hx1_10.out.frm hb11 (by omega))
    have Hg_11 := Lib.hid (Hg_10.out.frm hb11 (by omega))
    have ZBaA_11 := Lib.hid (hb11.blk ZBaA_10.out (by omega))
    have ZBaB_11 := Lib.hid (hb11.blk ZBaB_10.out (by omega))
    have Zw_11 := Lib.hid (hb11.blk Zw_10.out (by omega))
    have Zx1_11 := Lib.hid (hb11.blk Zx1_10.out (by omega))
    have Zx2_11 := Lib.hid (hb11.blk Zx2_10.out (by omega))
    have Zg_11 := Lib.hid (hb11.blk Zg_10.out (by omega))
    have Hx2_11 := Lib.hid ho11
    clear ho11
    clear HraA_10 HraB_10 Hw_10 Hx1_10 Hg_10 ZBaA_10 ZBaB_10 Zw_10 Zx1_10 Zx2_10 Zg_10 Hx2_10
    clear hb11 B10
    clear cx20 cx21 cx22 cx23 cx2f zx2
    obtain ⟨cg0, cg1, cg2, cg3, cgf, zg⟩ := blk4 Zg_11.out
    obtain ⟨cw0, cw1, cw2, cw3, cwf, zw⟩ := blk4 Zw_11.out
    go_wp2_with fail
    refine (eqMatrix_same _ _ _ _ _ _ _ Hg_11.out.ints Hw_11.out.ints).mono ?_
    rintro e w12 ⟨rfl, hb12⟩
    have bl12 : Below w11.heap.size w11 w12 := hb12
    have sz12 : w11.heap.size ≤ w12.heap.size := by have := hb12.size; simpa using this
    have B12 := B11.trans (bl12.mono B11.size)
    have HraA_12 := Lib.hid (HraA_0.out.below B12)
    have HraB_12 := Lib.hid (HraB_0.out.below B12)
    have Hw_12 := Lib.hid (Hw_11.out.below bl12)
    have Hx1_12 := Lib.hid (Hx1_11.out.below bl12)
    have Hx2_12 := Lib.hid (Hx2_11.out.below bl12)
    have Hg_12 := Lib.hid (Hg_11.out.below bl12)
    have ZBaA_12 := Lib.hid (blk_later ZBaA_11.out bl12)
    have ZBaB_12 := Lib.hid (blk_later ZBaB_11.out bl12)
    have Zw_12 := Lib.hid (blk_later Zw_11.out bl12)
    have Zx1_12 := Lib.hid (blk_later Zx1_11.out bl12)
    have Zx2_12 := Lib.hid (blk_later Zx2_11.out bl12)
    have Zg_12 := Lib.hid (blk_later Zg_11.out bl12)
    clear HraA_11 HraB_11 Hw_11 Hx1_11 Hx2_11 Hg_11 ZBaA_11 ZBaB_11 Zw_11 Zx1_11 Zx2_11 Zg_11
    clear hb12 bl12 B11
    clear cg0 cg1 cg2 cg3 cgf zg cw0 cw1 cw2 cw3 cwf zw
    obtain ⟨cg0, cg1, cg2, cg3, cgf, zg⟩ := blk4 Zg_12.out
    go_wp2_with fail
    refine (markMatrix_any _ _ _ _ M.D _ _ 1 _ Hg_12.out (by omega) (by omega)).mono ?_
    rintro e w13 ⟨rfl, ho13, hb13⟩
    have sz13 := hb13.size
    have B13 := B12.trans (hb13.below (by omega) B12.size)
    have HraA_13 := Lib.hid (HraA_0.out.below B13)
    have HraB_13 := Lib.hid (HraB_0.out.below B13)
    have Hw_13 := Lib.hid (Hw_12.out.frm hb13 (by omega))
    have Hx1_13 := Lib.hid (Hx1_12.out.frm hb13 (by omega))
    have Hx2_13 := Lib.hid (Hx2_12.out.frm hb13 (by omega))
    have ZBaA_13 := Lib.hid (hb13.blk ZBaA_12.out (by omega))
    have ZBaB_13 := Lib.hid (hb13.blk ZBaB_12.out (by omega))
    have Zw_13 := Lib.hid (hb13.blk Zw_12.out (by omega))
    have Zx1_13 := Lib.hid (hb13.blk Zx1_12.out (by omega))
    have Zx2_13 := Lib.hid (hb13.blk Zx2_12.out (by omega))
    have Zg_13 := Lib.hid (hb13.blk Zg_12.out (by omega))
    have Hg_13 := Lib.hid ho13
    clear ho13
    clear HraA_12 HraB_12 Hw_12 Hx1_12 Hx2_12 ZBaA_12 ZBaB_12 Zw_12 Zx1_12 Zx2_12 Zg_12 Hg_12
    clear hb13 B12
    clear cg0 cg1 cg2 cg3 cgf zg
    obtain ⟨cg0, cg1, cg2, cg3, cgf, zg⟩ := blk4 Zg_13.out
    go_wp2_with fail
    refine (heldMatrix_runs _ _ _ _ M.D.length 1 _ Hg_13.out.ints (by omega) (by omega)).mono ?_
    rintro e w14 ⟨rfl, hb14⟩
    have bl14 : Below w13.heap.size w13 w14 := hb14
    have sz14 : w13.heap.size ≤ w14.heap.size := by have := hb14.size; simpa using this
    have B14 := B13.trans (bl14.mono B13.size)
    have HraA_14 := Lib.hid (HraA_0.out.below B14)
    have HraB_14 := Lib.hid (HraB_0.out.below B14)
    have Hw_14 := Lib.hid (Hw_13.out.below bl14)
    have Hx1_14 := Lib.hid (Hx1_13.out.below bl14)
    have Hx2_14 := Lib.hid (Hx2_13.out.below bl14)
    have Hg_14 := Lib.hid (Hg_13.out.below bl14)
    have ZBaA_14 := Lib.hid (blk_later ZBaA_13.out bl14)
    have ZBaB_14 := Lib.hid (blk_later ZBaB_13.out bl14)
    have Zw_14 := Lib.hid (blk_later Zw_13.out bl14)
    have Zx1_14 := Lib.hid (blk_later Zx1_13.out bl14)
    have Zx2_14 := Lib.hid (blk_later Zx2_13.out bl14)
    have Zg_14 := Lib.hid (blk_later Zg_13.out bl14)
    clear HraA_13 HraB_13 Hw_13 Hx1_13 Hx2_13 Hg_13 ZBaA_13 ZBaB_13 Zw_13 Zx1_13 Zx2_13 Zg_13
    clear hb14 bl14 B13
    clear cg0 cg1 cg2 cg3 cgf zg
    obtain ⟨cBaA0, cBaA1, cBaA2, cBaA3, cBaAf, zBaA⟩ := blk4 ZBaA_14.out
    obtain ⟨cBaB0, cBaB1, cBaB2, cBaB3, cBaBf, zBaB⟩ := blk4 ZBaB_14.out
    go_wp2_with fail
    go_cut [15, 16] (fun s15 s16 wc => CutBox 3 26 w14 wc M s15 ∧ s16 = .bool N2)
    case first =>
      go_region_held3 (fun w' => (w'.cell? ⟨w0.heap.size, 0, none⟩ = some (.int .i64 aAP) ∧ w'.cell? ⟨w0.heap.size, 1, none⟩ = some (.int .i64 aAR) ∧ w'.cell? ⟨w0.heap.size, 2, none⟩ = some (.int .i64 aAC) ∧ w'.cell? ⟨w0.heap.size, 3, none⟩ = some (.slice paA XaA.length kaA) ∧ w'.cell? ⟨w0.heap.size + 1, 0, none⟩ = some (.int .i64 aBP) ∧ w'.cell? ⟨w0.heap.size + 1, 1, none⟩ = some (.int .i64 aBR) ∧ w'.cell? ⟨w0.heap.size + 1, 2, none⟩ = some (.int .i64 aBC) ∧ w'.cell? ⟨w0.heap.size + 1, 3, none⟩ = some (.slice paB XaB.length kaB)) ∧ Below w14.heap.size w14 w')
        (first | exact ⟨⟨cBaA0, cBaA1, cBaA2, cBaA3, cBaB0, cBaB1, cBaB2, cBaB3⟩, (Below.refl _ _).drew⟩ | exact keep8 hb1 (by assumption) | exact keep8 (below_alloc _ _) (by assumption) | exact keep8 ((below_alloc _ _).drew) ⟨⟨cBaA0, cBaA1, cBaA2, cBaA3, cBaB0, cBaB1, cBaB2, cBaB3⟩, Below.refl _ _⟩ | exact keep8 (hBz.alloc hBz.size _) ⟨⟨cBaA0, cBaA1, cBaA2, cBaA3, cBaB0, cBaB1, cBaB2, cBaB3⟩, Below.refl _ _⟩ | exact keep8 (below_set4 hBz (by first | exact Nat.le_refl _ | omega | (simp; omega)) _ _ _ _) ⟨⟨cBaA0, cBaA1, cBaA2, cBaA3, cBaB0, cBaB1, cBaB2, cBaB3⟩, Below.refl _ _⟩)
        (first
          | (go_at_call_of 9 (Value.slice paA XaA.length kaA); refine (toMatrix_any _ _ _ _ XaA _ (held_ints HraA_14.out (by assumption)) saA).mono ?_; rintro e w' ⟨ucaA, rfl, hoaA, hb1⟩; have hBz : Below w14.heap.size w14 w' := below_trans (held_below (by assumption)) hb1; have hzz := hBz.size; obtain ⟨pcaA, kcaA, rfl, _, _⟩ := hoaA.shape; first | (have hz := blk_later hz hb1; obtain ⟨q0, q1, q2, q3, qf, qz⟩ := blk4 hz) | (have hz := blk_later (heap_alloc_top _ _) hb1; obtain ⟨q0, q1, q2, q3, qf, qz⟩ := blk4 hz) | (have hz := blk_later (alloc_drew_top _ _) hb1; obtain ⟨q0, q1, q2, q3, qf, qz⟩ := blk4 hz) | skip)
          | (go_at_call_of 9 (Value.slice paB XaB.length kaB); refine (toMatrix_any _ _ _ _ XaB _ (held_ints HraB_14.out (by assumption)) saB).mono ?_; rintro e w' ⟨ucaB, rfl, hoaB, hb1⟩; have hBz : Below w14.heap.size w14 w' := below_trans (held_below (by assumption)) hb1; have hzz := hBz.size; have hoaA := (OwnI.below hoaA (by first | exact Below.refl _ _ | exact (Below.refl _ _).drew | exact below_alloc _ _ | exact (below_alloc _ _).drew)).below hb1; obtain ⟨pcaB, kcaB, rfl, _, _⟩ := hoaB.shape; first | (have hz := blk_later hz hb1; obtain ⟨q0, q1, q2, q3, qf, qz⟩ := blk4 hz) | (have hz := blk_later (heap_alloc_top _ _) hb1; obtain ⟨q0, q1, q2, q3, qf, qz⟩ := blk4 hz) | (have hz := blk_later (alloc_drew_top _ _) hb1; obtain ⟨q0, q1, q2, q3, qf, qz⟩ := blk4 hz) | skip)
          | (go_at_call 10; refine (Ci.out _ _ _ (OwnI.below hoaA (by first | exact Below.refl _ _ | exact (Below.refl _ _).drew | exact below_alloc _ _ | exact (below_alloc _ _).drew)).ints (OwnI.below hoaB (by first | exact Below.refl _ _ | exact (Below.refl _ _).drew | exact below_alloc _ _ | exact (below_alloc _ _).drew)).ints).mono ?_; rintro e w' ⟨uh, rfl, hoR, hb1⟩; have hBz : Below w14.heap.size w14 w' := below_trans (held_below (by assumption)) hb1; have hzz := hBz.size; obtain ⟨ph, kh, rfl, _, _⟩ := hoR.shape; first | (have hz := blk_later hz hb1; obtain ⟨q0, q1, q2, q3, qf, qz⟩ := blk4 hz) | (have hz := blk_later (heap_alloc_top _ _) hb1; obtain ⟨q0, q1, q2, q3, qf, qz⟩ := blk4 hz) | (have hz := blk_later (alloc_drew_top _ _) hb1; obtain ⟨q0, q1, q2, q3, qf, qz⟩ := blk4 hz) | skip))
      all_goals go_wp2_with fail
      all_goals go_meet
      all_goals refine ⟨?_, rfl⟩
      all_goals first
        | (with_reducible refine cutBox_alloc hBz hoR ?_ ; (first | assumption | exact Nat.le_refl _ | omega | (simp <;> omega)))
        | (with_reducible refine cutBox_set hBz hz hoR ?_ ?_ ?_ <;> (first | assumption | exact Nat.le_refl _ | omega | (simp <;> omega)))
    case rest =>
      obtain ⟨qh, ph, kh, loh, hih, rfl, hq1, hblk, hown, hq2, hq3, hq4, hq5, hb15⟩ := hcut.1
      have hc2 := hcut.2; subst hc2
      obtain ⟨w15, rfl⟩ : ∃ x : World, x = wc := ⟨_, rfl⟩
      have bl15 := hb15
      have sz15 := hb15.size
      have B15 := B14.trans (bl15.mono B14.size)
      have HraA_15 := Lib.hid (HraA_0.out.below B15)
      have HraB_15 := Lib.hid (HraB_0.out.below B15)
      have Hw_15 := Lib.hid (Hw_14.out.below bl15)
      have Hx1_15 := Lib.hid (Hx1_14.out.below bl15)
      have Hx2_15 := Lib.hid (Hx2_14.out.below bl15)
      have Hg_15 := Lib.hid (Hg_14.out.below bl15)
      have ZBaA_15 := Lib.hid (blk_later ZBaA_14.out bl15)
      have ZBaB_15 := Lib.hid (blk_later ZBaB_14.out bl15)
      have Zw_15 := Lib.hid (blk_later Zw_14.out bl15)
      have Zx1_15 := Lib.hid (blk_later Zx1_14.out bl15)
      have Zx2_15 := Lib.hid (blk_later Zx2_14.out bl15)
      have Zg_15 := Lib.hid (blk_later Zg_14.out bl15)
      have Zh_15 := Lib.hid hblk
      have Hh_15 := Lib.hid hown
      clear hblk hown
      clear cBaA0 cBaA1 cBaA2 cBaA3 cBaAf zBaA cBaB0 cBaB1 cBaB2 cBaB3 cBaBf zBaB
      clear HraA_14 HraB_14 Hw_14 Hx1_14 Hx2_14 Hg_14 ZBaA_14 ZBaB_14 Zw_14 Zx1_14 Zx2_14 Zg_14 hb15 bl15 B14
      obtain ⟨ch0, ch1, ch2, ch3, chf, zh⟩ := blk4 Zh_15.out
      obtain ⟨cw0, cw1, cw2, cw3, cwf, zw⟩ := blk4 Zw_15.out
      go_wp2_with fail
      refine (eqMatrix_same _ _ _ _ _ _ _ Hh_15.out.ints Hw_15.out.ints).mono ?_
      rintro e w16 ⟨rfl, hb16⟩
      have bl16 : Below w15.heap.size w15 w16 := hb16
      have sz16 : w15.heap.size ≤ w16.heap.size := by have := hb16.size; simpa using this
      have B16 := B15.trans (bl16.mono B15.size)
      have HraA_16 := Lib.hid (HraA_0.out.below B16)
      have HraB_16 := Lib.hid (HraB_0.out.below B16)
      have Hw_16 := Lib.hid (Hw_15.out.below bl16)
      have Hx1_16 := Lib.hid (Hx1_15.out.below bl16)
      have Hx2_16 := Lib.hid (Hx2_15.out.below bl16)
      have Hg_16 := Lib.hid (Hg_15.out.below bl16)
      have Hh_16 := Lib.hid (Hh_15.out.below bl16)
      have ZBaA_16 := Lib.hid (blk_later ZBaA_15.out bl16)
      have ZBaB_16 := Lib.hid (blk_later ZBaB_15.out bl16)
      have Zw_16 := Lib.hid (blk_later Zw_15.out bl16)
      have Zx1_16 := Lib.hid (blk_later Zx1_15.out bl16)
      have Zx2_16 := Lib.hid (blk_later Zx2_15.out bl16)
      have Zg_16 := Lib.hid (blk_later Zg_15.out bl16)
      have Zh_16 := Lib.hid (blk_later Zh_15.out bl16)
      clear HraA_15 HraB_15 Hw_15 Hx1_15 Hx2_15 Hg_15 Hh_15 ZBaA_15 ZBaB_15 Zw_15 Zx1_15 Zx2_15 Zg_15 Zh_15
      clear hb16 bl16 B15
      clear ch0 ch1 ch2 ch3 chf zh cw0 cw1 cw2 cw3 cwf zw
      obtain ⟨cg0, cg1, cg2, cg3, cgf, zg⟩ := blk4 Zg_16.out
      go_wp2_with fail
      refine (heldMatrix_runs _ _ _ _ M.D.length 1 _ Hg_16.out.ints (by omega) (by omega)).mono ?_
      rintro e w17 ⟨rfl, hb17⟩
      have bl17 : Below w16.heap.size w16 w17 := hb17
      have sz17 : w16.heap.size ≤ w17.heap.size := by have := hb17.size; simpa using this
      have B17 := B16.trans (bl17.mono B16.size)
      have HraA_17 := Lib.hid (HraA_0.out.below B17)
      have HraB_17 := Lib.hid (HraB_0.out.below B17)
      have Hw_17 := Lib.hid (Hw_16.out.below bl17)
      have Hx1_17 := Lib.hid (Hx1_16.out.below bl17)
      have Hx2_17 := Lib.hid (Hx2_16.out.below bl17)
      have Hg_17 := Lib.hid (Hg_16.out.below bl17)
      have Hh_17 := Lib.hid (Hh_16.out.below bl17)
      have ZBaA_17 := Lib.hid (blk_later ZBaA_16.out bl17)
      have ZBaB_17 := Lib.hid (blk_later ZBaB_16.out bl17)
      have Zw_17 := Lib.hid (blk_later Zw_16.out bl17)
      have Zx1_17 := Lib.hid (blk_later Zx1_16.out bl17)
      have Zx2_17 := Lib.hid (blk_later Zx2_16.out bl17)
      have Zg_17 := Lib.hid (blk_later Zg_16.out bl17)
      have Zh_17 := Lib.hid (blk_later Zh_16.out bl17)
      clear HraA_16 HraB_16 Hw_16 Hx1_16 Hx2_16 Hg_16 Hh_16 ZBaA_16 ZBaB_16 Zw_16 Zx1_16 Zx2_16 Zg_16 Zh_16
      clear hb17 bl17 B16
      clear cg0 cg1 cg2 cg3 cgf zg
      go_wp2_with fail
      go_ret
      exact ⟨rfl, B17⟩

end Go.Proofs.Ytapmnfakjnhlbaa
