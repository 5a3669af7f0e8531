/-
  The law FnExactNewSession, walked call by call: it returns true, and nothing that was there has changed.
-/
import Derived.Test.YtebfnjffjedmgaaSessN
namespace Go.Proofs.Ytebfnjffjedmgaa
set_option linter.all false
open Go.RowKit

set_option maxRecDepth 100000 in
set_option maxHeartbeats 8000000 in
theorem lawNewSession (w0 : World) :
    Calls Try.prog 3 #[] w0 fun e w' => e = .returned (.bool true) ∧ Below w0.heap.size w0 w' := by
  go_enter Try.func3, Try.ntmps3
  go_wp2_with fail
  refine (specNewSession_any _).mono ?_
  rintro e w1 ⟨u1, s1, t1, rfl, ho1, hb1⟩
  obtain ⟨p1, k1, rfl, _, _⟩ := ho1.shape
  have B1 := hb1
  have z1 := hb1.size
  have H1 := Lib.hid ho1
  clear ho1 hb1
  go_wp2_with fail
  refine (implNewSession_any _).mono ?_
  rintro e w2 ⟨u2, rfl, ho2, hb2⟩
  obtain ⟨p2, k2, rfl, _, _⟩ := ho2.shape
  have bl2 : Below w1.heap.size w1 w2 := (below_alloc _ _).trans (hb2.mono (by simp))
  have s2 : w1.heap.size + 1 ≤ w2.heap.size := by have := hb2.size; simpa using this
  have B2 := B1.trans (bl2.mono B1.size)
  have Za2 := Lib.hid ((hb2.block _ (by simp)).trans (heap_alloc_top _ _))
  have H1_2 := Lib.hid (H1.out.below bl2)
  have H2 : Hid (OwnI 3 w2 (w1.heap.size + 1) w2.heap.size _ _) := Lib.hid (ho2.mono (by simp) (Nat.le_refl _))
  clear H1 ho2 hb2 B1
  obtain ⟨a0, a1, a2, a3, a4, af, az⟩ := blk5 Za2.out
  go_wp2_with fail
  refine (eqSession_any _ _ [0] _ _ _ _ 2 4 _ (H2.out.below (below_alloc _ _)).ints (H1_2.out.below (below_alloc _ _)).ints).mono ?_
  rintro e w3 ⟨rfl, hb3⟩
  have bl3 : Below w2.heap.size w2 w3 := (below_alloc _ _).trans (hb3.mono (by simp))
  have s3 : w2.heap.size + 1 ≤ w3.heap.size := by have := hb3.size; simpa using this
  have Zb3 := Lib.hid ((hb3.block _ (by simp)).trans (heap_alloc_top _ _))
  have Za3 := Lib.hid (blk_later Za2.out bl3)
  have H1_3 := Lib.hid (H1_2.out.below bl3)
  have H2_3 := Lib.hid (H2.out.below bl3)
  have B3 := B2.trans (bl3.mono B2.size)
  clear a0 a1 a2 a3 a4 af az hb3 bl3 Za2 H1_2 H2 B2
  obtain ⟨b0, b1, b2, b3, b4, bf, bz⟩ := blk5 Zb3.out
  go_wp2_with fail
  refine (markSession_any _ [0] _ _ 1 _ H2_3.out (by omega) (by simp) (by omega)).mono ?_
  rintro e w4 ⟨rfl, ho4, hf4⟩
  have s4 := hf4.size
  have Zb4 := Lib.hid (hf4.blk Zb3.out (.inr (by omega)))
  have Za4 := Lib.hid (hf4.blk Za3.out (.inl (by omega)))
  have H1_4 := Lib.hid (H1_3.out.frm hf4 (.inl (by omega)))
  have H2_4 := Lib.hid ho4
  have B4 := B3.trans (hf4.below (by have := B3.size; omega) B3.size)
  clear b0 b1 b2 b3 b4 bf bz hf4 ho4 Zb3 Za3 H1_3 H2_3 B3
  obtain ⟨b0, b1, b2, b3, b4, bf, bz⟩ := blk5 Zb4.out
  go_wp2_with fail
  refine (heldSession_runs _ 1 1 _ H2_4.out.ints (by omega) (by omega)).mono ?_
  rintro e w5 ⟨rfl, hb5⟩
  have s5 := hb5.size
  have Zb5 := Lib.hid (blk_later Zb4.out hb5)
  have Za5 := Lib.hid (blk_later Za4.out hb5)
  have H1_5 := Lib.hid (H1_4.out.below hb5)
  have H2_5 := Lib.hid (H2_4.out.below hb5)
  have B5 := B4.trans (hb5.mono B4.size)
  clear b0 b1 b2 b3 b4 bf bz hb5 Zb4 Za4 H1_4 H2_4 B4
  go_wp2_with fail
  refine (implNewSession_any _).mono ?_
  rintro e w6 ⟨u6, rfl, ho6, hb6⟩
  obtain ⟨p6, k6, rfl, _, _⟩ := ho6.shape
  have s6 := hb6.size
  have Zb6 := Lib.hid (blk_later Zb5.out hb6)
  have Za6 := Lib.hid (blk_later Za5.out hb6)
  have H1_6 := Lib.hid (H1_5.out.below hb6)
  have H2_6 := Lib.hid (H2_5.out.below hb6)
  have H6 := Lib.hid ho6
  have B6 := B5.trans (hb6.mono B5.size)
  clear hb6 ho6 Zb5 Za5 H1_5 H2_5 B5
  obtain ⟨a0, a1, a2, a3, a4, af, az⟩ := blk5 Za6.out
  go_wp2_with fail
  refine (eqSession_any _ _ [0] _ _ _ _ 2 4 _ (H6.out.below (below_alloc _ _)).ints (H1_6.out.below (below_alloc _ _)).ints).mono ?_
  rintro e w7 ⟨rfl, hb7⟩
  have bl7 : Below w6.heap.size w6 w7 := (below_alloc _ _).trans (hb7.mono (by simp))
  have Zb7 := Lib.hid (blk_later Zb6.out bl7)
  have H2_7 := Lib.hid (H2_6.out.below bl7)
  have B7 := B6.trans (bl7.mono B6.size)
  clear a0 a1 a2 a3 a4 af az hb7 bl7 Zb6 Za6 H1_6 H2_6 H6 B6
  obtain ⟨b0, b1, b2, b3, b4, bf, bz⟩ := blk5 Zb7.out
  go_wp2_with fail
  refine (heldSession_runs _ 1 1 _ H2_7.out.ints (by omega) (by omega)).mono ?_
  rintro e w8 ⟨rfl, hb8⟩
  have B8 := B7.trans (hb8.mono B7.size)
  clear b0 b1 b2 b3 b4 bf bz hb8
  go_wp2_with fail
  go_ret
  exact ⟨rfl, B8⟩

end Go.Proofs.Ytebfnjffjedmgaa
