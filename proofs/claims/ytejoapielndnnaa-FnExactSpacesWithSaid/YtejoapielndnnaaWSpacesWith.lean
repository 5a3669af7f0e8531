/-
  The law FnExactSpacesWith, walked call by call: it returns true, and nothing that was there has changed.
-/
import Derived.Test.YtejoapielndnnaaSpW
namespace Go.Proofs.Ytejoapielndnnaa
set_option linter.all false
open Go.RowKit

set_option maxRecDepth 100000 in
set_option maxHeartbeats 8000000 in
theorem lawSpacesWith (p : Int) (v : Value) (xs : List Int) (w0 : World) (h : Ints w0 v xs) :
    Calls Try.prog 4 #[.int .i64 p, v] w0 fun e w' => e = .returned (.bool true) ∧ Below w0.heap.size w0 w' := by
  have S := fun v w (h : Ints w v xs) => specSpacesWith_any p v xs w h
  have I := fun v w (h : Ints w v xs) => implSpacesWith_any p v xs w h
  have hlen := spMs_len p xs
  obtain ⟨⟨ms, b⟩, hr⟩ : ∃ r, r = spMs p xs := ⟨_, rfl⟩
  rw [← hr] at S I hlen
  dsimp only at hlen
  unfold RetMsB at S I
  dsimp only at S I
  have S := Lib.hid S
  have I := Lib.hid I
  have Hx := Lib.hid h
  have B0 := Lib.hid (Below.refl w0.heap.size w0)
  obtain ⟨q, cap, rfl, ⟨hc1, hc2⟩, _⟩ := h
  unfold maxLen at hc2
  clear hr
  have hbb : (b != b) = false := by simp
  go_enter Try.func4, Try.ntmps4
  by_cases hbig : 1048576 < xs.length
  · have hbig2 : (1048576 : Int) < (xs.length : Int) := by omega
    go_wp2_with fail
    go_ret
    exact ⟨rfl, Below.refl _ _⟩
  · have hsm : xs.length ≤ 1048576 := by omega
    have hbig2 : ¬ (1048576 : Int) < (xs.length : Int) := by omega
    have Hsm := Lib.hid hsm
    go_wp2_with fail
    refine (toIntS_any _ xs _ (Hx.out.below B0.out) Hsm.out).mono ?_
    rintro e w1 ⟨u, rfl, ho, hb⟩
    have sz1 : w0.heap.size ≤ w1.heap.size := hb.size
    have B1 := Lib.hid (B0.out.trans (hb.mono B0.out.size))
    clear B0 hb
    obtain ⟨pa, ka, rfl, la, ma⟩ := ho.shape
    have Ha_1 := Lib.hid ho
    clear ho
    go_wp2_with fail
    refine (S.out _ _ Ha_1.out.ints).mono ?_
    rintro e w2 ⟨u, rfl, ho, hb⟩
    have sz2 : w1.heap.size ≤ w2.heap.size := hb.size
    have B2 := Lib.hid (B1.out.trans (hb.mono B1.out.size))
    have Ha_2 := Lib.hid (Ha_1.out.below hb)
    clear Ha_1 B1 hb
    obtain ⟨pW, kW, rfl, lW, mW⟩ := ho.shape
    have HW_2 := Lib.hid ho
    clear ho
    go_wp2_with fail
    refine (toIntS_any _ xs _ (Hx.out.below B2.out) Hsm.out).mono ?_
    rintro e w3 ⟨u, rfl, ho, hb⟩
    have sz3 : w2.heap.size ≤ w3.heap.size := hb.size
    have B3 := Lib.hid (B2.out.trans (hb.mono B2.out.size))
    have HW_3 := Lib.hid (HW_2.out.below hb)
    clear HW_2 B2 hb
    obtain ⟨px, kx, rfl, lx, mx⟩ := ho.shape
    have Hx_3 := Lib.hid ho
    clear ho
    go_wp2_with fail
    refine (I.out _ _ Hx_3.out.ints).mono ?_
    rintro e w4 ⟨u, rfl, ho, hb⟩
    have sz4 : w3.heap.size ≤ w4.heap.size := hb.size
    have B4 := Lib.hid (B3.out.trans (hb.mono B3.out.size))
    have HW_4 := Lib.hid (HW_3.out.below hb)
    have Hx_4 := Lib.hid (Hx_3.out.below hb)
    clear HW_3 Hx_3 B3 hb
    obtain ⟨pG, kG, rfl, lG, mG⟩ := ho.shape
    have HG_4 := Lib.hid ho
    clear ho
    go_wp2_with fail
    refine (eqMatrixS_same _ _ ms _ HG_4.out.rd HW_4.out.rd).mono ?_
    rintro e w5 ⟨rfl, hb⟩
    have sz5 : w4.heap.size ≤ w5.heap.size := hb.size
    have B5 := Lib.hid (B4.out.trans (hb.mono B4.out.size))
    have HW_5 := Lib.hid (HW_4.out.below hb)
    have Hx_5 := Lib.hid (Hx_4.out.below hb)
    have HG_5 := Lib.hid (HG_4.out.below hb)
    clear HW_4 Hx_4 HG_4 B4 hb
    go_wp2_with fail
    refine (toIntS_any _ xs _ (Hx.out.below B5.out) Hsm.out).mono ?_
    rintro e w6 ⟨u, rfl, ho, hb⟩
    have sz6 : w5.heap.size ≤ w6.heap.size := hb.size
    have B6 := Lib.hid (B5.out.trans (hb.mono B5.out.size))
    have HW_6 := Lib.hid (HW_5.out.below hb)
    have Hx_6 := Lib.hid (Hx_5.out.below hb)
    have HG_6 := Lib.hid (HG_5.out.below hb)
    clear HW_5 Hx_5 HG_5 B5 hb
    obtain ⟨pc, kc, rfl, lc, mc⟩ := ho.shape
    have Hc_6 := Lib.hid ho
    clear ho
    go_wp2_with fail
    refine (eqIntS_same _ _ xs _ Hx_6.out.ints Hc_6.out.ints).mono ?_
    rintro e w7 ⟨rfl, hb⟩
    have sz7 : w6.heap.size ≤ w7.heap.size := hb.size
    have B7 := Lib.hid (B6.out.trans (hb.mono B6.out.size))
    have HW_7 := Lib.hid (HW_6.out.below hb)
    have Hx_7 := Lib.hid (Hx_6.out.below hb)
    have HG_7 := Lib.hid (HG_6.out.below hb)
    have Hc_7 := Lib.hid (Hc_6.out.below hb)
    clear HW_6 Hx_6 HG_6 Hc_6 B6 hb
    go_wp2_with fail
    refine (markIntS_any _ xs _ _ 1 _ Hx_7.out (by omega) (by omega)).mono ?_
    rintro e w8 ⟨rfl, ho, hf⟩
    have sz8 : w7.heap.size ≤ w8.heap.size := hf.size
    have B8 := Lib.hid (B7.out.trans (hf.below (by omega) B7.out.size))
    have HW_8 := Lib.hid (HW_7.out.frm hf (by omega))
    have HG_8 := Lib.hid (HG_7.out.frm hf (by omega))
    have Hx_8 := Lib.hid ho
    clear HW_7 HG_7 Hx_7 B7 hf ho
    have hk1 : ¬ (1 : Int) + (xs.length : Int) < 0 := by omega
    go_wp2_with fail
    refine (eqMatrixS_same _ _ ms _ HG_8.out.rd HW_8.out.rd).mono ?_
    rintro e w9 ⟨rfl, hb⟩
    have sz9 : w8.heap.size ≤ w9.heap.size := hb.size
    have B9 := Lib.hid (B8.out.trans (hb.mono B8.out.size))
    have HW_9 := Lib.hid (HW_8.out.below hb)
    have Hx_9 := Lib.hid (Hx_8.out.below hb)
    have HG_9 := Lib.hid (HG_8.out.below hb)
    clear HW_8 Hx_8 HG_8 B8 hb
    go_wp2_with fail
    refine (markMatrixS_any _ ms _ _ 1 _ HG_9.out (by omega) (by omega)).mono ?_
    rintro e w10 ⟨rfl, ho, hf⟩
    have sz10 : w9.heap.size ≤ w10.heap.size := hf.size
    have B10 := Lib.hid (B9.out.trans (hf.below (by omega) B9.out.size))
    have HW_10 := Lib.hid (HW_9.out.frm hf (by omega))
    have HG_10 := Lib.hid ho
    clear HW_9 HG_9 B9 hf ho
    have hk2 : ¬ (1 : Int) + (preM ms ms.length : Int) < 0 := by omega
    go_wp2_with fail
    refine (heldMatrixS_runs _ ms 1 _ HG_10.out.rd (by omega) (by omega)).mono ?_
    rintro e w11 ⟨rfl, hb⟩
    have sz11 : w10.heap.size ≤ w11.heap.size := hb.size
    have B11 := Lib.hid (B10.out.trans (hb.mono B10.out.size))
    have HW_11 := Lib.hid (HW_10.out.below hb)
    have HG_11 := Lib.hid (HG_10.out.below hb)
    clear HW_10 HG_10 B10 hb
    go_wp2_with fail
    refine (toIntS_any _ xs _ (Hx.out.below B11.out) Hsm.out).mono ?_
    rintro e w12 ⟨u, rfl, ho, hb⟩
    have sz12 : w11.heap.size ≤ w12.heap.size := hb.size
    have B12 := Lib.hid (B11.out.trans (hb.mono B11.out.size))
    have HW_12 := Lib.hid (HW_11.out.below hb)
    have HG_12 := Lib.hid (HG_11.out.below hb)
    clear HW_11 HG_11 B11 hb
    obtain ⟨pd, kd, rfl, ld, md⟩ := ho.shape
    have Hd_12 := Lib.hid ho
    clear ho
    go_wp2_with fail
    refine (I.out _ _ Hd_12.out.ints).mono ?_
    rintro e w13 ⟨u, rfl, ho, hb⟩
    have sz13 : w12.heap.size ≤ w13.heap.size := hb.size
    have B13 := Lib.hid (B12.out.trans (hb.mono B12.out.size))
    have HW_13 := Lib.hid (HW_12.out.below hb)
    have HG_13 := Lib.hid (HG_12.out.below hb)
    have Hd_13 := Lib.hid (Hd_12.out.below hb)
    clear HW_12 HG_12 Hd_12 B12 hb
    obtain ⟨pK, kK, rfl, lK, mK⟩ := ho.shape
    have HK_13 := Lib.hid ho
    clear ho
    go_wp2_with fail
    refine (eqMatrixS_same _ _ ms _ HK_13.out.rd HW_13.out.rd).mono ?_
    rintro e w14 ⟨rfl, hb⟩
    have sz14 : w13.heap.size ≤ w14.heap.size := hb.size
    have B14 := Lib.hid (B13.out.trans (hb.mono B13.out.size))
    have HW_14 := Lib.hid (HW_13.out.below hb)
    have HG_14 := Lib.hid (HG_13.out.below hb)
    have HK_14 := Lib.hid (HK_13.out.below hb)
    clear HW_13 HG_13 HK_13 B13 hb
    go_wp2_with fail
    refine (heldMatrixS_runs _ ms 1 _ HG_14.out.rd (by omega) (by omega)).mono ?_
    rintro e w15 ⟨rfl, hb⟩
    have sz15 : w14.heap.size ≤ w15.heap.size := hb.size
    have B15 := Lib.hid (B14.out.trans (hb.mono B14.out.size))
    have HW_15 := Lib.hid (HW_14.out.below hb)
    have HG_15 := Lib.hid (HG_14.out.below hb)
    have HK_15 := Lib.hid (HK_14.out.below hb)
    clear HW_14 HG_14 HK_14 B14 hb
    go_wp2_with fail
    go_ret
    exact ⟨rfl, B15.out⟩

end Go.Proofs.Ytejoapielndnnaa
