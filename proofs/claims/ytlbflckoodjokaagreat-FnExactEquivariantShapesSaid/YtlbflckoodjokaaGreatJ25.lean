/-
  The law FnExactEquivariantShapes, walked call by call: it returns true, and nothing that was there has changed. (Printed by gen_lawcls.py.)
-/
import Derived.Test.YtlbflckoodjokaaGreatJ24
namespace Go.Proofs.YtlbflckoodjokaaGreat
set_option linter.all false
open Go.RowKit

set_option maxRecDepth 100000 in
set_option maxHeartbeats 16000000 in
theorem lawEquivariantShapes (v0 : Value) (xs0 : List Int) (v1 : Value) (xs1 : List Int) (N2 : Int) (N3 : Int) (v4 : Value) (xs4 : List Int) (w0 : World) (h0 : Ints w0 v0 xs0) (h1 : Ints w0 v1 xs1) (h4 : Ints w0 v4 xs4) :
    Calls Tryz.prog 3 #[v0, v1, .int .i64 N2, .int .i64 N3, v4] w0 fun e w' => e = .returned (.bool true) ∧ Below w0.heap.size w0 w' := by
  have S := fun a b c w ha hb hc => specShapes_any a b c xs0 xs1 xs4 N2 N3 w ha hb hc
  have I := fun a b c w ha hb hc => implShapes_any a b c xs0 xs1 xs4 N2 N3 w ha hb hc
  have hlen := esR_len xs0 xs1 N2 N3 xs4
  obtain ⟨⟨cs, b⟩, hr⟩ : ∃ r, r = esR xs0 xs1 N2 N3 xs4 := ⟨_, rfl⟩
  rw [← hr] at S I hlen
  clear hr
  unfold RetPS at S
  unfold RetPB at I
  dsimp only at S I hlen
  have S := Lib.hid S
  have I := Lib.hid I
  have Hx0 := Lib.hid h0
  have Hx1 := Lib.hid h1
  have Hx4 := Lib.hid h4
  have B0 := Lib.hid (Below.refl w0.heap.size w0)
  obtain ⟨q0, cap0, rfl, ⟨hc0, hd0⟩, hcx0⟩ := h0
  clear hcx0
  obtain ⟨q1, cap1, rfl, ⟨hc1, hd1⟩, hcx1⟩ := h1
  clear hcx1
  obtain ⟨q4, cap4, rfl, ⟨hc4, hd4⟩, hcx4⟩ := h4
  clear hcx4
  unfold maxLen at hd0 hd1 hd4
  have hbb : (b != b) = false := by simp
  go_enter Tryz.func3, Tryz.ntmps3
  by_cases hbx0 : 1048576 < xs0.length
  · have hbz0 : (1048576 : Int) < (xs0.length : Int) := by omega
    go_wp2_with fail
    go_ret
    exact ⟨rfl, Below.refl _ _⟩
  by_cases hbx1 : 1048576 < xs1.length
  · have hbz0 : ¬ (1048576 : Int) < (xs0.length : Int) := by omega
    have hbz1 : (1048576 : Int) < (xs1.length : Int) := by omega
    go_wp2_with fail
    go_ret
    exact ⟨rfl, Below.refl _ _⟩
  by_cases hbx4 : 1048576 < xs4.length
  · have hbz0 : ¬ (1048576 : Int) < (xs0.length : Int) := by omega
    have hbz1 : ¬ (1048576 : Int) < (xs1.length : Int) := by omega
    have hbz4 : (1048576 : Int) < (xs4.length : Int) := by omega
    go_wp2_with fail
    go_ret
    exact ⟨rfl, Below.refl _ _⟩
  · have hbz0 : ¬ (1048576 : Int) < (xs0.length : Int) := by omega
    have hbz1 : ¬ (1048576 : Int) < (xs1.length : Int) := by omega
    have hbz4 : ¬ (1048576 : Int) < (xs4.length : Int) := by omega
    have Sm0 := Lib.hid (show xs0.length ≤ 1048576 by omega)
    have Sm1 := Lib.hid (show xs1.length ≤ 1048576 by omega)
    have Sm4 := Lib.hid (show xs4.length ≤ 1048576 by omega)
    go_wp2_with fail
    refine (toIntS_any _ xs0 _ (Hx0.out.below B0.out) Sm0.out).mono ?_
    rintro e w1 ⟨u, rfl, ho, hb⟩
    have sz1 : w0.heap.size ≤ w1.heap.size := hb.size
    have B1 := Lib.hid (B0.out.trans (hb.mono B0.out.size))
    clear B0 hb
    obtain ⟨pa0, ka0, rfl, la0, ma0⟩ := ho.shape
    have Ha0_1 := Lib.hid ho
    clear ho
    go_wp2_with fail
    refine (toIntS_any _ xs1 _ (Hx1.out.below B1.out) Sm1.out).mono ?_
    rintro e w2 ⟨u, rfl, ho, hb⟩
    have sz2 : w1.heap.size ≤ w2.heap.size := hb.size
    have B2 := Lib.hid (B1.out.trans (hb.mono B1.out.size))
    have Ha0_2 := Lib.hid (Ha0_1.out.below hb)
    clear Ha0_1 B1 hb
    obtain ⟨pa1, ka1, rfl, la1, ma1⟩ := ho.shape
    have Ha1_2 := Lib.hid ho
    clear ho
    go_wp2_with fail
    refine (toIntS_any _ xs4 _ (Hx4.out.below B2.out) Sm4.out).mono ?_
    rintro e w3 ⟨u, rfl, ho, hb⟩
    have sz3 : w2.heap.size ≤ w3.heap.size := hb.size
    have B3 := Lib.hid (B2.out.trans (hb.mono B2.out.size))
    have Ha0_3 := Lib.hid (Ha0_2.out.below hb)
    have Ha1_3 := Lib.hid (Ha1_2.out.below hb)
    clear Ha0_2 Ha1_2 B2 hb
    obtain ⟨pa4, ka4, rfl, la4, ma4⟩ := ho.shape
    have Ha4_3 := Lib.hid ho
    clear ho
    go_wp2_with fail
    refine (S.out _ _ _ _ Ha0_3.out.ints Ha1_3.out.ints Ha4_3.out.ints).mono ?_
    rintro e w4 ⟨u, rfl, ho, hb⟩
    have sz4 : w3.heap.size ≤ w4.heap.size := hb.size
    have B4 := Lib.hid (B3.out.trans (hb.mono B3.out.size))
    have Ha0_4 := Lib.hid (Ha0_3.out.below hb)
    have Ha1_4 := Lib.hid (Ha1_3.out.below hb)
    have Ha4_4 := Lib.hid (Ha4_3.out.below hb)
    clear Ha0_3 Ha1_3 Ha4_3 B3 hb
    obtain ⟨pW, kW, rfl, lW, mW⟩ := ho.shape
    have HW_4 := Lib.hid ho
    clear ho
    go_wp2_with fail
    refine (toIntS_any _ xs0 _ (Hx0.out.below B4.out) Sm0.out).mono ?_
    rintro e w5 ⟨u, rfl, ho, hb⟩
    have sz5 : w4.heap.size ≤ w5.heap.size := hb.size
    have B5 := Lib.hid (B4.out.trans (hb.mono B4.out.size))
    have HW_5 := Lib.hid (HW_4.out.below hb)
    clear HW_4 B4 hb
    obtain ⟨px0, kx0, rfl, lx0, mx0⟩ := ho.shape
    have Hx0_5 := Lib.hid ho
    clear ho
    go_wp2_with fail
    refine (toIntS_any _ xs1 _ (Hx1.out.below B5.out) Sm1.out).mono ?_
    rintro e w6 ⟨u, rfl, ho, hb⟩
    have sz6 : w5.heap.size ≤ w6.heap.size := hb.size
    have B6 := Lib.hid (B5.out.trans (hb.mono B5.out.size))
    have HW_6 := Lib.hid (HW_5.out.below hb)
    have Hx0_6 := Lib.hid (Hx0_5.out.below hb)
    clear HW_5 Hx0_5 B5 hb
    obtain ⟨px1, kx1, rfl, lx1, mx1⟩ := ho.shape
    have Hx1_6 := Lib.hid ho
    clear ho
    go_wp2_with fail
    refine (toIntS_any _ xs4 _ (Hx4.out.below B6.out) Sm4.out).mono ?_
    rintro e w7 ⟨u, rfl, ho, hb⟩
    have sz7 : w6.heap.size ≤ w7.heap.size := hb.size
    have B7 := Lib.hid (B6.out.trans (hb.mono B6.out.size))
    have HW_7 := Lib.hid (HW_6.out.below hb)
    have Hx0_7 := Lib.hid (Hx0_6.out.below hb)
    have Hx1_7 := Lib.hid (Hx1_6.out.below hb)
    clear HW_6 Hx0_6 Hx1_6 B6 hb
    obtain ⟨px4, kx4, rfl, lx4, mx4⟩ := ho.shape
    have Hx4_7 := Lib.hid ho
    clear ho
    go_wp2_with fail
    refine (I.out _ _ _ _ Hx0_7.out.ints Hx1_7.out.ints Hx4_7.out.ints).mono ?_
    rintro e w8 ⟨u, rfl, ho, hb⟩
    have sz8 : w7.heap.size ≤ w8.heap.size := hb.size
    have B8 := Lib.hid (B7.out.trans (hb.mono B7.out.size))
    have HW_8 := Lib.hid (HW_7.out.below hb)
    have Hx0_8 := Lib.hid (Hx0_7.out.below hb)
    have Hx1_8 := Lib.hid (Hx1_7.out.below hb)
    have Hx4_8 := Lib.hid (Hx4_7.out.below hb)
    clear HW_7 Hx0_7 Hx1_7 Hx4_7 B7 hb
    obtain ⟨pG, kG, rfl, lG, mG⟩ := ho.shape
    have HG_8 := Lib.hid ho
    clear ho
    go_wp2_with fail
    refine (eqPartS_same _ _ cs _ HG_8.out.rd HW_8.out.rd).mono ?_
    rintro e w9 ⟨rfl, hb⟩
    have sz9 : w8.heap.size ≤ w9.heap.size := hb.size
    have B9 := Lib.hid (B8.out.trans (hb.mono B8.out.size))
    have HW_9 := Lib.hid (HW_8.out.below hb)
    have Hx0_9 := Lib.hid (Hx0_8.out.below hb)
    have Hx1_9 := Lib.hid (Hx1_8.out.below hb)
    have Hx4_9 := Lib.hid (Hx4_8.out.below hb)
    have HG_9 := Lib.hid (HG_8.out.below hb)
    clear HW_8 Hx0_8 Hx1_8 Hx4_8 HG_8 B8 hb
    go_wp2_with fail
    refine (toIntS_any _ xs0 _ (Hx0.out.below B9.out) Sm0.out).mono ?_
    rintro e w10 ⟨u, rfl, ho, hb⟩
    have sz10 : w9.heap.size ≤ w10.heap.size := hb.size
    have B10 := Lib.hid (B9.out.trans (hb.mono B9.out.size))
    have HW_10 := Lib.hid (HW_9.out.below hb)
    have Hx0_10 := Lib.hid (Hx0_9.out.below hb)
    have Hx1_10 := Lib.hid (Hx1_9.out.below hb)
    have Hx4_10 := Lib.hid (Hx4_9.out.below hb)
    have HG_10 := Lib.hid (HG_9.out.below hb)
    clear HW_9 Hx0_9 Hx1_9 Hx4_9 HG_9 B9 hb
    obtain ⟨pc0, kc0, rfl, lc0, mc0⟩ := ho.shape
    have Hc0_10 := Lib.hid ho
    clear ho
    go_wp2_with fail
    refine (eqIntS_same _ _ xs0 _ Hx0_10.out.ints Hc0_10.out.ints).mono ?_
    rintro e w11 ⟨rfl, hb⟩
    have sz11 : w10.heap.size ≤ w11.heap.size := hb.size
    have B11 := Lib.hid (B10.out.trans (hb.mono B10.out.size))
    have HW_11 := Lib.hid (HW_10.out.below hb)
    have Hx0_11 := Lib.hid (Hx0_10.out.below hb)
    have Hx1_11 := Lib.hid (Hx1_10.out.below hb)
    have Hx4_11 := Lib.hid (Hx4_10.out.below hb)
    have HG_11 := Lib.hid (HG_10.out.below hb)
    have Hc0_11 := Lib.hid (Hc0_10.out.below hb)
    clear HW_10 Hx0_10 Hx1_10 Hx4_10 HG_10 Hc0_10 B10 hb
    go_wp2_with fail
    refine (toIntS_any _ xs1 _ (Hx1.out.below B11.out) Sm1.out).mono ?_
    rintro e w12 ⟨u, rfl, ho, hb⟩
    have sz12 : w11.heap.size ≤ w12.heap.size := hb.size
    have B12 := Lib.hid (B11.out.trans (hb.mono B11.out.size))
    have HW_12 := Lib.hid (HW_11.out.below hb)
    have Hx0_12 := Lib.hid (Hx0_11.out.below hb)
    have Hx1_12 := Lib.hid (Hx1_11.out.below hb)
    have Hx4_12 := Lib.hid (Hx4_11.out.below hb)
    have HG_12 := Lib.hid (HG_11.out.below hb)
    clear HW_11 Hx0_11 Hx1_11 Hx4_11 HG_11 B11 hb
    obtain ⟨pc1, kc1, rfl, lc1, mc1⟩ := ho.shape
    have Hc1_12 := Lib.hid ho
    clear ho
    go_wp2_with fail
    refine (eqIntS_same _ _ xs1 _ Hx1_12.out.ints Hc1_12.out.ints).mono ?_
    rintro e w13 ⟨rfl, hb⟩
    have sz13 : w12.heap.size ≤ w13.heap.size := hb.size
    have B13 := Lib.hid (B12.out.trans (hb.mono B12.out.size))
    have HW_13 := Lib.hid (HW_12.out.below hb)
    have Hx0_13 := Lib.hid (Hx0_12.out.below hb)
    have Hx1_13 := Lib.hid (Hx1_12.out.below hb)
    have Hx4_13 := Lib.hid (Hx4_12.out.below hb)
    have HG_13 := Lib.hid (HG_12.out.below hb)
    have Hc1_13 := Lib.hid (Hc1_12.out.below hb)
    clear HW_12 Hx0_12 Hx1_12 Hx4_12 HG_12 Hc1_12 B12 hb
    go_wp2_with fail
    refine (toIntS_any _ xs4 _ (Hx4.out.below B13.out) Sm4.out).mono ?_
    rintro e w14 ⟨u, rfl, ho, hb⟩
    have sz14 : w13.heap.size ≤ w14.heap.size := hb.size
    have B14 := Lib.hid (B13.out.trans (hb.mono B13.out.size))
    have HW_14 := Lib.hid (HW_13.out.below hb)
    have Hx0_14 := Lib.hid (Hx0_13.out.below hb)
    have Hx1_14 := Lib.hid (Hx1_13.out.below hb)
    have Hx4_14 := Lib.hid (Hx4_13.out.below hb)
    have HG_14 := Lib.hid (HG_13.out.below hb)
    clear HW_13 Hx0_13 Hx1_13 Hx4_13 HG_13 B13 hb
    obtain ⟨pc4, kc4, rfl, lc4, mc4⟩ := ho.shape
    have Hc4_14 := Lib.hid ho
    clear ho
    go_wp2_with fail
    refine (eqIntS_same _ _ xs4 _ Hx4_14.out.ints Hc4_14.out.ints).mono ?_
    rintro e w15 ⟨rfl, hb⟩
    have sz15 : w14.heap.size ≤ w15.heap.size := hb.size
    have B15 := Lib.hid (B14.out.trans (hb.mono B14.out.size))
    have HW_15 := Lib.hid (HW_14.out.below hb)
    have Hx0_15 := Lib.hid (Hx0_14.out.below hb)
    have Hx1_15 := Lib.hid (Hx1_14.out.below hb)
    have Hx4_15 := Lib.hid (Hx4_14.out.below hb)
    have HG_15 := Lib.hid (HG_14.out.below hb)
    have Hc4_15 := Lib.hid (Hc4_14.out.below hb)
    clear HW_14 Hx0_14 Hx1_14 Hx4_14 HG_14 Hc4_14 B14 hb
    go_wp2_with fail
    refine (markIntS_any _ xs0 _ _ (1) _ Hx0_15.out (by omega) (by omega)).mono ?_
    rintro e w16 ⟨rfl, ho, hf⟩
    have sz16 : w15.heap.size ≤ w16.heap.size := hf.size
    have B16 := Lib.hid (B15.out.trans (hf.below (by omega) B15.out.size))
    have HW_16 := Lib.hid (HW_15.out.frm hf (by omega))
    have Hx1_16 := Lib.hid (Hx1_15.out.frm hf (by omega))
    have Hx4_16 := Lib.hid (Hx4_15.out.frm hf (by omega))
    have HG_16 := Lib.hid (HG_15.out.frm hf (by omega))
    have Hx0_16 := Lib.hid ho
    clear HW_15 Hx1_15 Hx4_15 HG_15 Hx0_15 B15 hf ho
    go_wp2_with fail
    refine (markIntS_any _ xs1 _ _ (1 + (xs0.length : Int)) _ Hx1_16.out (by omega) (by omega)).mono ?_
    rintro e w17 ⟨rfl, ho, hf⟩
    have sz17 : w16.heap.size ≤ w17.heap.size := hf.size
    have B17 := Lib.hid (B16.out.trans (hf.below (by omega) B16.out.size))
    have HW_17 := Lib.hid (HW_16.out.frm hf (by omega))
    have Hx0_17 := Lib.hid (Hx0_16.out.frm hf (by omega))
    have Hx4_17 := Lib.hid (Hx4_16.out.frm hf (by omega))
    have HG_17 := Lib.hid (HG_16.out.frm hf (by omega))
    have Hx1_17 := Lib.hid ho
    clear HW_16 Hx0_16 Hx4_16 HG_16 Hx1_16 B16 hf ho
    go_wp2_with fail
    refine (markIntS_any _ xs4 _ _ (1 + (xs0.length : Int) + (xs1.length : Int)) _ Hx4_17.out (by omega) (by omega)).mono ?_
    rintro e w18 ⟨rfl, ho, hf⟩
    have sz18 : w17.heap.size ≤ w18.heap.size := hf.size
    have B18 := Lib.hid (B17.out.trans (hf.below (by omega) B17.out.size))
    have HW_18 := Lib.hid (HW_17.out.frm hf (by omega))
    have Hx0_18 := Lib.hid (Hx0_17.out.frm hf (by omega))
    have Hx1_18 := Lib.hid (Hx1_17.out.frm hf (by omega))
    have HG_18 := Lib.hid (HG_17.out.frm hf (by omega))
    have Hx4_18 := Lib.hid ho
    clear HW_17 Hx0_17 Hx1_17 HG_17 Hx4_17 B17 hf ho
    have hk1 : ¬ (1 + (xs0.length : Int) + (xs1.length : Int) + (xs4.length : Int)) < 0 := by omega
    go_wp2_with fail
    refine (eqPartS_same _ _ cs _ HG_18.out.rd HW_18.out.rd).mono ?_
    rintro e w19 ⟨rfl, hb⟩
    have sz19 : w18.heap.size ≤ w19.heap.size := hb.size
    have B19 := Lib.hid (B18.out.trans (hb.mono B18.out.size))
    have HW_19 := Lib.hid (HW_18.out.below hb)
    have Hx0_19 := Lib.hid (Hx0_18.out.below hb)
    have Hx1_19 := Lib.hid (Hx1_18.out.below hb)
    have Hx4_19 := Lib.hid (Hx4_18.out.below hb)
    have HG_19 := Lib.hid (HG_18.out.below hb)
    clear HW_18 Hx0_18 Hx1_18 Hx4_18 HG_18 B18 hb
    go_wp2_with fail
    refine (markPartS_any _ cs _ _ 1 _ HG_19.out (by omega) (by omega)).mono ?_
    rintro e w20 ⟨rfl, ho, hf⟩
    have sz20 : w19.heap.size ≤ w20.heap.size := hf.size
    have B20 := Lib.hid (B19.out.trans (hf.below (by omega) B19.out.size))
    have HW_20 := Lib.hid (HW_19.out.frm hf (by omega))
    have HG_20 := Lib.hid ho
    clear HW_19 HG_19 B19 hf ho
    have hk2 : ¬ (1 : Int) + (preC cs cs.length : Int) < 0 := by omega
    go_wp2_with fail
    refine (heldPartS_runs _ cs 1 _ HG_20.out.rd (by omega) (by omega)).mono ?_
    rintro e w21 ⟨rfl, hb⟩
    have sz21 : w20.heap.size ≤ w21.heap.size := hb.size
    have B21 := Lib.hid (B20.out.trans (hb.mono B20.out.size))
    have HW_21 := Lib.hid (HW_20.out.below hb)
    have HG_21 := Lib.hid (HG_20.out.below hb)
    clear HW_20 HG_20 B20 hb
    go_wp2_with fail
    refine (toIntS_any _ xs0 _ (Hx0.out.below B21.out) Sm0.out).mono ?_
    rintro e w22 ⟨u, rfl, ho, hb⟩
    have sz22 : w21.heap.size ≤ w22.heap.size := hb.size
    have B22 := Lib.hid (B21.out.trans (hb.mono B21.out.size))
    have HW_22 := Lib.hid (HW_21.out.below hb)
    have HG_22 := Lib.hid (HG_21.out.below hb)
    clear HW_21 HG_21 B21 hb
    obtain ⟨pd0, kd0, rfl, ld0, md0⟩ := ho.shape
    have Hd0_22 := Lib.hid ho
    clear ho
    go_wp2_with fail
    refine (toIntS_any _ xs1 _ (Hx1.out.below B22.out) Sm1.out).mono ?_
    rintro e w23 ⟨u, rfl, ho, hb⟩
    have sz23 : w22.heap.size ≤ w23.heap.size := hb.size
    have B23 := Lib.hid (B22.out.trans (hb.mono B22.out.size))
    have HW_23 := Lib.hid (HW_22.out.below hb)
    have HG_23 := Lib.hid (HG_22.out.below hb)
    have Hd0_23 := Lib.hid (Hd0_22.out.below hb)
    clear HW_22 HG_22 Hd0_22 B22 hb
    obtain ⟨pd1, kd1, rfl, ld1, md1⟩ := ho.shape
    have Hd1_23 := Lib.hid ho
    clear ho
    go_wp2_with fail
    refine (toIntS_any _ xs4 _ (Hx4.out.below B23.out) Sm4.out).mono ?_
    rintro e w24 ⟨u, rfl, ho, hb⟩
    have sz24 : w23.heap.size ≤ w24.heap.size := hb.size
    have B24 := Lib.hid (B23.out.trans (hb.mono B23.out.size))
    have HW_24 := Lib.hid (HW_23.out.below hb)
    have HG_24 := Lib.hid (HG_23.out.below hb)
    have Hd0_24 := Lib.hid (Hd0_23.out.below hb)
    have Hd1_24 := Lib.hid (Hd1_23.out.below hb)
    clear HW_23 HG_23 Hd0_23 Hd1_23 B23 hb
    obtain ⟨pd4, kd4, rfl, ld4, md4⟩ := ho.shape
    have Hd4_24 := Lib.hid ho
    clear ho
    go_wp2_with fail
    refine (I.out _ _ _ _ Hd0_24.out.ints Hd1_24.out.ints Hd4_24.out.ints).mono ?_
    rintro e w25 ⟨u, rfl, ho, hb⟩
    have sz25 : w24.heap.size ≤ w25.heap.size := hb.size
    have B25 := Lib.hid (B24.out.trans (hb.mono B24.out.size))
    have HW_25 := Lib.hid (HW_24.out.below hb)
    have HG_25 := Lib.hid (HG_24.out.below hb)
    have Hd0_25 := Lib.hid (Hd0_24.out.below hb)
    have Hd1_25 := Lib.hid (Hd1_24.out.below hb)
    have Hd4_25 := Lib.hid (Hd4_24.out.below hb)
    clear HW_24 HG_24 Hd0_24 Hd1_24 Hd4_24 B24 hb
    obtain ⟨pK, kK, rfl, lK, mK⟩ := ho.shape
    have HK_25 := Lib.hid ho
    clear ho
    go_wp2_with fail
    refine (eqPartS_same _ _ cs _ HK_25.out.rd HW_25.out.rd).mono ?_
    rintro e w26 ⟨rfl, hb⟩
    have sz26 : w25.heap.size ≤ w26.heap.size := hb.size
    have B26 := Lib.hid (B25.out.trans (hb.mono B25.out.size))
    have HW_26 := Lib.hid (HW_25.out.below hb)
    have HG_26 := Lib.hid (HG_25.out.below hb)
    have HK_26 := Lib.hid (HK_25.out.below hb)
    clear HW_25 HG_25 HK_25 B25 hb
    go_wp2_with fail
    refine (heldPartS_runs _ cs 1 _ HG_26.out.rd (by omega) (by omega)).mono ?_
    rintro e w27 ⟨rfl, hb⟩
    have sz27 : w26.heap.size ≤ w27.heap.size := hb.size
    have B27 := Lib.hid (B26.out.trans (hb.mono B26.out.size))
    have HW_27 := Lib.hid (HW_26.out.below hb)
    have HG_27 := Lib.hid (HG_26.out.below hb)
    have HK_27 := Lib.hid (HK_26.out.below hb)
    clear HW_26 HG_26 HK_26 B26 hb
    go_wp2_with fail
    go_ret
    exact ⟨rfl, B27.out⟩

end Go.Proofs.YtlbflckoodjokaaGreat
