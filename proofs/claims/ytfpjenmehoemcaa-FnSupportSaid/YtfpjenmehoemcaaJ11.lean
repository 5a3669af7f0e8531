/-
  The law FnSupport, walked.
-/
import Derived.Test.YtfpjenmehoemcaaJ8
import Derived.Test.YtfpjenmehoemcaaJ9
import Derived.Test.YtfpjenmehoemcaaJ10
namespace Go.Proofs.Ytfpjenmehoemcaa
set_option linter.all false
open Go.RowKit

/-- the numbers ascend so far -/
def risK (ys : List Int) : Nat → Bool
  | 0 => true
  | i + 1 => risK ys i && (decide (i = 0) || decide (ys.getD (i - 1) 0 < ys.getD i 0))
theorem risK_lt {ys : List Int} {n : Nat} (h : risK ys n = true) : ∀ j, j < n → 0 < j → ys.getD (j - 1) 0 < ys.getD j 0 := by
  induction n with
  | zero => intro j hj; omega
  | succ n ih =>
    rw [risK, Bool.and_eq_true] at h
    intro j hj h0
    by_cases e : j = n
    · subst e
      have := h.2
      simpa [show j ≠ 0 by omega] using this
    · exact ih h.1 j (by omega) h0
theorem risK_all {ys : List Int} {n : Nat} (h : risK ys n = true) : RiseY n ys := by
  intro i j hij hj
  induction j with
  | zero => omega
  | succ j ih =>
    have a := risK_lt h (j + 1) hj (by omega)
    simp only [Nat.add_sub_cancel] at a
    by_cases e : i = j
    · subst e; exact a
    · have := ih (by omega) (by omega); omega
theorem loc_yes {n : Nat} {v w ys : List Int} (hv : P5 n v) (hw : P5 n w) (hy : ys.length = n) (h9 : ∀ x ∈ ys, -9 ≤ x ∧ x ≤ 9) (h1 : 1 ≤ n) : locL v w ys = (wrap64 (FW n ys v w), true) := by
  have : locOk v w ys = true := by
    unfold locOk nmOk
    rw [hv.ok, hw.ok, hv.len, hw.len, hy]
    have h5 := hv.le
    simp only [decide_true, Bool.true_and, Bool.and_self]
    rw [decide_eq_true (show (1 : Int) ≤ (n : Int) by omega), decide_eq_true (show (n : Int) ≤ 5 by omega), decide_eq_true h9]
    rfl
  rw [locL_yes this]
  unfold FW EV dblP
  rw [hv.len]
theorem pow_small {n : Nat} {w : List Int} (hw : P5 n w) (h4 : n ≤ 4) : (19 : Int) ^ lnN w ≤ 47045881 := by
  have a := (wrd_at hw).2.2.2
  have b : n * (n - 1) / 2 ≤ 6 := by
    have : n = 0 ∨ n = 1 ∨ n = 2 ∨ n = 3 ∨ n = 4 := by omega
    rcases this with rfl | rfl | rfl | rfl | rfl <;> decide
  have c : (19 : Nat) ^ lnN w ≤ 19 ^ 6 := Nat.pow_le_pow_right (by decide) (by omega)
  have d : ((19 : Int) ^ lnN w) = ((19 ^ lnN w : Nat) : Int) := by simp
  rw [d]
  have e : (19 : Nat) ^ 6 = 47045881 := by decide
  omega
theorem wrap_small {x : Int} (h1 : -1000000000 ≤ x) (h2 : x ≤ 1000000000) : wrap64 x = x := w64 (by omega) (by omega)
theorem ret_val {a b : Int} (h : a = b) : Value.int .i64 a = Value.int .i64 b := by rw [h]
/-- one factor more -/
theorem wrap_fac (a b P : Int) : wrap64 (wrap64 P * (a - b)) = wrap64 ((a - b) * P) := wrap_eq (by rw [Int.mul_comm (a - b)]; exact (wrap_cg P).mul (Cg.refl _))

set_option maxRecDepth 100000 in
set_option maxHeartbeats 16000000 in
theorem lawFnSupport (p : Option Addr) (l cap : Nat) (w : World) (hl : l ≤ maxLen) (h : Byts w (.slice p l cap) l) :
    Calls Try.prog 5 #[.slice p l cap] w fun e w' => e = .returned (.bool true) ∧ Below w.heap.size w w' := by
  have Hl := Lib.hid hl
  have Hh := Lib.hid h
  clear hl h
  go_enter Try.func5, Try.ntmps5
  go_wp2_with fail
  refine (big_any p l cap _ Hl.out).mono ?_
  rintro e w' ⟨rfl, rfl⟩
  by_cases hb : 1048576 < l
  · have e1 : decide (1048576 < l) = true := by simp [hb]
    rw [e1]
    go_wp2_with fail
    go_ret
    exact ⟨rfl, Below.refl _ _⟩
  have e1 : decide (1048576 < l) = false := by simp [hb]
  rw [e1]
  clear e1 hb
  go_wp2_with fail
  refine (DrawPairs_any _ l _ Hh.out).mono ?_
  rintro e w1 ⟨u1, u2, u3, vs, ws, ys, n, rfl, hi1, hi2, hi3, hv5, hw5, hyl, hyn, hy9, hn1, hn4, hb1⟩
  have HV := Lib.hid hi1
  have HW := Lib.hid hi2
  have HY := Lib.hid hi3
  have Hv := Lib.hid hv5
  have Hw := Lib.hid hw5
  have Hyl := Lib.hid hyl
  have Hy9 := Lib.hid hy9
  have HB1 := Lib.hid hb1
  obtain ⟨av, cv, rfl, ⟨hv1, hv2⟩, _⟩ := hi1
  obtain ⟨aw, cw, rfl, ⟨hw1, hw2⟩, hwc⟩ := hi2
  obtain ⟨ay, cy, rfl, ⟨hy1, hy2⟩, hyc⟩ := hi3
  unfold maxLen at hv2 hw2 hy2
  rw [hv5.len] at HV hv1 ⊢
  rw [hw5.len] at HW hw1 hwc ⊢
  rw [hyl] at HY hy1 hyc ⊢
  have S := sup_is hyl hy9 hn1 hn4 (lnN ws) ws vs rfl hv5 hw5
  have hp19 := pow_small hw5 hn4
  obtain ⟨A, hA⟩ : ∃ A, A = FW n ys vs ws := ⟨_, rfl⟩
  have hAr : -1000000000 ≤ A ∧ A ≤ 1000000000 := by have a := S.low; have b := S.high; rw [hA]; omega
  have hL1 : locL vs ws ys = (A, true) := by rw [loc_yes hv5 hw5 hyl hy9 hn1, ← hA, wrap_small hAr.1 hAr.2]
  obtain ⟨X, hX⟩ : ∃ X, X = wrap64 (prodP ys (invs ws)) := ⟨_, rfl⟩
  have hL2 : locL ws ws ys = (X, true) := by rw [loc_yes hw5 hw5 hyl hy9 hn1, FW_self hw5 hyl, hX]
  obtain ⟨bl, hbl⟩ : ∃ bl, bl = blwB vs ws := ⟨_, rfl⟩
  have hzero : bl = false → A = 0 := fun h => by rw [hA]; exact S.zero (by rw [← hbl]; exact h)
  have hsign : RiseY n ys → 0 ≤ A ∧ (0 < A ↔ bl = true) := fun h => by rw [hA, hbl]; exact S.sign h
  have HL1 := Lib.hid hL1
  have HL2 := Lib.hid hL2
  have HX := Lib.hid hX
  have Hbl := Lib.hid hbl
  have Hzero := Lib.hid hzero
  have Hsign := Lib.hid hsign
  have Hwc := Lib.hid hwc
  have Hyc := Lib.hid hyc
  clear hv5 hw5 hyl hyn hy9 hb1 S hp19 hA hAr hL1 hL2 hX hbl hzero hsign hwc hyc
  go_wp2_with fail
  refine (implLocalize_any _ _ _ vs ws ys _ HV.out HW.out HY.out).mono ?_
  rintro e w2 ⟨rfl, hb2⟩
  rw [HL1.out]
  dsimp only
  have HB2 := Lib.hid hb2
  clear hb2
  go_wp2_with fail
  refine (implLocalize_any _ _ _ ws ws ys _ (HW.out.below HB2.out) (HW.out.below HB2.out) (HY.out.below HB2.out)).mono ?_
  rintro e w3 ⟨rfl, hb3⟩
  rw [HL2.out]
  dsimp only
  have HB3 := Lib.hid (below_trans HB2.out hb3)
  clear hb3
  go_wp2_with fail
  refine (implBelow_any n _ _ vs ws _ Hv.out Hw.out hn1 (HV.out.below HB3.out) (HW.out.below HB3.out)).mono ?_
  rintro e w4 ⟨rfl, hb4⟩
  rw [← Hbl.out]
  have HB4 := Lib.hid (below_trans HB3.out hb4)
  clear hb4
  cases bl with
  | false =>
    obtain rfl : A = 0 := Hzero.out rfl
    clear Hzero
    go_wp2_with fail
    go_loopg [10, 11, 12] n (fun g s10 s11 s12 wr => ∃ i : Nat, i ≤ n ∧ g = n - i ∧ s12 = .int .i64 (i : Int) ∧ s10 = .int .i64 (wrap64 (prodP ys (ivI ws i))) ∧ s11 = .bool (risK ys i) ∧ Qt w4 wr)
    case atStart => exact ⟨0, Nat.zero_le _, rfl, rfl, ret_val (by show (1 : Int) = wrap64 1; decide +kernel), rfl, Qt.refl _⟩
    case round =>
      obtain ⟨i, hi, rfl, rfl, rfl, rfl, hq⟩ := hrel
      obtain ⟨wx, rfl⟩ : ∃ x : World, x = wr := ⟨_, rfl⟩
      obtain ⟨x, hx⟩ : ∃ x, x = wrap64 (prodP ys (ivI ws i)) := ⟨_, rfl⟩
      have Hx := Lib.hid hx
      rw [← hx]
      clear hx
      have HQ := Lib.hid hq
      clear hq
      by_cases hin : i < n
      · have hini : (i : Int) < (n : Int) := by omega
        obtain ⟨bw, ow, rfl, hwc⟩ := Hwc.out (by omega)
        obtain ⟨by', oy, rfl, hyc⟩ := Hyc.out (by omega)
        have Hwd := Lib.hid fun j hj => HQ.out.cell (cell_below HB4.out (hwc j hj))
        have Hyd := Lib.hid fun j hj => HQ.out.cell (cell_below HB4.out (hyc j hj))
        clear hwc hyc
        have Hstep := Lib.hid (show risK ys (i + 1) = (risK ys i && (decide (i = 0) || decide (ys.getD (i - 1) 0 < ys.getD i 0))) from rfl)
        obtain ⟨rb, hrb⟩ : ∃ rb, rb = risK ys i := ⟨_, rfl⟩
        have Hrb := Lib.hid hrb
        rw [← hrb]
        clear hrb
        go_wp2_with fail
        go_cut [11] (fun s11 wc => s11 = .bool (risK ys (i + 1)) ∧ Qt wx wc)
        case first =>
          cases rb with
          | false =>
            go_quiet (fail)
            go_wp2_with fail
            go_meet
            exact ⟨by rw [Hstep.out, ← Hrb.out]; rfl, (Qt.refl _).drewN nq⟩
          | true =>
            by_cases hi0 : i = 0
            · subst hi0
              go_quiet (fail)
              go_wp2_with fail
              go_meet
              exact ⟨by rw [Hstep.out, ← Hrb.out]; rfl, (Qt.refl _).drewN nq⟩
            · obtain ⟨t, rfl⟩ : ∃ t, i = t + 1 := ⟨i - 1, by omega⟩
              have c1 := Hyd.out t (by omega)
              have c2 := Hyd.out (t + 1) (by omega)
              unfold iv at c1 c2
              obtain ⟨y1, hy1⟩ : ∃ y, y = ys.getD t 0 := ⟨_, rfl⟩
              obtain ⟨y2, hy2⟩ : ∃ y, y = ys.getD (t + 1) 0 := ⟨_, rfl⟩
              rw [← hy1] at c1
              rw [← hy2] at c2
              have Hy1 := Lib.hid hy1
              have Hy2 := Lib.hid hy2
              have hti : (t : Int) < (n : Int) := by omega
              have ht1 : ((t + 1 : Nat) : Int) - 1 = (t : Int) := by omega
              have ht0 : decide (((t + 1 : Nat) : Int) = 0) = false := by simp; omega
              have ht2 : ¬ ((t : Int) + 1 = 0) := by omega
              have hT0 : (0 : Int) ≤ (t : Int) + 1 := by omega
              have hT1 : ((t : Int) + 1).toNat = t + 1 := by omega
              have hT2 : (t : Int) + 1 < (n : Int) := by omega
              have hwt : IntKind.i64.wrap (t : Int) = (t : Int) := k64 (by omega) (by omega)
              clear hy1 hy2
              have hfin : ∀ b, b = decide (y1 < y2) → risK ys (t + 1 + 1) = b := fun b hb => by
                rw [Hstep.out, ← Hrb.out, hb, Hy1.out, Hy2.out]; simp
              by_cases h12 : y1 < y2
              · have hd : decide (y1 < y2) = true := decide_eq_true h12
                have Hf := Lib.hid (hfin true hd.symm)
                clear hfin
                go_quiet (fail)
                go_wp2_with fail
                go_meet
                exact ⟨by rw [Hf.out], (Qt.refl _).drewN nq⟩
              · have hd : decide (y1 < y2) = false := decide_eq_false h12
                have Hf := Lib.hid (hfin false hd.symm)
                clear hfin
                go_quiet (fail)
                go_wp2_with fail
                go_meet
                exact ⟨by rw [Hf.out, show ((t : Int) + 1 == 0) = false from by rw [beq_eq_false_iff_ne]; omega], (Qt.refl _).drewN nq⟩
        case rest =>
          obtain ⟨rfl, hqc⟩ := hcut
          obtain ⟨wy, rfl⟩ : ∃ x : World, x = wc := ⟨_, rfl⟩
          have Hqc := Lib.hid hqc
          clear hqc
          obtain ⟨rb2, hrb2⟩ : ∃ rb, rb = risK ys (i + 1) := ⟨_, rfl⟩
          have Hrb2 := Lib.hid hrb2
          rw [← hrb2]
          clear hrb2
          go_wp2_with fail
          go_loopg [10, 13] (n - (i + 1)) (fun g s10 s13 wr => ∃ m : Nat, m ≤ n - (i + 1) ∧ g = n - (i + 1) - m ∧ s13 = .int .i64 ((i : Int) + 1 + (m : Int)) ∧ s10 = .int .i64 (wrap64 (prodP ys (ivJ ws i m ++ ivI ws i))) ∧ Qt wy wr)
          case atStart => exact ⟨0, Nat.zero_le _, rfl, by go_num, by rw [Hx.out]; rfl, Qt.refl _⟩
          case round =>
            obtain ⟨m, hm, rfl, rfl, rfl, hqm⟩ := hrel
            obtain ⟨wz, rfl⟩ : ∃ x : World, x = wr := ⟨_, rfl⟩
            obtain ⟨z, hz⟩ : ∃ z, z = wrap64 (prodP ys (ivJ ws i m ++ ivI ws i)) := ⟨_, rfl⟩
            have Hz := Lib.hid hz
            rw [← hz]
            clear hz
            have Hqm := Lib.hid hqm
            clear hqm
            by_cases hmn : m < n - (i + 1)
            · have hji : (i : Int) + 1 + (m : Int) < (n : Int) := by omega
              have hj0 : (0 : Int) ≤ (i : Int) + 1 + (m : Int) := by omega
              have hjn : ((i : Int) + 1 + (m : Int)).toNat = i + 1 + m := by omega
              obtain ⟨a, ha, han⟩ := Hw.out.rng hin
              obtain ⟨b, hb, hbn⟩ := Hw.out.rng (show i + 1 + m < n by omega)
              have c1 := Hqm.out.cell (Hqc.out.cell (Hwd.out i hin))
              have c2 := Hqm.out.cell (Hqc.out.cell (Hwd.out (i + 1 + m) (by omega)))
              unfold iv at c1 c2
              rw [ha] at c1
              rw [hb] at c2
              have d1 := Hqm.out.cell (Hqc.out.cell (Hyd.out a han))
              have d2 := Hqm.out.cell (Hqc.out.cell (Hyd.out b hbn))
              unfold iv at d1 d2
              obtain ⟨y1, hy1⟩ : ∃ y, y = ys.getD a 0 := ⟨_, rfl⟩
              obtain ⟨y2, hy2⟩ : ∃ y, y = ys.getD b 0 := ⟨_, rfl⟩
              have r1 := y_rng Hy9.out a
              have r2 := y_rng Hy9.out b
              rw [← hy1] at d1 r1
              rw [← hy2] at d2 r2
              have Hy1 := Lib.hid hy1
              have Hy2 := Lib.hid hy2
              have Ha := Lib.hid ha
              have Hb' := Lib.hid hb
              have hai : (a : Int) < (n : Int) := by omega
              have hbi : (b : Int) < (n : Int) := by omega
              clear ha hb hy1 hy2
              by_cases hab : b < a
              · have habi : (b : Int) < (a : Int) := by omega
                go_wp2_with fail
                go_quiet (fail)
                have Hq1 := Lib.hid (Hqm.out.drewN nq)
                have c1' := (Qt.refl wz).drewN nq |>.cell c1
                have c2' := (Qt.refl wz).drewN nq |>.cell c2
                have d1' := (Qt.refl wz).drewN nq |>.cell d1
                have d2' := (Qt.refl wz).drewN nq |>.cell d2
                clear c1 c2 d1 d2
                generalize wz.drewN nq = wu at *
                have hwv : IntKind.i64.wrap (y1 - y2) = y1 - y2 := k64 (by omega) (by omega)
                go_wp2_with fail
                go_quiet (fail)
                have Hq2 := Lib.hid (Hq1.out.drewN nq)
                clear hwv
                go_wp2_with fail
                go_roundg (n - (i + 1) - (m + 1))
                case measure => omega
                case rel =>
                  refine ⟨m + 1, by omega, rfl, by go_num, ?_, Hq2.out⟩
                  rw [ivJ, if_pos (by rw [Ha.out, Hb'.out]; omega), Ha.out, Hb'.out, List.cons_append, prodP]
                  dsimp only
                  rw [Int.toNat_natCast, Int.toNat_natCast, ← Hy1.out, ← Hy2.out, ← wrap_fac, ← Hz.out]
              · have habi : ¬ (b : Int) < (a : Int) := by omega
                go_wp2_with fail
                go_quiet (fail)
                have Hq1 := Lib.hid (Hqm.out.drewN nq)
                go_wp2_with fail
                go_roundg (n - (i + 1) - (m + 1))
                case measure => omega
                case rel =>
                  refine ⟨m + 1, by omega, rfl, by go_num, ?_, Hq1.out⟩
                  rw [ivJ, if_neg (by rw [Ha.out, Hb'.out]; omega), Hz.out]
            · have hji : ¬ (i : Int) + 1 + (m : Int) < (n : Int) := by omega
              have hme : m = n - (i + 1) := by omega
              go_wp2_with fail
              go_roundg (n - (i + 1))
              case measure => omega
              case rel =>
                refine ⟨i + 1, by omega, rfl, by go_num, ?_, by rw [Hrb2.out], (HQ.out.trans Hqc.out).trans Hqm.out⟩
                rw [Hz.out, hme, ivI, Hw.out.len]
      · have hini : ¬ (i : Int) < (n : Int) := by omega
        have hie : n = i := by omega
        subst hie
        have hxX : X = x := by rw [HX.out, Hx.out, prodP_perm ys (iv_at Hw.out)]
        subst hxX
        have HBq := Lib.hid (HB4.out.trans ((HQ.out.below _).mono HB4.out.size))
        have HBf := Lib.hid (HB1.out.trans (HBq.out.mono HB1.out.size))
        cases hr : risK ys n with
        | false =>
          clear hr
          go_wp2_with fail
          go_ret
          exact ⟨rfl, HBf.out⟩
        | true =>
          have hs := Hsign.out (risK_all hr)
          clear hr
          clear hs
          go_wp2_with fail
          refine (implBelow_any n _ _ vs ws _ Hv.out Hw.out hn1 (HV.out.below HBq.out) (HW.out.below HBq.out)).mono ?_
          rintro e w5 ⟨rfl, hb5⟩
          rw [← Hbl.out]
          have HB5 := Lib.hid (HBf.out.trans (hb5.mono HBf.out.size))
          clear hb5
          go_wp2_with fail
          go_ret
          exact ⟨rfl, HB5.out⟩
  | true =>
    clear Hzero
    go_wp2_with fail
    go_loopg [10, 11, 12] n (fun g s10 s11 s12 wr => ∃ i : Nat, i ≤ n ∧ g = n - i ∧ s12 = .int .i64 (i : Int) ∧ s10 = .int .i64 (wrap64 (prodP ys (ivI ws i))) ∧ s11 = .bool (risK ys i) ∧ Qt w4 wr)
    case atStart => exact ⟨0, Nat.zero_le _, rfl, rfl, ret_val (by show (1 : Int) = wrap64 1; decide +kernel), rfl, Qt.refl _⟩
    case round =>
      obtain ⟨i, hi, rfl, rfl, rfl, rfl, hq⟩ := hrel
      obtain ⟨wx, rfl⟩ : ∃ x : World, x = wr := ⟨_, rfl⟩
      obtain ⟨x, hx⟩ : ∃ x, x = wrap64 (prodP ys (ivI ws i)) := ⟨_, rfl⟩
      have Hx := Lib.hid hx
      rw [← hx]
      clear hx
      have HQ := Lib.hid hq
      clear hq
      by_cases hin : i < n
      · have hini : (i : Int) < (n : Int) := by omega
        obtain ⟨bw, ow, rfl, hwc⟩ := Hwc.out (by omega)
        obtain ⟨by', oy, rfl, hyc⟩ := Hyc.out (by omega)
        have Hwd := Lib.hid fun j hj => HQ.out.cell (cell_below HB4.out (hwc j hj))
        have Hyd := Lib.hid fun j hj => HQ.out.cell (cell_below HB4.out (hyc j hj))
        clear hwc hyc
        have Hstep := Lib.hid (show risK ys (i + 1) = (risK ys i && (decide (i = 0) || decide (ys.getD (i - 1) 0 < ys.getD i 0))) from rfl)
        obtain ⟨rb, hrb⟩ : ∃ rb, rb = risK ys i := ⟨_, rfl⟩
        have Hrb := Lib.hid hrb
        rw [← hrb]
        clear hrb
        go_wp2_with fail
        go_cut [11] (fun s11 wc => s11 = .bool (risK ys (i + 1)) ∧ Qt wx wc)
        case first =>
          cases rb with
          | false =>
            go_quiet (fail)
            go_wp2_with fail
            go_meet
            exact ⟨by rw [Hstep.out, ← Hrb.out]; rfl, (Qt.refl _).drewN nq⟩
          | true =>
            by_cases hi0 : i = 0
            · subst hi0
              go_quiet (fail)
              go_wp2_with fail
              go_meet
              exact ⟨by rw [Hstep.out, ← Hrb.out]; rfl, (Qt.refl _).drewN nq⟩
            · obtain ⟨t, rfl⟩ : ∃ t, i = t + 1 := ⟨i - 1, by omega⟩
              have c1 := Hyd.out t (by omega)
              have c2 := Hyd.out (t + 1) (by omega)
              unfold iv at c1 c2
              obtain ⟨y1, hy1⟩ : ∃ y, y = ys.getD t 0 := ⟨_, rfl⟩
              obtain ⟨y2, hy2⟩ : ∃ y, y = ys.getD (t + 1) 0 := ⟨_, rfl⟩
              rw [← hy1] at c1
              rw [← hy2] at c2
              have Hy1 := Lib.hid hy1
              have Hy2 := Lib.hid hy2
              have hti : (t : Int) < (n : Int) := by omega
              have ht1 : ((t + 1 : Nat) : Int) - 1 = (t : Int) := by omega
              have ht0 : decide (((t + 1 : Nat) : Int) = 0) = false := by simp; omega
              have ht2 : ¬ ((t : Int) + 1 = 0) := by omega
              have hT0 : (0 : Int) ≤ (t : Int) + 1 := by omega
              have hT1 : ((t : Int) + 1).toNat = t + 1 := by omega
              have hT2 : (t : Int) + 1 < (n : Int) := by omega
              have hwt : IntKind.i64.wrap (t : Int) = (t : Int) := k64 (by omega) (by omega)
              clear hy1 hy2
              have hfin : ∀ b, b = decide (y1 < y2) → risK ys (t + 1 + 1) = b := fun b hb => by
                rw [Hstep.out, ← Hrb.out, hb, Hy1.out, Hy2.out]; simp
              by_cases h12 : y1 < y2
              · have hd : decide (y1 < y2) = true := decide_eq_true h12
                have Hf := Lib.hid (hfin true hd.symm)
                clear hfin
                go_quiet (fail)
                go_wp2_with fail
                go_meet
                exact ⟨by rw [Hf.out], (Qt.refl _).drewN nq⟩
              · have hd : decide (y1 < y2) = false := decide_eq_false h12
                have Hf := Lib.hid (hfin false hd.symm)
                clear hfin
                go_quiet (fail)
                go_wp2_with fail
                go_meet
                exact ⟨by rw [Hf.out, show ((t : Int) + 1 == 0) = false from by rw [beq_eq_false_iff_ne]; omega], (Qt.refl _).drewN nq⟩
        case rest =>
          obtain ⟨rfl, hqc⟩ := hcut
          obtain ⟨wy, rfl⟩ : ∃ x : World, x = wc := ⟨_, rfl⟩
          have Hqc := Lib.hid hqc
          clear hqc
          obtain ⟨rb2, hrb2⟩ : ∃ rb, rb = risK ys (i + 1) := ⟨_, rfl⟩
          have Hrb2 := Lib.hid hrb2
          rw [← hrb2]
          clear hrb2
          go_wp2_with fail
          go_loopg [10, 13] (n - (i + 1)) (fun g s10 s13 wr => ∃ m : Nat, m ≤ n - (i + 1) ∧ g = n - (i + 1) - m ∧ s13 = .int .i64 ((i : Int) + 1 + (m : Int)) ∧ s10 = .int .i64 (wrap64 (prodP ys (ivJ ws i m ++ ivI ws i))) ∧ Qt wy wr)
          case atStart => exact ⟨0, Nat.zero_le _, rfl, by go_num, by rw [Hx.out]; rfl, Qt.refl _⟩
          case round =>
            obtain ⟨m, hm, rfl, rfl, rfl, hqm⟩ := hrel
            obtain ⟨wz, rfl⟩ : ∃ x : World, x = wr := ⟨_, rfl⟩
            obtain ⟨z, hz⟩ : ∃ z, z = wrap64 (prodP ys (ivJ ws i m ++ ivI ws i)) := ⟨_, rfl⟩
            have Hz := Lib.hid hz
            rw [← hz]
            clear hz
            have Hqm := Lib.hid hqm
            clear hqm
            by_cases hmn : m < n - (i + 1)
            · have hji : (i : Int) + 1 + (m : Int) < (n : Int) := by omega
              have hj0 : (0 : Int) ≤ (i : Int) + 1 + (m : Int) := by omega
              have hjn : ((i : Int) + 1 + (m : Int)).toNat = i + 1 + m := by omega
              obtain ⟨a, ha, han⟩ := Hw.out.rng hin
              obtain ⟨b, hb, hbn⟩ := Hw.out.rng (show i + 1 + m < n by omega)
              have c1 := Hqm.out.cell (Hqc.out.cell (Hwd.out i hin))
              have c2 := Hqm.out.cell (Hqc.out.cell (Hwd.out (i + 1 + m) (by omega)))
              unfold iv at c1 c2
              rw [ha] at c1
              rw [hb] at c2
              have d1 := Hqm.out.cell (Hqc.out.cell (Hyd.out a han))
              have d2 := Hqm.out.cell (Hqc.out.cell (Hyd.out b hbn))
              unfold iv at d1 d2
              obtain ⟨y1, hy1⟩ : ∃ y, y = ys.getD a 0 := ⟨_, rfl⟩
              obtain ⟨y2, hy2⟩ : ∃ y, y = ys.getD b 0 := ⟨_, rfl⟩
              have r1 := y_rng Hy9.out a
              have r2 := y_rng Hy9.out b
              rw [← hy1] at d1 r1
              rw [← hy2] at d2 r2
              have Hy1 := Lib.hid hy1
              have Hy2 := Lib.hid hy2
              have Ha := Lib.hid ha
              have Hb' := Lib.hid hb
              have hai : (a : Int) < (n : Int) := by omega
              have hbi : (b : Int) < (n : Int) := by omega
              clear ha hb hy1 hy2
              by_cases hab : b < a
              · have habi : (b : Int) < (a : Int) := by omega
                go_wp2_with fail
                go_quiet (fail)
                have Hq1 := Lib.hid (Hqm.out.drewN nq)
                have c1' := (Qt.refl wz).drewN nq |>.cell c1
                have c2' := (Qt.refl wz).drewN nq |>.cell c2
                have d1' := (Qt.refl wz).drewN nq |>.cell d1
                have d2' := (Qt.refl wz).drewN nq |>.cell d2
                clear c1 c2 d1 d2
                generalize wz.drewN nq = wu at *
                have hwv : IntKind.i64.wrap (y1 - y2) = y1 - y2 := k64 (by omega) (by omega)
                go_wp2_with fail
                go_quiet (fail)
                have Hq2 := Lib.hid (Hq1.out.drewN nq)
                clear hwv
                go_wp2_with fail
                go_roundg (n - (i + 1) - (m + 1))
                case measure => omega
                case rel =>
                  refine ⟨m + 1, by omega, rfl, by go_num, ?_, Hq2.out⟩
                  rw [ivJ, if_pos (by rw [Ha.out, Hb'.out]; omega), Ha.out, Hb'.out, List.cons_append, prodP]
                  dsimp only
                  rw [Int.toNat_natCast, Int.toNat_natCast, ← Hy1.out, ← Hy2.out, ← wrap_fac, ← Hz.out]
              · have habi : ¬ (b : Int) < (a : Int) := by omega
                go_wp2_with fail
                go_quiet (fail)
                have Hq1 := Lib.hid (Hqm.out.drewN nq)
                go_wp2_with fail
                go_roundg (n - (i + 1) - (m + 1))
                case measure => omega
                case rel =>
                  refine ⟨m + 1, by omega, rfl, by go_num, ?_, Hq1.out⟩
                  rw [ivJ, if_neg (by rw [Ha.out, Hb'.out]; omega), Hz.out]
            · have hji : ¬ (i : Int) + 1 + (m : Int) < (n : Int) := by omega
              have hme : m = n - (i + 1) := by omega
              go_wp2_with fail
              go_roundg (n - (i + 1))
              case measure => omega
              case rel =>
                refine ⟨i + 1, by omega, rfl, by go_num, ?_, by rw [Hrb2.out], (HQ.out.trans Hqc.out).trans Hqm.out⟩
                rw [Hz.out, hme, ivI, Hw.out.len]
      · have hini : ¬ (i : Int) < (n : Int) := by omega
        have hie : n = i := by omega
        subst hie
        have hxX : X = x := by rw [HX.out, Hx.out, prodP_perm ys (iv_at Hw.out)]
        subst hxX
        have HBq := Lib.hid (HB4.out.trans ((HQ.out.below _).mono HB4.out.size))
        have HBf := Lib.hid (HB1.out.trans (HBq.out.mono HB1.out.size))
        cases hr : risK ys n with
        | false =>
          clear hr
          go_wp2_with fail
          go_ret
          exact ⟨rfl, HBf.out⟩
        | true =>
          have hs := Hsign.out (risK_all hr)
          clear hr
          have hA0 : 0 < A := by have := hs.2; simpa using this
          have hA1 : 0 ≤ A := hs.1
          clear hs
          go_wp2_with fail
          refine (implBelow_any n _ _ vs ws _ Hv.out Hw.out hn1 (HV.out.below HBq.out) (HW.out.below HBq.out)).mono ?_
          rintro e w5 ⟨rfl, hb5⟩
          rw [← Hbl.out]
          have HB5 := Lib.hid (HBf.out.trans (hb5.mono HBf.out.size))
          clear hb5
          go_wp2_with fail
          go_ret
          exact ⟨rfl, HB5.out⟩

end Go.Proofs.Ytfpjenmehoemcaa
