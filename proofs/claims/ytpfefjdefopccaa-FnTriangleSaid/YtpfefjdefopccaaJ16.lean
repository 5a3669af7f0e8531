/-
  impl.IsBelowPerm.
  The law FnTriangle, walked.
-/
import Derived.Test.YtpfefjdefopccaaJ12
import Derived.Test.YtpfefjdefopccaaJ14
import Derived.Test.YtpfefjdefopccaaJ15
namespace Go.Proofs.Ytpfefjdefopccaa
set_option linter.all false
open Go.RowKit

theorem blw_no {v w : List Int} {n r c : Nat} (hv : v.length = n) (hr : r ≤ n) (hc : c ≤ n) (h : rkL v (c : Int) r < rkL w (c : Int) r) : blwB v w = false := by
  cases e : blwB v w with
  | false => rfl
  | true =>
    simp only [blwB, List.all_eq_true, List.mem_range, decide_eq_true_eq] at e
    have := e r (by omega) c (by omega)
    omega
theorem blw_yes {v w : List Int} {n : Nat} (hv : v.length = n) (h : ∀ r c, r ≤ n → c ≤ n → rkL w (c : Int) r ≤ rkL v (c : Int) r) : blwB v w = true := by
  simp only [blwB, List.all_eq_true, List.mem_range, decide_eq_true_eq]
  exact fun r hr c hc => h r c (by omega) (by omega)

set_option maxRecDepth 100000 in
set_option maxHeartbeats 4000000 in
theorem implBelow_any (n : Nat) (pv pw : Value) (vs ws : List Int) (w : World) (hv : P5 n vs) (hw : P5 n ws) (h1 : 1 ≤ n) (iv' : Ints w pv vs) (iw : Ints w pw ws) :
    Calls Try.prog 10 #[pv, pw] w fun e w' => e = .returned (.bool (blwB vs ws)) ∧ Below w.heap.size w w' := by
  have HV := Lib.hid iv'
  have HW := Lib.hid iw
  have Hv := Lib.hid hv
  have Hw := Lib.hid hw
  have h5 := hv.le
  obtain ⟨av, cv, rfl, ⟨hv1, hv2⟩, _⟩ := iv'
  obtain ⟨aw, cw, rfl, ⟨hw1, hw2⟩, _⟩ := iw
  unfold maxLen at hv2 hw2
  rw [hv.len] at HV hv1 ⊢
  rw [hw.len] at HW hw1 ⊢
  clear hv hw
  go_enter Try.func10, Try.ntmps10
  go_wp2_with fail
  refine (implIsPerm_b _ vs true Hv.out.ok _ HV.out).mono ?_
  rintro e w1 ⟨rfl, hb1⟩
  have HB1 := Lib.hid hb1
  clear hb1
  go_wp2_with fail
  refine (implIsPerm_b _ ws true Hw.out.ok _ (HW.out.below HB1.out)).mono ?_
  rintro e w2 ⟨rfl, hb2⟩
  have HB2 := Lib.hid (below_trans HB1.out hb2)
  clear hb2
  go_wp2_with fail
  go_loopg [5, 6, 25] (n + 1) (fun g s5 s6 s25 wr => ∃ r : Nat, r ≤ n + 1 ∧ g = n + 1 - r ∧ s25 = .int .i64 (r : Int) ∧ Hid (∀ r' c, r' < r → c ≤ n → rkL ws (c : Int) r' ≤ rkL vs (c : Int) r') ∧ Hid (Below w.heap.size w wr))
  case atStart => exact ⟨0, Nat.zero_le _, rfl, rfl, Lib.hid fun r' c h _ => absurd h (Nat.not_lt_zero _), HB2⟩
  case round =>
    obtain ⟨r, hr, rfl, rfl, hp, hb⟩ := hrel
    obtain ⟨wx, rfl⟩ : ∃ x : World, x = wr := ⟨_, rfl⟩
    have Hp := Lib.hid hp.out
    have Hb := Lib.hid hb.out
    clear hp hb
    by_cases hrn : r < n + 1
    · have hri : (r : Int) < (n : Int) + 1 := by omega
      go_wp2_with fail
      go_loopg [6, 31] (n + 1) (fun g s6 s31 wr => ∃ c : Nat, c ≤ n + 1 ∧ g = n + 1 - c ∧ s31 = .int .i64 (c : Int) ∧ Hid (∀ c', c' < c → rkL ws (c' : Int) r ≤ rkL vs (c' : Int) r) ∧ Hid (Below w.heap.size w wr))
      case atStart => exact ⟨0, Nat.zero_le _, rfl, rfl, Lib.hid fun c h => absurd h (Nat.not_lt_zero _), Hb⟩
      case round =>
        obtain ⟨c, hc, rfl, rfl, hp, hb⟩ := hrel
        obtain ⟨wy, rfl⟩ : ∃ x : World, x = wr := ⟨_, rfl⟩
        have Hq := Lib.hid hp.out
        have Hb1 := Lib.hid hb.out
        clear hp hb
        by_cases hcn : c < n + 1
        · have hci : (c : Int) < (n : Int) + 1 := by omega
          obtain ⟨a, ha⟩ : ∃ a, a = rkL vs (c : Int) r := ⟨_, rfl⟩
          obtain ⟨b, hb⟩ : ∃ b, b = rkL ws (c : Int) r := ⟨_, rfl⟩
          have Ha := Lib.hid ha
          have Hbb := Lib.hid hb
          clear ha hb
          go_wp2_with fail
          refine (implRankAt_any _ vs r c _ (HV.out.below Hb1.out) Hv.out.ok (by rw [Hv.out.len]; omega) (by rw [Hv.out.len]; omega) (by rw [Hv.out.len]; omega) (by rw [Hv.out.len]; omega)).mono ?_
          rintro e w3 ⟨rfl, hb3⟩
          rw [← Ha.out]
          have Hb3 := Lib.hid (Hb1.out.trans (hb3.mono Hb1.out.size))
          clear hb3
          go_wp2_with fail
          refine (implRankAt_any _ ws r c _ (HW.out.below Hb3.out) Hw.out.ok (by rw [Hw.out.len]; omega) (by rw [Hw.out.len]; omega) (by rw [Hw.out.len]; omega) (by rw [Hw.out.len]; omega)).mono ?_
          rintro e w4 ⟨rfl, hb4⟩
          rw [← Hbb.out]
          have Hb4 := Lib.hid (Hb3.out.trans (hb4.mono Hb3.out.size))
          clear hb4
          by_cases hab : a < b
          · have habi : (a : Int) < (b : Int) := by omega
            go_wp2_with fail
            go_ret
            exact ⟨ret_bool (blw_no Hv.out.len (show r ≤ n by omega) (show c ≤ n by omega) (by rw [← Ha.out, ← Hbb.out]; exact hab)).symm, Hb4.out⟩
          · have habi : ¬ (a : Int) < (b : Int) := by omega
            go_wp2_with fail
            go_roundg (n + 1 - (c + 1))
            case measure => omega
            case rel =>
              refine ⟨c + 1, by omega, rfl, by go_num, Lib.hid fun c' h => ?_, Hb4⟩
              by_cases e : c' = c
              · rw [e, ← Ha.out, ← Hbb.out]; omega
              · exact Hq.out c' (by omega)
        · have hci : ¬ (c : Int) < (n : Int) + 1 := by omega
          go_wp2_with fail
          go_roundg (n + 1 - (r + 1))
          case measure => omega
          case rel =>
            refine ⟨r + 1, by omega, rfl, by go_num, Lib.hid fun r' c' h hc' => ?_, Hb1⟩
            by_cases e : r' = r
            · rw [e]; exact Hq.out c' (by omega)
            · exact Hp.out r' c' (by omega) hc'
    · have hri : ¬ (r : Int) < (n : Int) + 1 := by omega
      go_wp2_with fail
      go_ret
      exact ⟨ret_bool (blw_yes Hv.out.len fun r' c' h hc' => Hp.out r' c' (by omega) hc').symm, Hb.out⟩

end Go.Proofs.Ytpfefjdefopccaa

namespace Go.Proofs.Ytpfefjdefopccaa
set_option linter.all false
open Go.RowKit

theorem boxes4c (w w' : World) (A B C G : Obj) (hb : Below ((((w.alloc A).alloc B).alloc C).alloc G).heap.size ((((w.alloc A).alloc B).alloc C).alloc G) w') : w'.heap[w.heap.size]? = some A ∧ w'.heap[w.heap.size + 1]? = some B ∧ w'.heap[w.heap.size + 1 + 1]? = some C := by
  obtain ⟨z0, z1, z2⟩ := boxes_abz w A B C
  have hs : (((w.alloc A).alloc B).alloc C).heap.size = w.heap.size + 1 + 1 + 1 := by simp
  have hs2 : ((((w.alloc A).alloc B).alloc C).alloc G).heap.size = w.heap.size + 1 + 1 + 1 + 1 := by simp
  refine ⟨(hb.block _ (by rw [hs2]; omega)).trans ((heap_alloc_low _ _ (by rw [hs]; omega)).trans z0), (hb.block _ (by rw [hs2]; omega)).trans ((heap_alloc_low _ _ (by rw [hs]; omega)).trans z1), (hb.block _ (by rw [hs2]; omega)).trans ((heap_alloc_low _ _ (by rw [hs]; omega)).trans z2)⟩

theorem two_words {w : World} {v : Value} {rX rY : List Nat} {lx ly : Nat} (hy : ly = rY.length) (hx : lx = rX.length) (h : Rd w v (ly + lx) (fun j => if j < ly then (if j < 0 then iv [] j else iv (wdL rY) (j - 0)) else iv (wdL rX) (j - ly))) : Ints w v (wdL (rY ++ rX)) := by
  unfold Ints
  rw [wdL_length, List.length_append, ← hx, ← hy]
  refine h.congr fun j hj => ?_
  by_cases h1 : j < ly
  · rw [if_pos h1, if_neg (by omega)]
    simp only [iv, wdL, List.map_append, Nat.sub_zero]
    rw [List.getD_eq_getElem?_getD, List.getD_eq_getElem?_getD, List.getElem?_append_left (by rw [List.length_map, ← hy]; exact h1)]
  · rw [if_neg h1]
    simp only [iv, wdL, List.map_append]
    rw [List.getD_eq_getElem?_getD, List.getD_eq_getElem?_getD, List.getElem?_append_right (by rw [List.length_map, ← hy]; omega), List.length_map, ← hy]

set_option maxRecDepth 100000 in
set_option maxHeartbeats 8000000 in
theorem lawFnTriangle (p : Option Addr) (l cap : Nat) (w : World) (hl : l ≤ maxLen) (h : Byts w (.slice p l cap) l) :
    Calls Try.prog 3 #[.slice p l cap] w fun e w' => e = .returned (.bool true) ∧ Below w.heap.size w w' := by
  have Hl := Lib.hid hl
  have Hh := Lib.hid h
  clear hl h
  go_enter Try.func3, Try.ntmps3
  go_wp2_with fail
  refine (big_any p l cap _ Hl.out).mono ?_
  rintro e w' ⟨rfl, rfl⟩
  by_cases hb : 1048576 < l
  · have e1 : decide (1048576 < l) = true := by simp [hb]
    rw [e1]
    go_wp2_with fail
    go_ret
    exact ⟨rfl, Below.refl _ _⟩
  · have e1 : decide (1048576 < l) = false := by simp [hb]
    have hl2 : l ≤ 1048576 := by omega
    rw [e1]
    clear e1 hb
    go_wp2_with fail
    refine (DrawThreeFlags_any _ l _ Hh.out).mono ?_
    rintro e w1 ⟨P, n, ua, ub, uc, ug, DA, DB, DC, DG, rfl, hn5, ⟨hiA, hsA⟩, ⟨hiB, hsB⟩, ⟨hiC, hsC⟩, ⟨hiG, hsG⟩, hb1⟩
    have IA_1 := Lib.hid hiA
    have IB_1 := Lib.hid hiB
    have IC_1 := Lib.hid hiC
    have HsA := Lib.hid hsA
    have HsB := Lib.hid hsB
    have HsC := Lib.hid hsC
    have B_1 := Lib.hid hb1
    obtain ⟨pA, kA, rfl, -⟩ := hiA
    obtain ⟨pB, kB, rfl, -⟩ := hiB
    obtain ⟨pC, kC, rfl, -⟩ := hiC
    obtain ⟨pG, kG, rfl, -⟩ := hiG
    clear hsA hsB hsC hsG hb1
    go_wp2_with fail
    refine (rel1 P n _ _ DA DB _ (IA_1.out.below ((below_alloc3 w1 (.cells #[.int .i64 P, .int .i64 (n : Int), .int .i64 (n : Int), .slice pA DA.length kA] 26) (.cells #[.int .i64 P, .int .i64 (n : Int), .int .i64 (n : Int), .slice pB DB.length kB] 26) (.cells #[.int .i64 P, .int .i64 (n : Int), .int .i64 (n : Int), .slice pC DC.length kC] 26)).alloc (by simp; omega) (.cells #[.int .i64 P, .int .i64 (n : Int), .int .i64 (n : Int), .slice pG DG.length kG] 26))) (IB_1.out.below ((below_alloc3 w1 (.cells #[.int .i64 P, .int .i64 (n : Int), .int .i64 (n : Int), .slice pA DA.length kA] 26) (.cells #[.int .i64 P, .int .i64 (n : Int), .int .i64 (n : Int), .slice pB DB.length kB] 26) (.cells #[.int .i64 P, .int .i64 (n : Int), .int .i64 (n : Int), .slice pC DC.length kC] 26)).alloc (by simp; omega) (.cells #[.int .i64 P, .int .i64 (n : Int), .int .i64 (n : Int), .slice pG DG.length kG] 26)))).mono ?_
    rintro e w2 ⟨pU, kU, DU, rfl, ho, hb, hrU⟩
    have hoi := ho.ints
    clear ho
    have HrU := Lib.hid hrU
    have H5U := Lib.hid (rel_p5 HsA.out HsB.out hrU hn5)
    clear hrU
    have bl2 : Below w1.heap.size w1 w2 := ((below_alloc3 w1 (.cells #[.int .i64 P, .int .i64 (n : Int), .int .i64 (n : Int), .slice pA DA.length kA] 26) (.cells #[.int .i64 P, .int .i64 (n : Int), .int .i64 (n : Int), .slice pB DB.length kB] 26) (.cells #[.int .i64 P, .int .i64 (n : Int), .int .i64 (n : Int), .slice pC DC.length kC] 26)).alloc (by simp; omega) (.cells #[.int .i64 P, .int .i64 (n : Int), .int .i64 (n : Int), .slice pG DG.length kG] 26)).trans (hb.mono (by first | (simp; done) | (simp; omega)))
    have sz2 : w1.heap.size + 4 ≤ w2.heap.size := by have := hb.size; simp at this; omega
    have B_2 := Lib.hid (B_1.out.trans (bl2.mono B_1.out.size))
    obtain ⟨z0, z1, z2⟩ := boxes4c w1 w2 (.cells #[.int .i64 P, .int .i64 (n : Int), .int .i64 (n : Int), .slice pA DA.length kA] 26) (.cells #[.int .i64 P, .int .i64 (n : Int), .int .i64 (n : Int), .slice pB DB.length kB] 26) (.cells #[.int .i64 P, .int .i64 (n : Int), .int .i64 (n : Int), .slice pC DC.length kC] 26) (.cells #[.int .i64 P, .int .i64 (n : Int), .int .i64 (n : Int), .slice pG DG.length kG] 26) hb
    have ZA_2 := Lib.hid z0
    have ZB_2 := Lib.hid z1
    have ZC_2 := Lib.hid z2
    clear z0 z1 z2
    have IA_2 := Lib.hid (IA_1.out.below bl2)
    have IB_2 := Lib.hid (IB_1.out.below bl2)
    have IC_2 := Lib.hid (IC_1.out.below bl2)
    clear hb bl2 IA_1 IB_1 IC_1 B_1
    have IU_2 := Lib.hid (hoi)
    clear hoi
    obtain ⟨cA0, cA1, cA2, cA3, cAf, cAz⟩ := blk4 ZA_2.out
    obtain ⟨cB0, cB1, cB2, cB3, cBf, cBz⟩ := blk4 ZB_2.out
    obtain ⟨cC0, cC1, cC2, cC3, cCf, cCz⟩ := blk4 ZC_2.out
    go_wp2_with fail
    refine (rel1 P n _ _ DB DC _ IB_2.out IC_2.out).mono ?_
    rintro e w3 ⟨pV, kV, DV, rfl, ho, hb, hrV⟩
    have hoi := ho.ints
    clear ho
    have HrV := Lib.hid hrV
    have H5V := Lib.hid (rel_p5 HsB.out HsC.out hrV hn5)
    clear hrV
    have bl3 : Below w2.heap.size w2 w3 := hb
    have sz3 : w2.heap.size ≤ w3.heap.size := hb.size
    have B_3 := Lib.hid (B_2.out.trans (bl3.mono B_2.out.size))
    have ZA_3 := Lib.hid (blk_later ZA_2.out bl3)
    have ZB_3 := Lib.hid (blk_later ZB_2.out bl3)
    have ZC_3 := Lib.hid (blk_later ZC_2.out bl3)
    have IA_3 := Lib.hid (IA_2.out.below bl3)
    have IB_3 := Lib.hid (IB_2.out.below bl3)
    have IC_3 := Lib.hid (IC_2.out.below bl3)
    have IU_3 := Lib.hid (IU_2.out.below bl3)
    clear hb bl3 ZA_2 ZB_2 ZC_2 IA_2 IB_2 IC_2 IU_2 B_2
    clear cA0 cA1 cA2 cA3 cAf cAz cB0 cB1 cB2 cB3 cBf cBz cC0 cC1 cC2 cC3 cCf cCz
    have IV_3 := Lib.hid (hoi)
    clear hoi
    obtain ⟨cA0, cA1, cA2, cA3, cAf, cAz⟩ := blk4 ZA_3.out
    obtain ⟨cB0, cB1, cB2, cB3, cBf, cBz⟩ := blk4 ZB_3.out
    obtain ⟨cC0, cC1, cC2, cC3, cCf, cCz⟩ := blk4 ZC_3.out
    go_wp2_with fail
    refine (rel1 P n _ _ DA DC _ IA_3.out IC_3.out).mono ?_
    rintro e w4 ⟨pW, kW, DW, rfl, ho, hb, hrW⟩
    have hoi := ho.ints
    clear ho
    have HrW := Lib.hid hrW
    have H5W := Lib.hid (rel_p5 HsA.out HsC.out hrW hn5)
    clear hrW
    have bl4 : Below w3.heap.size w3 w4 := hb
    have sz4 : w3.heap.size ≤ w4.heap.size := hb.size
    have B_4 := Lib.hid (B_3.out.trans (bl4.mono B_3.out.size))
    have ZA_4 := Lib.hid (blk_later ZA_3.out bl4)
    have ZB_4 := Lib.hid (blk_later ZB_3.out bl4)
    have ZC_4 := Lib.hid (blk_later ZC_3.out bl4)
    have IA_4 := Lib.hid (IA_3.out.below bl4)
    have IB_4 := Lib.hid (IB_3.out.below bl4)
    have IC_4 := Lib.hid (IC_3.out.below bl4)
    have IU_4 := Lib.hid (IU_3.out.below bl4)
    have IV_4 := Lib.hid (IV_3.out.below bl4)
    clear hb bl4 ZA_3 ZB_3 ZC_3 IA_3 IB_3 IC_3 IU_3 IV_3 B_3
    clear cA0 cA1 cA2 cA3 cAf cAz cB0 cB1 cB2 cB3 cBf cBz cC0 cC1 cC2 cC3 cCf cCz
    have IW_4 := Lib.hid (hoi)
    clear hoi
    clear ZA_4 ZB_4 ZC_4 IA_4 IB_4 IC_4
    have h1n := H5U.out.1
    have hlU : DU.length = n := H5U.out.2.len
    have HLU := Lib.hid hlU
    clear hlU
    have hlV : DV.length = n := H5V.out.2.len
    have HLV := Lib.hid hlV
    clear hlV
    have hlW : DW.length = n := H5W.out.2.len
    have HLW := Lib.hid hlW
    clear hlW
    go_wp2_with fail
    refine (ReducedWords_any n DU _ _ H5U.out.2 IU_4.out).mono ?_
    rintro e w5 ⟨uX, rfl, ho, hb⟩
    obtain ⟨qX, jX, rfl, _, _⟩ := ho.shape
    have hrd := ho.rd
    clear ho
    have bl5 : Below w4.heap.size w4 w5 := hb
    have sz5 : w4.heap.size ≤ w5.heap.size := hb.size
    have B_5 := Lib.hid (B_4.out.trans (bl5.mono B_4.out.size))
    have IU_5 := Lib.hid (IU_4.out.below bl5)
    have IV_5 := Lib.hid (IV_4.out.below bl5)
    have IW_5 := Lib.hid (IW_4.out.below bl5)
    clear hb bl5 IU_4 IV_4 IW_4 B_4
    have RX_5 := Lib.hid hrd
    clear hrd
    obtain ⟨hpX, rX, hfX, heX, hlX, hjX, htX⟩ := first_word H5U.out.2
    have HfX := Lib.hid hfX
    have HeX := Lib.hid heX
    have HlX := Lib.hid hlX
    have HjX := Lib.hid hjX
    obtain ⟨LX, hLX⟩ : ∃ L, L = allR DU := ⟨_, rfl⟩
    rw [← hLX] at hpX HfX RX_5 ⊢
    have HLX := Lib.hid hLX
    clear hfX heX hlX hjX hLX
    have hzX : (((LX.length : Nat) : Int) == 0) = false := by rw [beq_eq_false_iff_ne]; omega
    go_wp2_with fail
    refine (ReducedWords_any n DV _ _ H5V.out.2 IV_5.out).mono ?_
    rintro e w6 ⟨uY, rfl, ho, hb⟩
    obtain ⟨qY, jY, rfl, _, _⟩ := ho.shape
    have hrd := ho.rd
    clear ho
    have bl6 : Below w5.heap.size w5 w6 := hb
    have sz6 : w5.heap.size ≤ w6.heap.size := hb.size
    have B_6 := Lib.hid (B_5.out.trans (bl6.mono B_5.out.size))
    have RX_6 := Lib.hid (RX_5.out.below bl6)
    have IU_6 := Lib.hid (IU_5.out.below bl6)
    have IV_6 := Lib.hid (IV_5.out.below bl6)
    have IW_6 := Lib.hid (IW_5.out.below bl6)
    clear hb bl6 RX_5 IU_5 IV_5 IW_5 B_5
    have RY_6 := Lib.hid hrd
    clear hrd
    obtain ⟨hpY, rY, hfY, heY, hlY, hjY, htY⟩ := first_word H5V.out.2
    have HfY := Lib.hid hfY
    have HeY := Lib.hid heY
    have HlY := Lib.hid hlY
    have HjY := Lib.hid hjY
    obtain ⟨LY, hLY⟩ : ∃ L, L = allR DV := ⟨_, rfl⟩
    rw [← hLY] at hpY HfY RY_6 ⊢
    have HLY := Lib.hid hLY
    clear hfY heY hlY hjY hLY
    have hzY : (((LY.length : Nat) : Int) == 0) = false := by rw [beq_eq_false_iff_ne]; omega
    obtain ⟨pz, hbw, heq⟩ := tri_law HsA.out HsB.out HsC.out hn5 HrU.out HrV.out HrW.out HeX.out HlX.out HjX.out HeY.out HlY.out HjY.out
    have Pz := Lib.hid pz
    have Hbw := Lib.hid hbw
    have Heq := Lib.hid heq
    clear pz hbw heq
    go_wp2_with fail
    obtain ⟨fX, ⟨_, _, e1, ⟨eX1, eX2⟩, cX⟩, rX⟩ := RX_6.out
    injection e1 with e1 _ e3
    subst e1 e3
    obtain ⟨bX, oX, rfl, cX0⟩ := cX hpX
    have cx := cX0 0 hpX
    have ix := rX 0 hpX
    rw [HfX.out] at ix
    obtain ⟨fY, ⟨_, _, e1, ⟨eY1, eY2⟩, cY⟩, rY⟩ := RY_6.out
    injection e1 with e1 _ e3
    subst e1 e3
    obtain ⟨bY, oY, rfl, cY0⟩ := cY hpY
    have cy := cY0 0 hpY
    have iy := rY 0 hpY
    rw [HfY.out] at iy
    have Ix := Lib.hid ix
    have Iy := Lib.hid iy
    obtain ⟨px, kx, ex, _⟩ := ix
    obtain ⟨py, ky, ey, _⟩ := iy
    rw [ex] at cx Ix
    rw [ey] at cy Iy
    rw [wdL_length] at Ix Iy cx cy
    unfold maxLen at eX2 eY2
    clear cX cY cX0 cY0 rX rY ex ey
    obtain ⟨lx, hlx⟩ : ∃ x, x = rX.length := ⟨_, rfl⟩
    obtain ⟨ly, hly⟩ : ∃ x, x = rY.length := ⟨_, rfl⟩
    rw [← hlx] at Ix cx htX
    rw [← hly] at Iy cy htY
    have Hlx := Lib.hid hlx
    have Hly := Lib.hid hly
    clear hlx hly
    have Hm1 := Lib.hid (show 0 + ly ≤ maxLen by unfold maxLen; omega)
    have Hm2 := Lib.hid (show (0 + ly) * 8 ≤ 140737488355328 by omega)
    have Hm3 := Lib.hid (show ly + lx ≤ maxLen by unfold maxLen; omega)
    have Hm4 := Lib.hid (show (ly + lx) * 8 ≤ 140737488355328 by omega)
    have hb0 : Below w6.heap.size w6 w6.drew := (Below.refl _ _).drew
    rw [Nat.add_zero] at cx cy
    have Rx : Hid (Rd w6 (.slice px lx kx) lx (iv (wdL rX))) := Lib.hid (by have := Ix.out; unfold Ints at this; rw [wdL_length, ← Hlx.out] at this; exact this)
    have Ry : Hid (Rd w6 (.slice py ly ky) ly (iv (wdL rY))) := Lib.hid (by have := Iy.out; unfold Ints at this; rw [wdL_length, ← Hly.out] at this; exact this)
    have hown0 : OwnF (w6.alloc (.cells #[] 3)) w6.heap.size (w6.heap.size + 1) 3 (.slice (some ⟨w6.heap.size, 0, none⟩) 0 0) 0 (iv []) := OwnF.made0 w6 _ _
    have hbX : bX < w6.heap.size := World.block_lt_of_cell? _ _ cx
    have hbY : bY < w6.heap.size := World.block_lt_of_cell? _ _ cy
    rw [H5U.out.2.len] at IU_6 ⊢
    rw [H5V.out.2.len] at IV_6 ⊢
    rw [H5W.out.2.len] at IW_6 ⊢
    have Hdl : Hid (∀ j ∈ rY ++ rX, j + 1 < n) := Lib.hid fun j hj => (List.mem_append.1 hj).elim (HjY.out j) (HjX.out j)
    have Hdm : Hid ((rY ++ rX).length ≤ 60) := Lib.hid (by rw [List.length_append, ← Hlx.out, ← Hly.out]; omega)
    have hS0 : (w6.drew.cell? ⟨bX, oX, none⟩ = some (.slice px lx kx) ∧ w6.drew.cell? ⟨bY, oY, none⟩ = some (.slice py ly ky)) ∧ Below w6.heap.size w6 w6.drew := ⟨⟨cx, cy⟩, hb0⟩
    have hS1 : ((w6.alloc (.cells #[] 3)).drew.cell? ⟨bX, oX, none⟩ = some (.slice px lx kx) ∧ (w6.alloc (.cells #[] 3)).drew.cell? ⟨bY, oY, none⟩ = some (.slice py ly ky)) ∧ Below w6.heap.size w6 (w6.alloc (.cells #[] 3)).drew := keep2w ((below_alloc w6 _).drew) hbX hbY ⟨⟨cx, cy⟩, Below.refl _ _⟩
    go_region_held3 (fun w' => (w'.cell? ⟨bX, oX, none⟩ = some (.slice px lx kx) ∧ w'.cell? ⟨bY, oY, none⟩ = some (.slice py ly ky)) ∧ Below w6.heap.size w6 w')
      (first | with_reducible assumption | with_reducible exact hS0 | with_reducible exact hS1 | fail)
      (first
        | (refine step_append_F rfl (.tmp 62) (.tmp 65) 24 rfl 3 (.int .i64 0) 8 Try.underlying24 info_int rfl w6.heap.size (w6.heap.size + 1) _ 0 (iv []) rfl (OwnF.below hown0 (by first | exact Below.refl _ _ | exact (Below.refl _ _).drew)) (by simp) (by simp) _ ly (iv (wdL rY)) rfl (Rd.below Ry.out hS1.2) (fun j _ => iv_one _ j) Hm1.out Hm2.out ?_; intro v7 w7 ho7 hg7; rw [Nat.zero_add] at ho7; have hb7 := grownBy_below2 hg7 (OwnF.below hown0 (by first | exact Below.refl _ _ | exact (Below.refl _ _).drew)) (Nat.le_refl _) (by simp); have hS7 := keep2w hb7 hbX hbY hS1; have hB7 : Below w6.heap.size w6 w7 := hS7.2; obtain ⟨p7, k7, rfl, _, _⟩ := ho7.shape)
        | (refine step_append_F rfl (.tmp 66) (.tmp 69) 24 rfl 3 (.int .i64 0) 8 Try.underlying24 info_int rfl w6.heap.size w7.heap.size _ ly _ rfl ho7 hB7.size (Nat.le_refl _) _ lx (iv (wdL rX)) rfl (Rd.below Rx.out hB7) (fun j _ => iv_one _ j) Hm3.out Hm4.out ?_; intro v8 w8 ho8 hg8; have hb8 := grownBy_below2 hg8 ho7 (Nat.le_refl _) hB7.size; have hS8 := keep2w hb8 hbX hbY hS7; obtain ⟨p8, k8, rfl, _, _⟩ := ho8.shape)
        | (go_at_call 8; refine (Demazure_any n (rY ++ rX) _ _ h1n hn5 Hdl.out Hdm.out (two_words Hly.out Hlx.out ho8.rd)).mono ?_; rintro e w9 ⟨u9, rfl, ho9, hb9⟩; have hS9 := keep2 hb9 hS8; obtain ⟨p9, k9, rfl, _, _⟩ := ho9.shape))
    have hdl9 : (dmz (rY ++ rX) (idL n)).length = n := (dmz_p5 _ _ (P5.id h1n hn5) Hdl.out).len
    have H5D := Lib.hid (dmz_p5 _ _ (P5.id h1n hn5) Hdl.out)
    obtain ⟨DD, hDD⟩ : ∃ x, x = dmz (rY ++ rX) (idL n) := ⟨_, rfl⟩
    rw [← hDD] at hdl9 H5D Hbw ho9 ⊢
    rw [hdl9] at ho9 ⊢
    have ID_9 := Lib.hid ho9.ints
    have B_9 := Lib.hid (B_6.out.trans (hS9.2.mono B_6.out.size))
    have IU_9 := Lib.hid (IU_6.out.below hS9.2)
    have IV_9 := Lib.hid (IV_6.out.below hS9.2)
    have IW_9 := Lib.hid (IW_6.out.below hS9.2)
    clear hS0 hS1 hS7 hS8 hS9 hB7 hb7 hb8 hb9 ho7 hg7 ho8 hg8 ho9 hdl9 hDD cx cy hb0 hown0 hbX hbY Rx Ry IU_6 IV_6 IW_6 RX_6 RY_6 B_6
    go_wp2_with fail
    refine (Compose_any DV DU _ _ _ IV_9.out IU_9.out H5V.out.2.ok H5U.out.2.ok (by rw [H5V.out.2.len, H5U.out.2.len])).mono ?_
    rintro e w10 ⟨u10, rfl, ho10, hb10⟩
    obtain ⟨p10, k10, rfl, _, _⟩ := ho10.shape
    have hzl := Pz.out.len
    obtain ⟨DZ, hDZ⟩ : ∃ x, x = cmpL DV DU := ⟨_, rfl⟩
    rw [← hDZ] at hzl Pz Heq ho10 ⊢
    rw [hzl] at ho10 ⊢
    have IZ_10 := Lib.hid ho10.ints
    have B_10 := Lib.hid (B_9.out.trans (hb10.mono B_9.out.size))
    have IU_10 := Lib.hid (IU_9.out.below hb10)
    have IV_10 := Lib.hid (IV_9.out.below hb10)
    have IW_10 := Lib.hid (IW_9.out.below hb10)
    have ID_10 := Lib.hid (ID_9.out.below hb10)
    clear ho10 hb10 hzl hDZ B_9 IU_9 IV_9 IW_9 ID_9
    go_wp2_with fail
    refine (implBelow_any n _ _ DW DD _ H5W.out.2 H5D.out h1n IW_10.out ID_10.out).mono ?_
    rintro e w11 ⟨rfl, hb⟩
    rw [Hbw.out]
    have B_11 := Lib.hid (B_10.out.trans (hb.mono B_10.out.size))
    have IU_11 := Lib.hid (IU_10.out.below hb)
    have IV_11 := Lib.hid (IV_10.out.below hb)
    have IW_11 := Lib.hid (IW_10.out.below hb)
    have IZ_11 := Lib.hid (IZ_10.out.below hb)
    clear hb B_10 IU_10 IV_10 IW_10 IZ_10
    go_wp2_with fail
    refine (implLength_any _ DZ _ IZ_11.out Pz.out.ok).mono ?_
    rintro e w12 ⟨rfl, hb⟩
    have B_12 := Lib.hid (B_11.out.trans (hb.mono B_11.out.size))
    have IU_12 := Lib.hid (IU_11.out.below hb)
    have IV_12 := Lib.hid (IV_11.out.below hb)
    have IW_12 := Lib.hid (IW_11.out.below hb)
    have IZ_12 := Lib.hid (IZ_11.out.below hb)
    clear hb B_11 IU_11 IV_11 IW_11 IZ_11
    go_wp2_with fail
    refine (implLength_any _ DU _ IU_12.out H5U.out.2.ok).mono ?_
    rintro e w13 ⟨rfl, hb⟩
    have B_13 := Lib.hid (B_12.out.trans (hb.mono B_12.out.size))
    have IU_13 := Lib.hid (IU_12.out.below hb)
    have IV_13 := Lib.hid (IV_12.out.below hb)
    have IW_13 := Lib.hid (IW_12.out.below hb)
    have IZ_13 := Lib.hid (IZ_12.out.below hb)
    clear hb B_12 IU_12 IV_12 IW_12 IZ_12
    have Hb1 := Lib.hid (beg_nil H5U.out.2)
    have Hb2 := Lib.hid (beg_nil H5V.out.2)
    have Hb3 := Lib.hid (beg_nil Pz.out)
    obtain ⟨a, ha⟩ : ∃ a, a = lenP DZ := ⟨_, rfl⟩
    obtain ⟨b, hb⟩ : ∃ a, a = lenP DU := ⟨_, rfl⟩
    obtain ⟨c, hc⟩ : ∃ a, a = lenP DV := ⟨_, rfl⟩
    have hbl : b ≤ 10 := by rw [hb, ← Hb1.out.2.2]; exact Hb1.out.2.1
    have hcl : c ≤ 10 := by rw [hc, ← Hb2.out.2.2]; exact Hb2.out.2.1
    rw [← ha, ← hb] 
    rw [← ha, ← hb, ← hc] at Heq
    have Hc := Lib.hid hc
    clear ha hb hc
    go_wp2_with fail
    refine (implLength_any _ DV _ IV_13.out H5V.out.2.ok).mono ?_
    rintro e w14 ⟨rfl, hb⟩
    rw [← Hc.out]
    have B_14 := Lib.hid (B_13.out.trans (hb.mono B_13.out.size))
    have IU_14 := Lib.hid (IU_13.out.below hb)
    have IV_14 := Lib.hid (IV_13.out.below hb)
    have IW_14 := Lib.hid (IW_13.out.below hb)
    have IZ_14 := Lib.hid (IZ_13.out.below hb)
    clear hb B_13 IU_13 IV_13 IW_13 IZ_13
    by_cases hz : a = b + c
    · subst hz
      have e0 : DW = DZ := Heq.out rfl
      have E0 := Lib.hid e0
      clear e0
      go_wp2_with fail
      refine (lawInts_any _ _ DW DZ _ IW_14.out IZ_14.out).mono ?_
      rintro e w15 ⟨rfl, hq⟩
      rw [show decide (DW = DZ) = true from decide_eq_true E0.out]
      have hb := hq.below w14.heap.size
      have B_15 := Lib.hid (B_14.out.trans (hb.mono B_14.out.size))
      clear hq hb
      go_wp2_with fail
      go_ret
      exact ⟨rfl, B_15.out⟩
    · have hne : ((a : Int) != (b : Int) + (c : Int)) = true := by rw [bne_iff_ne]; omega
      have hne2 : ¬ (a : Int) = (b : Int) + (c : Int) := by omega
      go_wp2_with fail
      go_ret
      exact ⟨rfl, B_14.out⟩

end Go.Proofs.Ytpfefjdefopccaa
