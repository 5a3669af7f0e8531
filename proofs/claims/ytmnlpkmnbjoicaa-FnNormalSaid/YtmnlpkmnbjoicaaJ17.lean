/-
  The law FnNormal, walked.
-/
import Derived.Test.YtmnlpkmnbjoicaaJ14
import Derived.Test.YtmnlpkmnbjoicaaJ15
import Derived.Test.YtmnlpkmnbjoicaaJ16
namespace Go.Proofs.Ytmnlpkmnbjoicaa
set_option linter.all false
open Go.RowKit

theorem keep4B {wr W W' : World} {b B : Nat} {v0 v1 v2 v3 : Value} (hb : Below B W W') (hbB : b < B) (hB : wr.heap.size ≤ B) (h : (W.cell? ⟨b, 0, none⟩ = some v0 ∧ W.cell? ⟨b, 1, none⟩ = some v1 ∧ W.cell? ⟨b, 2, none⟩ = some v2 ∧ W.cell? ⟨b, 3, none⟩ = some v3) ∧ Below wr.heap.size wr W) :
    (W'.cell? ⟨b, 0, none⟩ = some v0 ∧ W'.cell? ⟨b, 1, none⟩ = some v1 ∧ W'.cell? ⟨b, 2, none⟩ = some v2 ∧ W'.cell? ⟨b, 3, none⟩ = some v3) ∧ Below wr.heap.size wr W' := by
  obtain ⟨⟨h0, h1, h2, h3⟩, hw⟩ := h
  exact ⟨⟨(hb.cell (p := ⟨b, 0, none⟩) hbB).trans h0, (hb.cell (p := ⟨b, 1, none⟩) hbB).trans h1, (hb.cell (p := ⟨b, 2, none⟩) hbB).trans h2, (hb.cell (p := ⟨b, 3, none⟩) hbB).trans h3⟩, hw.trans (hb.mono hB)⟩

theorem keepN4 {wr W W' : World} {a0 a1 a2 a3 : Addr} {v0 v1 v2 v3 : Value} (hb : Below W.heap.size W W') (h : (W.cell? a0 = some v0 ∧ W.cell? a1 = some v1 ∧ W.cell? a2 = some v2 ∧ W.cell? a3 = some v3) ∧ Below wr.heap.size wr W) : (W'.cell? a0 = some v0 ∧ W'.cell? a1 = some v1 ∧ W'.cell? a2 = some v2 ∧ W'.cell? a3 = some v3) ∧ Below wr.heap.size wr W' := by
  obtain ⟨⟨h0, h1, h2, h3⟩, hB⟩ := h
  exact ⟨⟨cell_below hb h0, cell_below hb h1, cell_below hb h2, cell_below hb h3⟩, below_trans hB hb⟩

set_option maxRecDepth 100000 in
set_option maxHeartbeats 8000000 in
theorem lawFnNormal (p : Option Addr) (l cap : Nat) (w : World) (hl : l ≤ maxLen) (h : Byts8 w (.slice p l cap) l) :
    Calls Try.prog 4 #[.slice p l cap] w fun e w' => e = .returned (.bool true) ∧ Below w.heap.size w w' := by
  have Hl := Lib.hid hl
  have Hh := Lib.hid h
  clear hl h
  go_enter Try.func4, Try.ntmps4
  go_wp2_with fail
  refine (big_any p l cap _ Hl.out).mono ?_
  rintro e w' ⟨rfl, rfl⟩
  by_cases hb : 1048576 < l
  · have e1 : decide (1048576 < l) = true := by simp [hb]
    rw [e1]
    go_wp2_with fail
    go_ret
    exact ⟨rfl, Below.refl _ _⟩
  · have e1 : decide (1048576 < l) = false := by simp [hb]
    have hl2 : l ≤ 1048576 := by omega
    rw [e1]
    clear e1 hb
    go_wp2_with fail
    refine (DrawThreeFlags_any _ l _ Hh.out.byts).mono ?_
    rintro e w1 ⟨P, n, ua, ub, uc, ug, DA, DB, DC, DG, rfl, hn5, ⟨hiA, hsA⟩, ⟨hiB, hsB⟩, ⟨hiC, hsC⟩, ⟨hiG, hsG⟩, hb1⟩
    have IA_1 := Lib.hid hiA
    have HsA := Lib.hid hsA
    have HF_1 := Lib.hid hsA.facts
    have B_1 := Lib.hid hb1
    obtain ⟨pA, kA, rfl, -⟩ := hiA
    obtain ⟨pB, kB, rfl, -⟩ := hiB
    obtain ⟨pC, kC, rfl, -⟩ := hiC
    obtain ⟨pG, kG, rfl, -⟩ := hiG
    clear hsA hsB hsC hsG hb1
    go_wp2_with fail
    refine (norm1 P n _ DA _ HsA.out (IA_1.out.below ((below_alloc3 w1 (.cells #[.int .i64 P, .int .i64 (n : Int), .int .i64 (n : Int), .slice pA DA.length kA] 26) (.cells #[.int .i64 P, .int .i64 (n : Int), .int .i64 (n : Int), .slice pB DB.length kB] 26) (.cells #[.int .i64 P, .int .i64 (n : Int), .int .i64 (n : Int), .slice pC DC.length kC] 26)).alloc (by simp; omega) (.cells #[.int .i64 P, .int .i64 (n : Int), .int .i64 (n : Int), .slice pG DG.length kG] 26)))).mono ?_
    rintro e w2 ⟨pM, kM, DM, rfl, ho, hb, hr⟩
    have hoi := ho.ints
    clear ho
    have HsM := Lib.hid (nf_flag HsA.out hr)
    have HrM := Lib.hid hr
    clear hr
    have bl2 : Below w1.heap.size w1 w2 := ((below_alloc3 w1 (.cells #[.int .i64 P, .int .i64 (n : Int), .int .i64 (n : Int), .slice pA DA.length kA] 26) (.cells #[.int .i64 P, .int .i64 (n : Int), .int .i64 (n : Int), .slice pB DB.length kB] 26) (.cells #[.int .i64 P, .int .i64 (n : Int), .int .i64 (n : Int), .slice pC DC.length kC] 26)).alloc (by simp; omega) (.cells #[.int .i64 P, .int .i64 (n : Int), .int .i64 (n : Int), .slice pG DG.length kG] 26)).trans (hb.mono (by first | (simp; done) | (simp; omega)))
    have sz2 : w1.heap.size + 4 ≤ w2.heap.size := by have := hb.size; simp at this; omega
    have B_2 := Lib.hid (B_1.out.trans (bl2.mono B_1.out.size))
    obtain ⟨z0, z1, z2⟩ := boxes_abz w1 (.cells #[.int .i64 P, .int .i64 (n : Int), .int .i64 (n : Int), .slice pA DA.length kA] 26) (.cells #[.int .i64 P, .int .i64 (n : Int), .int .i64 (n : Int), .slice pB DB.length kB] 26) (.cells #[.int .i64 P, .int .i64 (n : Int), .int .i64 (n : Int), .slice pC DC.length kC] 26)
    have ZA_2 := Lib.hid ((hb.block _ (by simp; omega)).trans ((heap_alloc_low _ _ (by simp; omega)).trans z0))
    clear z0 z1 z2
    have IA_2 := Lib.hid (IA_1.out.below bl2)
    clear hb bl2 IA_1 B_1
    have IM_2 := Lib.hid (hoi)
    clear hoi
    obtain ⟨cA0, cA1, cA2, cA3, cAf, cAz⟩ := blk4 ZA_2.out
    go_wp2_with fail
    refine (norm1 P n _ DM _ HsM.out (IM_2.out.below (below_alloc w2 (.cells #[.int .i64 P, .int .i64 (n : Int), .int .i64 (n : Int), .slice pM DM.length kM] 26)))).mono ?_
    rintro e w3 ⟨pN, kN, DN, rfl, ho, hb, hr⟩
    have hoi := ho.ints
    clear ho
    obtain rfl := (nf_twice HsA.out HrM.out hr).symm
    clear hr
    have bl3 : Below w2.heap.size w2 w3 := (below_alloc w2 (.cells #[.int .i64 P, .int .i64 (n : Int), .int .i64 (n : Int), .slice pM DM.length kM] 26)).trans (hb.mono (by first | (simp; done) | (simp; omega)))
    have sz3 : w2.heap.size + 1 ≤ w3.heap.size := by have := hb.size; simp at this; omega
    have B_3 := Lib.hid (B_2.out.trans (bl3.mono B_2.out.size))
    have ZA_3 := Lib.hid (blk_later ZA_2.out bl3)
    have ZM_3 := Lib.hid ((hb.block _ (by simp)).trans (heap_alloc_top w2 (.cells #[.int .i64 P, .int .i64 (n : Int), .int .i64 (n : Int), .slice pM DM.length kM] 26)))
    have IA_3 := Lib.hid (IA_2.out.below bl3)
    have IM_3 := Lib.hid (IM_2.out.below bl3)
    clear hb bl3 ZA_2 IA_2 IM_2 B_2
    clear cA0 cA1 cA2 cA3 cAf cAz
    have IN_3 := Lib.hid (hoi)
    clear hoi
    obtain ⟨cA0, cA1, cA2, cA3, cAf, cAz⟩ := blk4 ZA_3.out
    obtain ⟨cM0, cM1, cM2, cM3, cMf, cMz⟩ := blk4 ZM_3.out
    go_wp2_with fail
    refine (fp1 P n _ DA _ HsA.out (IA_3.out.below (below_alloc w3 (.cells #[.int .i64 P, .int .i64 (n : Int), .int .i64 (n : Int), .slice pN DM.length kN] 26)))).mono ?_
    rintro e w4 ⟨pW, kW, DW, rfl, ho, hb, hr⟩
    have hoi := ho.ints
    clear ho
    have bl4 : Below w3.heap.size w3 w4 := (below_alloc w3 (.cells #[.int .i64 P, .int .i64 (n : Int), .int .i64 (n : Int), .slice pN DM.length kN] 26)).trans (hb.mono (by first | (simp; done) | (simp; omega)))
    have sz4 : w3.heap.size + 1 ≤ w4.heap.size := by have := hb.size; simp at this; omega
    have B_4 := Lib.hid (B_3.out.trans (bl4.mono B_3.out.size))
    have ZA_4 := Lib.hid (blk_later ZA_3.out bl4)
    have ZM_4 := Lib.hid (blk_later ZM_3.out bl4)
    have ZN_4 := Lib.hid ((hb.block _ (by simp)).trans (heap_alloc_top w3 (.cells #[.int .i64 P, .int .i64 (n : Int), .int .i64 (n : Int), .slice pN DM.length kN] 26)))
    have IA_4 := Lib.hid (IA_3.out.below bl4)
    have IM_4 := Lib.hid (IM_3.out.below bl4)
    have IN_4 := Lib.hid (IN_3.out.below bl4)
    clear hb bl4 ZA_3 ZM_3 IA_3 IM_3 IN_3 B_3
    clear cA0 cA1 cA2 cA3 cAf cAz cM0 cM1 cM2 cM3 cMf cMz
    have HN := Lib.hid (NfP.of HsA.out HrM.out hr)
    clear hr HrM
    have IW_4 := Lib.hid (hoi)
    clear hoi
    obtain ⟨cA0, cA1, cA2, cA3, cAf, cAz⟩ := blk4 ZA_4.out
    obtain ⟨cM0, cM1, cM2, cM3, cMf, cMz⟩ := blk4 ZM_4.out
    obtain ⟨cN0, cN1, cN2, cN3, cNf, cNz⟩ := blk4 ZN_4.out
    go_wp2_with fail
    refine (lawMatrices_any _ _ _ _ _ _ _ _ DM DM _ IM_4.out IN_4.out).mono ?_
    rintro e w5 ⟨rfl, hb⟩
    rw [show mxSame P n n DM P n n DM = true from by simp [mxSame]]
    have bl5 : Below w4.heap.size w4 w5 := hb
    have sz5 : w4.heap.size ≤ w5.heap.size := hb.size
    have B_5 := Lib.hid (B_4.out.trans (bl5.mono B_4.out.size))
    have ZA_5 := Lib.hid (blk_later ZA_4.out bl5)
    have ZM_5 := Lib.hid (blk_later ZM_4.out bl5)
    have ZN_5 := Lib.hid (blk_later ZN_4.out bl5)
    have IA_5 := Lib.hid (IA_4.out.below bl5)
    have IM_5 := Lib.hid (IM_4.out.below bl5)
    have IN_5 := Lib.hid (IN_4.out.below bl5)
    have IW_5 := Lib.hid (IW_4.out.below bl5)
    clear hb bl5 ZA_4 ZM_4 ZN_4 IA_4 IM_4 IN_4 IW_4 B_4
    clear cA0 cA1 cA2 cA3 cAf cAz cM0 cM1 cM2 cM3 cMf cMz cN0 cN1 cN2 cN3 cNf cNz
    obtain ⟨cA0, cA1, cA2, cA3, cAf, cAz⟩ := blk4 ZA_5.out
    obtain ⟨cM0, cM1, cM2, cM3, cMf, cMz⟩ := blk4 ZM_5.out
    obtain ⟨cN0, cN1, cN2, cN3, cNf, cNz⟩ := blk4 ZN_5.out
    go_wp2_with fail
    refine (fp1 P n _ DM _ HsM.out IM_5.out).mono ?_
    rintro e w6 ⟨pV, kV, DV, rfl, ho, hb, hr⟩
    have hoi := ho.ints
    clear ho
    obtain rfl := (HN.out.againP hr).symm
    clear hr
    have bl6 : Below w5.heap.size w5 w6 := hb
    have sz6 : w5.heap.size ≤ w6.heap.size := hb.size
    have B_6 := Lib.hid (B_5.out.trans (bl6.mono B_5.out.size))
    have ZA_6 := Lib.hid (blk_later ZA_5.out bl6)
    have ZM_6 := Lib.hid (blk_later ZM_5.out bl6)
    have ZN_6 := Lib.hid (blk_later ZN_5.out bl6)
    have IA_6 := Lib.hid (IA_5.out.below bl6)
    have IM_6 := Lib.hid (IM_5.out.below bl6)
    have IN_6 := Lib.hid (IN_5.out.below bl6)
    have IW_6 := Lib.hid (IW_5.out.below bl6)
    clear hb bl6 ZA_5 ZM_5 ZN_5 IA_5 IM_5 IN_5 IW_5 B_5
    clear cA0 cA1 cA2 cA3 cAf cAz cM0 cM1 cM2 cM3 cMf cMz cN0 cN1 cN2 cN3 cNf cNz
    have IV_6 := Lib.hid (hoi)
    clear hoi
    obtain ⟨cA0, cA1, cA2, cA3, cAf, cAz⟩ := blk4 ZA_6.out
    obtain ⟨cM0, cM1, cM2, cM3, cMf, cMz⟩ := blk4 ZM_6.out
    obtain ⟨cN0, cN1, cN2, cN3, cNf, cNz⟩ := blk4 ZN_6.out
    go_wp2_with fail
    refine (lawInts_any _ _ DW DW _ IV_6.out IW_6.out).mono ?_
    rintro e w7 ⟨rfl, hq⟩
    have hb := hq.below w6.heap.size
    clear hq
    rw [show decide (DW = DW) = true from by simp]
    have bl7 : Below w6.heap.size w6 w7 := hb
    have sz7 : w6.heap.size ≤ w7.heap.size := hb.size
    have B_7 := Lib.hid (B_6.out.trans (bl7.mono B_6.out.size))
    have ZA_7 := Lib.hid (blk_later ZA_6.out bl7)
    have ZM_7 := Lib.hid (blk_later ZM_6.out bl7)
    have ZN_7 := Lib.hid (blk_later ZN_6.out bl7)
    have IA_7 := Lib.hid (IA_6.out.below bl7)
    have IM_7 := Lib.hid (IM_6.out.below bl7)
    have IN_7 := Lib.hid (IN_6.out.below bl7)
    have IV_7 := Lib.hid (IV_6.out.below bl7)
    have IW_7 := Lib.hid (IW_6.out.below bl7)
    clear hb bl7 ZA_6 ZM_6 ZN_6 IA_6 IM_6 IN_6 IV_6 IW_6 B_6
    clear cA0 cA1 cA2 cA3 cAf cAz cM0 cM1 cM2 cM3 cMf cMz cN0 cN1 cN2 cN3 cNf cNz
    obtain ⟨cA0, cA1, cA2, cA3, cAf, cAz⟩ := blk4 ZA_7.out
    obtain ⟨cM0, cM1, cM2, cM3, cMf, cMz⟩ := blk4 ZM_7.out
    obtain ⟨cN0, cN1, cN2, cN3, cNf, cNz⟩ := blk4 ZN_7.out
    go_wp2_with fail
    refine (rel1 P n _ _ DA DM _ IA_7.out IM_7.out).mono ?_
    rintro e w8 ⟨pR, kR, DR, rfl, ho, hb, hr⟩
    have hoi := ho.ints
    clear ho
    have HR := Lib.hid (HN.out.pos hr)
    clear hr
    have bl8 : Below w7.heap.size w7 w8 := hb
    have sz8 : w7.heap.size ≤ w8.heap.size := hb.size
    have B_8 := Lib.hid (B_7.out.trans (bl8.mono B_7.out.size))
    have ZA_8 := Lib.hid (blk_later ZA_7.out bl8)
    have ZM_8 := Lib.hid (blk_later ZM_7.out bl8)
    have ZN_8 := Lib.hid (blk_later ZN_7.out bl8)
    have IA_8 := Lib.hid (IA_7.out.below bl8)
    have IM_8 := Lib.hid (IM_7.out.below bl8)
    have IN_8 := Lib.hid (IN_7.out.below bl8)
    have IV_8 := Lib.hid (IV_7.out.below bl8)
    have IW_8 := Lib.hid (IW_7.out.below bl8)
    clear hb bl8 ZA_7 ZM_7 ZN_7 IA_7 IM_7 IN_7 IV_7 IW_7 B_7
    clear cA0 cA1 cA2 cA3 cAf cAz cM0 cM1 cM2 cM3 cMf cMz cN0 cN1 cN2 cN3 cNf cNz
    have IR_8 := Lib.hid (hoi)
    clear hoi
    obtain ⟨n0, _, en, hn1, hn7, hlA, hDA, hP2, hP7, hpr, hrk⟩ := HF_1.out
    obtain rfl := Int.ofNat.inj en
    have Hrng := Lib.hid (show ∀ t, 0 ≤ DA.getD t 0 ∧ DA.getD t 0 < P from fun t => getD_range hDA (by omega) t)
    have HlA := Lib.hid hlA
    clear hDA hpr hrk en hlA
    obtain ⟨cA0, cA1, cA2, cA3, cAf, cAz⟩ := blk4 ZA_8.out
    obtain ⟨cM0, cM1, cM2, cM3, cMf, cMz⟩ := blk4 ZM_8.out
    obtain ⟨cN0, cN1, cN2, cN3, cNf, cNz⟩ := blk4 ZN_8.out
    go_wp2_with fail
    refine (implIdentity_any n _ hn1 hn7).mono ?_
    rintro e w9 ⟨uI, rfl, ho, hb⟩
    have hoi := ho.ints
    clear ho
    have bl9 : Below w8.heap.size w8 w9 := hb
    have sz9 : w8.heap.size ≤ w9.heap.size := hb.size
    have B_9 := Lib.hid (B_8.out.trans (bl9.mono B_8.out.size))
    have ZA_9 := Lib.hid (blk_later ZA_8.out bl9)
    have ZM_9 := Lib.hid (blk_later ZM_8.out bl9)
    have ZN_9 := Lib.hid (blk_later ZN_8.out bl9)
    have IA_9 := Lib.hid (IA_8.out.below bl9)
    have IM_9 := Lib.hid (IM_8.out.below bl9)
    have IN_9 := Lib.hid (IN_8.out.below bl9)
    have IR_9 := Lib.hid (IR_8.out.below bl9)
    have IV_9 := Lib.hid (IV_8.out.below bl9)
    have IW_9 := Lib.hid (IW_8.out.below bl9)
    clear hb bl9 ZA_8 ZM_8 ZN_8 IA_8 IM_8 IN_8 IR_8 IV_8 IW_8 B_8
    clear cA0 cA1 cA2 cA3 cAf cAz cM0 cM1 cM2 cM3 cMf cMz cN0 cN1 cN2 cN3 cNf cNz
    have IU_9 := Lib.hid (hoi)
    clear hoi
    obtain ⟨cA0, cA1, cA2, cA3, cAf, cAz⟩ := blk4 ZA_9.out
    obtain ⟨cM0, cM1, cM2, cM3, cMf, cMz⟩ := blk4 ZM_9.out
    obtain ⟨cN0, cN1, cN2, cN3, cNf, cNz⟩ := blk4 ZN_9.out
    go_wp2_with fail
    refine (lawInts_any _ _ DR (idL n) _ IR_9.out IU_9.out).mono ?_
    rintro e w10 ⟨rfl, hq⟩
    have hb := hq.below w9.heap.size
    clear hq
    rw [show decide (DR = idL n) = true from by rw [HR.out]; simp]
    have bl10 : Below w9.heap.size w9 w10 := hb
    have sz10 : w9.heap.size ≤ w10.heap.size := hb.size
    have B_10 := Lib.hid (B_9.out.trans (bl10.mono B_9.out.size))
    have ZA_10 := Lib.hid (blk_later ZA_9.out bl10)
    have ZM_10 := Lib.hid (blk_later ZM_9.out bl10)
    have ZN_10 := Lib.hid (blk_later ZN_9.out bl10)
    have IA_10 := Lib.hid (IA_9.out.below bl10)
    have IM_10 := Lib.hid (IM_9.out.below bl10)
    have IN_10 := Lib.hid (IN_9.out.below bl10)
    have IR_10 := Lib.hid (IR_9.out.below bl10)
    have IU_10 := Lib.hid (IU_9.out.below bl10)
    have IV_10 := Lib.hid (IV_9.out.below bl10)
    have IW_10 := Lib.hid (IW_9.out.below bl10)
    clear hb bl10 ZA_9 ZM_9 ZN_9 IA_9 IM_9 IN_9 IR_9 IU_9 IV_9 IW_9 B_9
    clear cA0 cA1 cA2 cA3 cAf cAz cM0 cM1 cM2 cM3 cMf cMz cN0 cN1 cN2 cN3 cNf cNz
    obtain ⟨cA0, cA1, cA2, cA3, cAf, cAz⟩ := blk4 ZA_10.out
    obtain ⟨cM0, cM1, cM2, cM3, cMf, cMz⟩ := blk4 ZM_10.out
    obtain ⟨cN0, cN1, cN2, cN3, cNf, cNz⟩ := blk4 ZN_10.out
    go_wp2_with fail
    have HlA2 := Lib.hid (show DA.length ≤ 1048576 by rw [HlA.out]; have : n * n ≤ 5 * 5 := Nat.mul_le_mul (by omega) (by omega); omega)
    have X1 := Lib.hid (AppIn.first (T := 3) IA_10.out)
    have X2 := Lib.hid (X1.out.alloc (.cells #[.int .i64 0, .int .i64 0, .int .i64 0, .slice none 0 0] 26))
    have X3 := Lib.hid (AppIn.after (T := 3) IA_10.out (.cells #[.int .i64 0, .int .i64 0, .int .i64 0, .slice none 0 0] 26))
    have Y2 := Lib.hid (show ((w10.alloc (.cells #[] 3)).drew.alloc (.cells #[.int .i64 0, .int .i64 0, .int .i64 0, .slice none 0 0] 26)).heap[w10.heap.size + 1]? = some (.cells #[.int .i64 0, .int .i64 0, .int .i64 0, .slice none 0 0] 26) from heap_alloc_at _ _ (by show w10.heap.size + 1 = (w10.alloc (.cells #[] 3)).heap.size; rw [size_alloc]))
    have Y3 := Lib.hid (show ((w10.alloc (.cells #[.int .i64 0, .int .i64 0, .int .i64 0, .slice none 0 0] 26)).alloc (.cells #[] 3)).drew.heap[w10.heap.size]? = some (.cells #[.int .i64 0, .int .i64 0, .int .i64 0, .slice none 0 0] 26) from (heap_alloc_low _ _ (by rw [size_alloc]; omega)).trans (heap_alloc_top w10 _))
    go_cut [13] (fun s13 wc => CutBox 3 26 w10 wc ⟨P, (n : Int), (n : Int), DA⟩ s13)
    case first =>
      go_region_law (first | (refine step_append_A rfl (.tmp 75) (.tmp 77) 24 rfl 3 Try.underlying24 info_int w10.heap.size _ DA X1.out rfl rfl HlA2.out ?_; intro pK kK w' hown hbB hg'; obtain ⟨eA0, eA1, eA2, eA3, eAf, eAz⟩ := blk4 (blk_later ZA_10.out hbB)) | (refine step_append_A rfl (.tmp 75) (.tmp 77) 24 rfl 3 Try.underlying24 info_int w10.heap.size _ DA X2.out rfl rfl HlA2.out ?_; intro pK kK w' hown hbB hg'; obtain ⟨eA0, eA1, eA2, eA3, eAf, eAz⟩ := blk4 (blk_later ZA_10.out hbB); have hbx := (hg'.block (w10.heap.size + 1) (blk_lt Y2.out) (fun e => absurd (Option.some.inj e) (by omega))).trans Y2.out; obtain ⟨gK0, gK1, gK2, gK3, gKf, gKz⟩ := blk4 hbx) | (refine step_append_A rfl (.tmp 75) (.tmp 77) 24 rfl 3 Try.underlying24 info_int (w10.heap.size + 1) _ DA X3.out rfl rfl HlA2.out ?_; intro pK kK w' hown hbB hg'; obtain ⟨eA0, eA1, eA2, eA3, eAf, eAz⟩ := blk4 (blk_later ZA_10.out hbB); have hbx := (hg'.block w10.heap.size (blk_lt Y3.out) (fun e => absurd (Option.some.inj e) (by omega))).trans Y3.out; obtain ⟨gK0, gK1, gK2, gK3, gKf, gKz⟩ := blk4 hbx))
      all_goals go_wp2_with fail
      all_goals go_meet
      all_goals first
        | (with_reducible refine cutBox_alloc (M := ⟨_, _, _, _⟩) hbB hown ?_; exact Nat.le_refl _)
        | (with_reducible refine cutBox_set2 (M := ⟨_, _, _, _⟩) hbB hbx hown ?_ ?_ ?_ <;> first | omega | decide)
    case rest =>
      obtain ⟨qK, pK, kK, loK, hiK, rfl, hq1, hblk, hown, hq2, hq3, hq4, hq5, hb3⟩ := hcut
      dsimp only at hblk hown
      obtain ⟨wk, rfl⟩ : ∃ x : World, x = wc := ⟨_, rfl⟩
      have ZKk := Lib.hid hblk
      have hof := hown.fn
      have hL0 : 0 < DA.length := by rw [HlA.out]; exact Nat.mul_pos hn1 hn1
      have HL6 := Lib.hid (show DA.length ≤ 1000000 by rw [HlA.out]; have : n * n ≤ 5 * 5 := Nat.mul_le_mul (by omega) (by omega); omega)
      obtain ⟨g, rfl, hg1, hg2, hg3⟩ := hof.at_ hL0
      have Hown := Lib.hid hown
      have HbK := Lib.hid hb3
      have Hq2 := Lib.hid hq2
      have ZAk := Lib.hid (blk_later ZA_10.out hb3)
      have Hstart := Lib.hid (AddUp.start (P := P) HlA.out)
      clear hblk hown hof hb3 hq2 cA0 cA1 cA2 cA3 cAf cM0 cM1 cM2 cM3 cMf cN0 cN1 cN2 cN3 cNf X1 X2 X3 Y2 Y3
      go_wp2_with fail
      go_loopg [14] (n - 1) (fun gg s14 wr => ∃ (i : Nat) (D' : List Int), 1 ≤ i ∧ i ≤ n ∧ gg = n - i ∧ s14 = .int .i64 i ∧ Frm loK hiK wk wr ∧ Hid (OwnI 3 wr loK hiK (.slice (some ⟨g, 0, none⟩) DA.length kK) D') ∧ Hid (AddUp P n DA D' i))
      case atStart => exact ⟨1, DA, Nat.le_refl _, hn1, rfl, rfl, Frm.refl _ _ _, Hown.out, Hstart.out⟩
      case round =>
        obtain ⟨i, D', hi1, hin, rfl, rfl, hF, hO, hU⟩ := hrel
        have HF := Lib.hid hF
        have HO := Lib.hid hO.out
        have HU := Lib.hid hU.out
        clear hF hO hU
        by_cases hlt : i < n
        · have hlt2 : (i : Int) < (n : Int) := by omega
          go_wp2_with fail
          refine (at0_any _ l i _ (Hh.out.below (B_10.out.trans ((HbK.out.mono B_10.out.size).trans (HF.out.below (by have := B_10.out.size; omega) (by have := B_10.out.size; have := HbK.out.size; omega))))) hl2 (by omega)).mono ?_
          rintro e w' ⟨x, rfl, hx, rfl⟩
          obtain ⟨j, hj⟩ : ∃ j, j = x % i := ⟨_, rfl⟩
          have hji : j < i := by rw [hj]; exact Nat.mod_lt _ (by omega)
          have hjn : j < n := by omega
          have hm1 : (x : Int) % (i : Int) = (j : Int) := by rw [hj]; rfl
          have hm2 : (x : Int).tmod (i : Int) = (j : Int) := by rw [Int.tmod_eq_emod_of_nonneg (by omega)]; exact hm1
          have hi0 : ¬ (i : Int) = 0 := by omega
          clear hj
          go_wp2_with fail
          clear hm1 hm2
          go_loopg [16] n (fun gg s16 wr => ∃ (k : Nat) (D1 : List Int), k ≤ n ∧ gg = n - k ∧ s16 = .int .i64 k ∧ Frm loK hiK wk wr ∧ Hid (OwnI 3 wr loK hiK (.slice (some ⟨g, 0, none⟩) DA.length kK) D1) ∧ Hid (AddIn P n D' D1 i j k) ∧ Hid (∀ r c, r < n → c < n → 0 ≤ D1.getD (r * n + c) 0 ∧ D1.getD (r * n + c) 0 < P))
          case atStart => exact ⟨0, D', Nat.zero_le _, rfl, rfl, HF.out, HO.out, AddIn.start HU.out.1, HU.out.rng hP2 Hrng.out⟩
          case round =>
            obtain ⟨k, D1, hkn, rfl, rfl, hF, hO1, hA1, hR1⟩ := hrel
            have HF1 := Lib.hid hF
            have HO1 := Lib.hid hO1.out
            have HA1 := Lib.hid hA1.out
            have HR1 := Lib.hid hR1.out
            clear hF hO1 hA1 hR1
            by_cases hkl : k < n
            · have hkl2 : (k : Int) < (n : Int) := by omega
              obtain ⟨Ka, HKa, Hkra, Hkka, hKal⟩ := mul_row HlA.out HL6.out hlt hkl
              obtain ⟨Ha1, Ha2, ha0, ha1, ha2⟩ := idx_facts hKal HL6.out
              obtain ⟨Kb, HKb, Hkrb, Hkkb, hKbl⟩ := mul_row HlA.out HL6.out hjn hkl
              obtain ⟨Hb1, Hb2, hb0, hb1, hb2⟩ := idx_facts hKbl HL6.out
              have HlD := Lib.hid (show D1.length = DA.length by rw [HA1.out.1, HlA.out])
              have hof := HO1.out.fn
              rw [HlD.out] at hof
              have e1 := hof.cell hKal
              have e2 := hof.cell hKbl
              have e3 := hof.frozen (Ka + k)
              unfold iv at e1 e2
              obtain ⟨z1, hz1⟩ : ∃ z, z = D1.getD (Ka + k) 0 := ⟨_, rfl⟩
              obtain ⟨z2, hz2⟩ : ∃ z, z = D1.getD (Kb + k) 0 := ⟨_, rfl⟩
              rw [← hz1] at e1
              rw [← hz2] at e2
              have r1 := HR1.out i k hlt hkl
              rw [← HKa.out, ← hz1] at r1
              have r2 := HR1.out j k hjn hkl
              rw [← HKb.out, ← hz2] at r2
              have hp0 : ¬ P = 0 := by omega
              have Hz1 := Lib.hid hz1
              have Hz2 := Lib.hid hz2
              have Hs := Lib.hid (show IntKind.i64.wrap (z1 + z2) = z1 + z2 from k64 (by omega) (by omega))
              have Ht := Lib.hid (show (z1 + z2).tmod P = (z1 + z2) % P from Int.tmod_eq_emod_of_nonneg (by omega))
              obtain ⟨a0, a1, a2, a3, af, az⟩ := blk4 (HF1.out.blk ZAk.out (Or.inl (by omega)))
              obtain ⟨q0, q1, q2, q3, qf, qz⟩ := blk4 (HF1.out.blk ZKk.out Hq2.out)
              clear hz1 hz2 hof
              go_wp2_with fail
              have f1 := Hkra.out
              have f2 := Hkka.out
              have f3 := Hkrb.out
              have f4 := Hkkb.out
              have f5 := Ha1.out
              have f6 := Ha2.out
              have f7 := Hb1.out
              have f8 := Hb2.out
              have f9 := Hs.out
              have f10 := Ht.out
              go_still_tail 30, (by kernel_rfl)
              change wpList _ _ _ _ _ wr.drew
              clear f1 f2 f3 f4 f5 f6 f7 f8 f9 f10
              go_wp2_with fail
              clear a0 a1 a2 a3 af az q0 q1 q2 q3 qf qz e1 e2 e3
              go_roundg (n - (k + 1))
              case measure => omega
              case rel =>
                have hst := HA1.out.step hlt hji hkl
                rw [← HKa.out, ← HKb.out, ← Hz1.out, ← Hz2.out] at hst
                refine ⟨k + 1, _, by omega, rfl, by go_num, (HF1.out.drewN 1).setCell hg1 hg2 _, ?_, hst, ?_⟩
                · exact OwnI.setAt (Own.drewN HO1.out 1) (by rw [HlD.out]; exact hKal) _
                · intro r c hr hc
                  by_cases e : r * n + c = Ka + k
                  · have hb : Ka + k < D1.length := by rw [HlD.out]; exact hKal
                    rw [e]
                    simp only [List.getD_eq_getElem?_getD, List.getElem?_set_self hb, Option.getD_some]
                    exact emod_rng hP2 _
                  · have : (D1.set (Ka + k) ((z1 + z2) % P)).getD (r * n + c) 0 = D1.getD (r * n + c) 0 := by
                      simp only [List.getD_eq_getElem?_getD]; rw [List.getElem?_set_ne (fun h => e h.symm)]
                    rw [this]
                    exact HR1.out r c hr hc
            · obtain rfl : k = n := by omega
              have hkl2 : ¬ (k : Int) < (k : Int) := by omega
              have Hd := Lib.hid (AddIn.done HU.out HA1.out hi1 hlt hji)
              go_wp2_with fail
              go_roundg (k - (i + 1))
              case measure => omega
              case rel => exact ⟨i + 1, D1, by omega, by omega, rfl, by go_num, HF1.out, HO1.out, Hd.out⟩
        · obtain rfl : i = n := by omega
          have hlt2 : ¬ (i : Int) < (i : Int) := by omega
          obtain ⟨w11, rfl⟩ : ∃ x : World, x = wr := ⟨_, rfl⟩
          have hb : Below w10.heap.size w10 w11 := HbK.out.trans (HF.out.below (by omega) HbK.out.size)
          obtain ⟨DK, rfl⟩ : ∃ x : List Int, x = D' := ⟨_, rfl⟩
          have HlK := Lib.hid (show DA.length = DK.length by rw [HU.out.1, HlA.out])
          have zk := HF.out.blk ZKk.out Hq2.out
          rw [HlK.out] at zk
          have ZK_11 := Lib.hid zk
          have hoi := HO.out.ints
          rw [HlK.out] at hoi
          have IK_11 := Lib.hid hoi
          have HsK := Lib.hid (HU.out.fl HsA.out)
          clear zk hoi
          have bl11 : Below w10.heap.size w10 w11 := hb
          have sz11 : w10.heap.size ≤ w11.heap.size := hb.size
          have B_11 := Lib.hid (B_10.out.trans (bl11.mono B_10.out.size))
          have ZA_11 := Lib.hid (blk_later ZA_10.out bl11)
          have ZM_11 := Lib.hid (blk_later ZM_10.out bl11)
          have ZN_11 := Lib.hid (blk_later ZN_10.out bl11)
          have IA_11 := Lib.hid (IA_10.out.below bl11)
          have IM_11 := Lib.hid (IM_10.out.below bl11)
          have IN_11 := Lib.hid (IN_10.out.below bl11)
          have IR_11 := Lib.hid (IR_10.out.below bl11)
          have IU_11 := Lib.hid (IU_10.out.below bl11)
          have IV_11 := Lib.hid (IV_10.out.below bl11)
          have IW_11 := Lib.hid (IW_10.out.below bl11)
          clear hb bl11 ZA_10 ZM_10 ZN_10 IA_10 IM_10 IN_10 IR_10 IU_10 IV_10 IW_10 B_10
          obtain ⟨pK, hpK⟩ : ∃ x : Option Addr, x = some ⟨g, 0, none⟩ := ⟨_, rfl⟩
          rw [← hpK] at ZK_11 IK_11
          clear hpK
          clear HF HO HbK Hown ZAk ZKk HlK
          obtain ⟨cA0, cA1, cA2, cA3, cAf, cAz⟩ := blk4 ZA_11.out
          obtain ⟨cM0, cM1, cM2, cM3, cMf, cMz⟩ := blk4 ZM_11.out
          obtain ⟨cN0, cN1, cN2, cN3, cNf, cNz⟩ := blk4 ZN_11.out
          obtain ⟨cK0, cK1, cK2, cK3, cKf, cKz⟩ := blk4 ZK_11.out
          go_wp2_with fail
          refine (norm1 P i _ DK _ HsK.out IK_11.out).mono ?_
          rintro e w12 ⟨pX, kX, DX, rfl, ho, hb, hr⟩
          have hoi := ho.ints
          clear ho
          obtain rfl := (HN.out.added HU.out hr).symm
          clear hr
          have bl12 : Below w11.heap.size w11 w12 := hb
          have sz12 : w11.heap.size ≤ w12.heap.size := hb.size
          have B_12 := Lib.hid (B_11.out.trans (bl12.mono B_11.out.size))
          have ZA_12 := Lib.hid (blk_later ZA_11.out bl12)
          have ZM_12 := Lib.hid (blk_later ZM_11.out bl12)
          have ZN_12 := Lib.hid (blk_later ZN_11.out bl12)
          have ZK_12 := Lib.hid (blk_later ZK_11.out bl12)
          have IA_12 := Lib.hid (IA_11.out.below bl12)
          have IK_12 := Lib.hid (IK_11.out.below bl12)
          have IM_12 := Lib.hid (IM_11.out.below bl12)
          have IN_12 := Lib.hid (IN_11.out.below bl12)
          have IR_12 := Lib.hid (IR_11.out.below bl12)
          have IU_12 := Lib.hid (IU_11.out.below bl12)
          have IV_12 := Lib.hid (IV_11.out.below bl12)
          have IW_12 := Lib.hid (IW_11.out.below bl12)
          clear hb bl12 ZA_11 ZM_11 ZN_11 ZK_11 IA_11 IK_11 IM_11 IN_11 IR_11 IU_11 IV_11 IW_11 B_11
          clear cA0 cA1 cA2 cA3 cAf cAz cM0 cM1 cM2 cM3 cMf cMz cN0 cN1 cN2 cN3 cNf cNz cK0 cK1 cK2 cK3 cKf cKz
          have IX_12 := Lib.hid hoi
          clear hoi
          have Hmm := Lib.hid HN.out.pm
          obtain ⟨DQ, hpm, hflQ, hfpQ⟩ := Hmm.out
          have Hpm := Lib.hid hpm
          have HflQ := Lib.hid hflQ
          have HfpQ := Lib.hid hfpQ
          clear hpm hflQ hfpQ
          obtain ⟨cA0, cA1, cA2, cA3, cAf, cAz⟩ := blk4 ZA_12.out
          obtain ⟨cM0, cM1, cM2, cM3, cMf, cMz⟩ := blk4 ZM_12.out
          obtain ⟨cN0, cN1, cN2, cN3, cNf, cNz⟩ := blk4 ZN_12.out
          obtain ⟨cK0, cK1, cK2, cK3, cKf, cKz⟩ := blk4 ZK_12.out
          go_wp2_with fail
          refine (pm1 P _ DW i DQ _ (IW_12.out.below (below_alloc w12 (.cells #[.int .i64 P, .int .i64 (i : Int), .int .i64 (i : Int), .slice pX DM.length kX] 26))) Hpm.out).mono ?_
          rintro e w13 ⟨pQ, kQ, rfl, ho, hb⟩
          have hoi := ho.ints
          clear ho
          have bl13 : Below w12.heap.size w12 w13 := (below_alloc w12 (.cells #[.int .i64 P, .int .i64 (i : Int), .int .i64 (i : Int), .slice pX DM.length kX] 26)).trans (hb.mono (by first | (simp; done) | (simp; omega)))
          have sz13 : w12.heap.size + 1 ≤ w13.heap.size := by have := hb.size; simp at this; omega
          have B_13 := Lib.hid (B_12.out.trans (bl13.mono B_12.out.size))
          have ZA_13 := Lib.hid (blk_later ZA_12.out bl13)
          have ZM_13 := Lib.hid (blk_later ZM_12.out bl13)
          have ZN_13 := Lib.hid (blk_later ZN_12.out bl13)
          have ZK_13 := Lib.hid (blk_later ZK_12.out bl13)
          have ZX_13 := Lib.hid ((hb.block _ (by simp)).trans (heap_alloc_top w12 (.cells #[.int .i64 P, .int .i64 (i : Int), .int .i64 (i : Int), .slice pX DM.length kX] 26)))
          have IA_13 := Lib.hid (IA_12.out.below bl13)
          have IK_13 := Lib.hid (IK_12.out.below bl13)
          have IM_13 := Lib.hid (IM_12.out.below bl13)
          have IN_13 := Lib.hid (IN_12.out.below bl13)
          have IR_13 := Lib.hid (IR_12.out.below bl13)
          have IU_13 := Lib.hid (IU_12.out.below bl13)
          have IV_13 := Lib.hid (IV_12.out.below bl13)
          have IW_13 := Lib.hid (IW_12.out.below bl13)
          have IX_13 := Lib.hid (IX_12.out.below bl13)
          clear hb bl13 ZA_12 ZM_12 ZN_12 ZK_12 IA_12 IK_12 IM_12 IN_12 IR_12 IU_12 IV_12 IW_12 IX_12 B_12
          clear cA0 cA1 cA2 cA3 cAf cAz cM0 cM1 cM2 cM3 cMf cMz cN0 cN1 cN2 cN3 cNf cNz cK0 cK1 cK2 cK3 cKf cKz
          have IQ_13 := Lib.hid (hoi)
          clear hoi
          obtain ⟨cA0, cA1, cA2, cA3, cAf, cAz⟩ := blk4 ZA_13.out
          obtain ⟨cM0, cM1, cM2, cM3, cMf, cMz⟩ := blk4 ZM_13.out
          obtain ⟨cN0, cN1, cN2, cN3, cNf, cNz⟩ := blk4 ZN_13.out
          obtain ⟨cK0, cK1, cK2, cK3, cKf, cKz⟩ := blk4 ZK_13.out
          obtain ⟨cX0, cX1, cX2, cX3, cXf, cXz⟩ := blk4 ZX_13.out
          go_wp2_with fail
          refine (lawMatrices_any _ _ _ _ _ _ _ _ DM DM _ (IX_13.out.below (below_alloc w13 (.cells #[.int .i64 P, .int .i64 (i : Int), .int .i64 (i : Int), .slice pQ DQ.length kQ] 26))) (IM_13.out.below (below_alloc w13 (.cells #[.int .i64 P, .int .i64 (i : Int), .int .i64 (i : Int), .slice pQ DQ.length kQ] 26)))).mono ?_
          rintro e w14 ⟨rfl, hb⟩
          rw [show mxSame P i i DM P i i DM = true from by simp [mxSame]]
          have bl14 : Below w13.heap.size w13 w14 := (below_alloc w13 (.cells #[.int .i64 P, .int .i64 (i : Int), .int .i64 (i : Int), .slice pQ DQ.length kQ] 26)).trans (hb.mono (by first | (simp; done) | (simp; omega)))
          have sz14 : w13.heap.size + 1 ≤ w14.heap.size := by have := hb.size; simp at this; omega
          have B_14 := Lib.hid (B_13.out.trans (bl14.mono B_13.out.size))
          have ZA_14 := Lib.hid (blk_later ZA_13.out bl14)
          have ZM_14 := Lib.hid (blk_later ZM_13.out bl14)
          have ZN_14 := Lib.hid (blk_later ZN_13.out bl14)
          have ZK_14 := Lib.hid (blk_later ZK_13.out bl14)
          have ZX_14 := Lib.hid (blk_later ZX_13.out bl14)
          have ZQ_14 := Lib.hid ((hb.block _ (by simp)).trans (heap_alloc_top w13 (.cells #[.int .i64 P, .int .i64 (i : Int), .int .i64 (i : Int), .slice pQ DQ.length kQ] 26)))
          have IA_14 := Lib.hid (IA_13.out.below bl14)
          have IK_14 := Lib.hid (IK_13.out.below bl14)
          have IM_14 := Lib.hid (IM_13.out.below bl14)
          have IN_14 := Lib.hid (IN_13.out.below bl14)
          have IQ_14 := Lib.hid (IQ_13.out.below bl14)
          have IR_14 := Lib.hid (IR_13.out.below bl14)
          have IU_14 := Lib.hid (IU_13.out.below bl14)
          have IV_14 := Lib.hid (IV_13.out.below bl14)
          have IW_14 := Lib.hid (IW_13.out.below bl14)
          have IX_14 := Lib.hid (IX_13.out.below bl14)
          clear hb bl14 ZA_13 ZM_13 ZN_13 ZK_13 ZX_13 IA_13 IK_13 IM_13 IN_13 IQ_13 IR_13 IU_13 IV_13 IW_13 IX_13 B_13
          clear cA0 cA1 cA2 cA3 cAf cAz cM0 cM1 cM2 cM3 cMf cMz cN0 cN1 cN2 cN3 cNf cNz cK0 cK1 cK2 cK3 cKf cKz cX0 cX1 cX2 cX3 cXf cXz
          obtain ⟨cA0, cA1, cA2, cA3, cAf, cAz⟩ := blk4 ZA_14.out
          obtain ⟨cM0, cM1, cM2, cM3, cMf, cMz⟩ := blk4 ZM_14.out
          obtain ⟨cN0, cN1, cN2, cN3, cNf, cNz⟩ := blk4 ZN_14.out
          obtain ⟨cK0, cK1, cK2, cK3, cKf, cKz⟩ := blk4 ZK_14.out
          obtain ⟨cX0, cX1, cX2, cX3, cXf, cXz⟩ := blk4 ZX_14.out
          obtain ⟨cQ0, cQ1, cQ2, cQ3, cQf, cQz⟩ := blk4 ZQ_14.out
          go_wp2_with fail
          refine (fp1 P i _ DQ _ HflQ.out IQ_14.out).mono ?_
          rintro e w15 ⟨pY, kY, DY, rfl, ho, hb, hr⟩
          have hoi := ho.ints
          clear ho
          obtain rfl := (HfpQ.out _ hr).symm
          clear hr
          have bl15 : Below w14.heap.size w14 w15 := hb
          have sz15 : w14.heap.size ≤ w15.heap.size := hb.size
          have B_15 := Lib.hid (B_14.out.trans (bl15.mono B_14.out.size))
          have ZA_15 := Lib.hid (blk_later ZA_14.out bl15)
          have ZM_15 := Lib.hid (blk_later ZM_14.out bl15)
          have ZN_15 := Lib.hid (blk_later ZN_14.out bl15)
          have ZK_15 := Lib.hid (blk_later ZK_14.out bl15)
          have ZX_15 := Lib.hid (blk_later ZX_14.out bl15)
          have ZQ_15 := Lib.hid (blk_later ZQ_14.out bl15)
          have IA_15 := Lib.hid (IA_14.out.below bl15)
          have IK_15 := Lib.hid (IK_14.out.below bl15)
          have IM_15 := Lib.hid (IM_14.out.below bl15)
          have IN_15 := Lib.hid (IN_14.out.below bl15)
          have IQ_15 := Lib.hid (IQ_14.out.below bl15)
          have IR_15 := Lib.hid (IR_14.out.below bl15)
          have IU_15 := Lib.hid (IU_14.out.below bl15)
          have IV_15 := Lib.hid (IV_14.out.below bl15)
          have IW_15 := Lib.hid (IW_14.out.below bl15)
          have IX_15 := Lib.hid (IX_14.out.below bl15)
          clear hb bl15 ZA_14 ZM_14 ZN_14 ZK_14 ZX_14 ZQ_14 IA_14 IK_14 IM_14 IN_14 IQ_14 IR_14 IU_14 IV_14 IW_14 IX_14 B_14
          clear cA0 cA1 cA2 cA3 cAf cAz cM0 cM1 cM2 cM3 cMf cMz cN0 cN1 cN2 cN3 cNf cNz cK0 cK1 cK2 cK3 cKf cKz cX0 cX1 cX2 cX3 cXf cXz cQ0 cQ1 cQ2 cQ3 cQf cQz
          have IY_15 := Lib.hid (hoi)
          clear hoi
          obtain ⟨cA0, cA1, cA2, cA3, cAf, cAz⟩ := blk4 ZA_15.out
          obtain ⟨cM0, cM1, cM2, cM3, cMf, cMz⟩ := blk4 ZM_15.out
          obtain ⟨cN0, cN1, cN2, cN3, cNf, cNz⟩ := blk4 ZN_15.out
          obtain ⟨cK0, cK1, cK2, cK3, cKf, cKz⟩ := blk4 ZK_15.out
          obtain ⟨cX0, cX1, cX2, cX3, cXf, cXz⟩ := blk4 ZX_15.out
          obtain ⟨cQ0, cQ1, cQ2, cQ3, cQf, cQz⟩ := blk4 ZQ_15.out
          go_wp2_with fail
          refine (lawInts_any _ _ DW DW _ IY_15.out IW_15.out).mono ?_
          rintro e w16 ⟨rfl, hq⟩
          have hb := hq.below w15.heap.size
          clear hq
          rw [show decide (DW = DW) = true from by simp]
          have bl16 : Below w15.heap.size w15 w16 := hb
          have sz16 : w15.heap.size ≤ w16.heap.size := hb.size
          have B_16 := Lib.hid (B_15.out.trans (bl16.mono B_15.out.size))
          have ZA_16 := Lib.hid (blk_later ZA_15.out bl16)
          have ZM_16 := Lib.hid (blk_later ZM_15.out bl16)
          have ZN_16 := Lib.hid (blk_later ZN_15.out bl16)
          have ZK_16 := Lib.hid (blk_later ZK_15.out bl16)
          have ZX_16 := Lib.hid (blk_later ZX_15.out bl16)
          have ZQ_16 := Lib.hid (blk_later ZQ_15.out bl16)
          have IA_16 := Lib.hid (IA_15.out.below bl16)
          have IK_16 := Lib.hid (IK_15.out.below bl16)
          have IM_16 := Lib.hid (IM_15.out.below bl16)
          have IN_16 := Lib.hid (IN_15.out.below bl16)
          have IQ_16 := Lib.hid (IQ_15.out.below bl16)
          have IR_16 := Lib.hid (IR_15.out.below bl16)
          have IU_16 := Lib.hid (IU_15.out.below bl16)
          have IV_16 := Lib.hid (IV_15.out.below bl16)
          have IW_16 := Lib.hid (IW_15.out.below bl16)
          have IX_16 := Lib.hid (IX_15.out.below bl16)
          have IY_16 := Lib.hid (IY_15.out.below bl16)
          clear hb bl16 ZA_15 ZM_15 ZN_15 ZK_15 ZX_15 ZQ_15 IA_15 IK_15 IM_15 IN_15 IQ_15 IR_15 IU_15 IV_15 IW_15 IX_15 IY_15 B_15
          clear cA0 cA1 cA2 cA3 cAf cAz cM0 cM1 cM2 cM3 cMf cMz cN0 cN1 cN2 cN3 cNf cNz cK0 cK1 cK2 cK3 cKf cKz cX0 cX1 cX2 cX3 cXf cXz cQ0 cQ1 cQ2 cQ3 cQf cQz
          obtain ⟨cA0, cA1, cA2, cA3, cAf, cAz⟩ := blk4 ZA_16.out
          obtain ⟨cM0, cM1, cM2, cM3, cMf, cMz⟩ := blk4 ZM_16.out
          obtain ⟨cN0, cN1, cN2, cN3, cNf, cNz⟩ := blk4 ZN_16.out
          obtain ⟨cK0, cK1, cK2, cK3, cKf, cKz⟩ := blk4 ZK_16.out
          obtain ⟨cX0, cX1, cX2, cX3, cXf, cXz⟩ := blk4 ZX_16.out
          obtain ⟨cQ0, cQ1, cQ2, cQ3, cQf, cQz⟩ := blk4 ZQ_16.out
          go_wp2_with fail
          refine (fok1 P i _ DQ _ HflQ.out IQ_16.out).mono ?_
          rintro e w17 ⟨rfl, hb⟩
          have bl17 : Below w16.heap.size w16 w17 := hb
          have sz17 : w16.heap.size ≤ w17.heap.size := hb.size
          have B_17 := Lib.hid (B_16.out.trans (bl17.mono B_16.out.size))
          have ZA_17 := Lib.hid (blk_later ZA_16.out bl17)
          have ZM_17 := Lib.hid (blk_later ZM_16.out bl17)
          have ZN_17 := Lib.hid (blk_later ZN_16.out bl17)
          have ZK_17 := Lib.hid (blk_later ZK_16.out bl17)
          have ZX_17 := Lib.hid (blk_later ZX_16.out bl17)
          have ZQ_17 := Lib.hid (blk_later ZQ_16.out bl17)
          have IA_17 := Lib.hid (IA_16.out.below bl17)
          have IK_17 := Lib.hid (IK_16.out.below bl17)
          have IM_17 := Lib.hid (IM_16.out.below bl17)
          have IN_17 := Lib.hid (IN_16.out.below bl17)
          have IQ_17 := Lib.hid (IQ_16.out.below bl17)
          have IR_17 := Lib.hid (IR_16.out.below bl17)
          have IU_17 := Lib.hid (IU_16.out.below bl17)
          have IV_17 := Lib.hid (IV_16.out.below bl17)
          have IW_17 := Lib.hid (IW_16.out.below bl17)
          have IX_17 := Lib.hid (IX_16.out.below bl17)
          have IY_17 := Lib.hid (IY_16.out.below bl17)
          clear hb bl17 ZA_16 ZM_16 ZN_16 ZK_16 ZX_16 ZQ_16 IA_16 IK_16 IM_16 IN_16 IQ_16 IR_16 IU_16 IV_16 IW_16 IX_16 IY_16 B_16
          clear cA0 cA1 cA2 cA3 cAf cAz cM0 cM1 cM2 cM3 cMf cMz cN0 cN1 cN2 cN3 cNf cNz cK0 cK1 cK2 cK3 cKf cKz cX0 cX1 cX2 cX3 cXf cXz cQ0 cQ1 cQ2 cQ3 cQf cQz
          obtain ⟨cA0, cA1, cA2, cA3, cAf, cAz⟩ := blk4 ZA_17.out
          obtain ⟨cM0, cM1, cM2, cM3, cMf, cMz⟩ := blk4 ZM_17.out
          obtain ⟨cN0, cN1, cN2, cN3, cNf, cNz⟩ := blk4 ZN_17.out
          obtain ⟨cK0, cK1, cK2, cK3, cKf, cKz⟩ := blk4 ZK_17.out
          obtain ⟨cX0, cX1, cX2, cX3, cXf, cXz⟩ := blk4 ZX_17.out
          obtain ⟨cQ0, cQ1, cQ2, cQ3, cQf, cQz⟩ := blk4 ZQ_17.out
          go_wp2_with fail
          go_ret
          exact ⟨rfl, B_17.out⟩

end Go.Proofs.Ytmnlpkmnbjoicaa
