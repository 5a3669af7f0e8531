/-
  The law FnModular, walked.
-/
import Derived.Test.YtmnlpkmnbjoicaaTwoM
import Derived.Test.YtmnlpkmnbjoicaaDraw3
import Derived.Test.YtmnlpkmnbjoicaaLawT
import Derived.Test.YtmnlpkmnbjoicaaHeld2
namespace Go.Proofs.Ytmnlpkmnbjoicaa
set_option linter.all false
open Go.RowKit

theorem keep28 {wr W W' : World} {a0 a1 a2 a3 a4 a5 a6 a7 a8 a9 a10 a11 a12 a13 a14 a15 a16 a17 a18 a19 a20 a21 a22 a23 a24 a25 a26 a27 : Addr} {v0 v1 v2 v3 v4 v5 v6 v7 v8 v9 v10 v11 v12 v13 v14 v15 v16 v17 v18 v19 v20 v21 v22 v23 v24 v25 v26 v27 : Value} (hb : Below W.heap.size W W') (h : (W.cell? a0 = some v0 ∧ W.cell? a1 = some v1 ∧ W.cell? a2 = some v2 ∧ W.cell? a3 = some v3 ∧ W.cell? a4 = some v4 ∧ W.cell? a5 = some v5 ∧ W.cell? a6 = some v6 ∧ W.cell? a7 = some v7 ∧ W.cell? a8 = some v8 ∧ W.cell? a9 = some v9 ∧ W.cell? a10 = some v10 ∧ W.cell? a11 = some v11 ∧ W.cell? a12 = some v12 ∧ W.cell? a13 = some v13 ∧ W.cell? a14 = some v14 ∧ W.cell? a15 = some v15 ∧ W.cell? a16 = some v16 ∧ W.cell? a17 = some v17 ∧ W.cell? a18 = some v18 ∧ W.cell? a19 = some v19 ∧ W.cell? a20 = some v20 ∧ W.cell? a21 = some v21 ∧ W.cell? a22 = some v22 ∧ W.cell? a23 = some v23 ∧ W.cell? a24 = some v24 ∧ W.cell? a25 = some v25 ∧ W.cell? a26 = some v26 ∧ W.cell? a27 = some v27) ∧ Below wr.heap.size wr W) : (W'.cell? a0 = some v0 ∧ W'.cell? a1 = some v1 ∧ W'.cell? a2 = some v2 ∧ W'.cell? a3 = some v3 ∧ W'.cell? a4 = some v4 ∧ W'.cell? a5 = some v5 ∧ W'.cell? a6 = some v6 ∧ W'.cell? a7 = some v7 ∧ W'.cell? a8 = some v8 ∧ W'.cell? a9 = some v9 ∧ W'.cell? a10 = some v10 ∧ W'.cell? a11 = some v11 ∧ W'.cell? a12 = some v12 ∧ W'.cell? a13 = some v13 ∧ W'.cell? a14 = some v14 ∧ W'.cell? a15 = some v15 ∧ W'.cell? a16 = some v16 ∧ W'.cell? a17 = some v17 ∧ W'.cell? a18 = some v18 ∧ W'.cell? a19 = some v19 ∧ W'.cell? a20 = some v20 ∧ W'.cell? a21 = some v21 ∧ W'.cell? a22 = some v22 ∧ W'.cell? a23 = some v23 ∧ W'.cell? a24 = some v24 ∧ W'.cell? a25 = some v25 ∧ W'.cell? a26 = some v26 ∧ W'.cell? a27 = some v27) ∧ Below wr.heap.size wr W' := by
  obtain ⟨⟨h0, h1, h2, h3, h4, h5, h6, h7, h8, h9, h10, h11, h12, h13, h14, h15, h16, h17, h18, h19, h20, h21, h22, h23, h24, h25, h26, h27⟩, hB⟩ := h
  exact ⟨⟨cell_below hb h0, cell_below hb h1, cell_below hb h2, cell_below hb h3, cell_below hb h4, cell_below hb h5, cell_below hb h6, cell_below hb h7, cell_below hb h8, cell_below hb h9, cell_below hb h10, cell_below hb h11, cell_below hb h12, cell_below hb h13, cell_below hb h14, cell_below hb h15, cell_below hb h16, cell_below hb h17, cell_below hb h18, cell_below hb h19, cell_below hb h20, cell_below hb h21, cell_below hb h22, cell_below hb h23, cell_below hb h24, cell_below hb h25, cell_below hb h26, cell_below hb h27⟩, below_trans hB hb⟩

set_option maxRecDepth 100000 in
set_option maxHeartbeats 8000000 in
theorem lawFnModular (p : Option Addr) (l cap : Nat) (w : World) (hl : l ≤ maxLen) (h : Byts w (.slice p l cap) l) :
    Calls Try.prog 3 #[.slice p l cap] w fun e w' => e = .returned (.bool true) ∧ Below w.heap.size w w' := by
  have Hl := Lib.hid hl
  have Hh := Lib.hid h
  clear hl h
  go_enter Try.func3, Try.ntmps3
  go_wp2_with fail
  refine (big_any p l cap _ Hl.out).mono ?_
  rintro e w' ⟨rfl, rfl⟩
  by_cases hb : 1048576 < l
  · have e1 : decide (1048576 < l) = true := by simp [hb]
    rw [e1]
    go_wp2_with fail
    go_ret
    exact ⟨rfl, Below.refl _ _⟩
  · have e1 : decide (1048576 < l) = false := by simp [hb]
    rw [e1]
    clear e1 hb
    go_wp2_with fail
    refine (DrawTwoSpaces_any _ l _ Hh.out).mono ?_
    rintro e w1 ⟨P, c, ra, rb, ua, ub, DA, DB, rfl, hoA, hoB, hsA, hsB, hb1⟩
    have HsA := Lib.hid hsA
    have HsB := Lib.hid hsB
    obtain ⟨pA, kA, rfl, _, _⟩ := hoA.shape
    obtain ⟨pB, kB, rfl, _, _⟩ := hoB.shape
    clear hsA hsB
    have IA_1 := Lib.hid hoA.ints
    have IB_1 := Lib.hid hoB.ints
    have B_1 := Lib.hid hb1
    clear hoA hoB hb1
    go_wp2_with fail
    refine (sum2 P ra rb c _ _ DA DB _ HsA.out HsB.out (IA_1.out.below (below_alloc2 w1 (.cells #[.int .i64 P, .int .i64 ra, .int .i64 c, .slice pA DA.length kA] 26) (.cells #[.int .i64 P, .int .i64 rb, .int .i64 c, .slice pB DB.length kB] 26))) (IB_1.out.below (below_alloc2 w1 (.cells #[.int .i64 P, .int .i64 ra, .int .i64 c, .slice pA DA.length kA] 26) (.cells #[.int .i64 P, .int .i64 rb, .int .i64 c, .slice pB DB.length kB] 26)))).mono ?_
    rintro e w2 ⟨nS, pS, kS, DS, rfl, ho, hb, hr⟩
    have hoi := ho.ints
    clear ho
    have bl2 : Below w1.heap.size w1 w2 := (below_alloc2 w1 (.cells #[.int .i64 P, .int .i64 ra, .int .i64 c, .slice pA DA.length kA] 26) (.cells #[.int .i64 P, .int .i64 rb, .int .i64 c, .slice pB DB.length kB] 26)).trans (hb.mono (by first | (simp; done) | (simp; omega)))
    have sz2 : w1.heap.size + 2 ≤ w2.heap.size := by have := hb.size; simp at this; omega
    have B_2 := Lib.hid (B_1.out.trans (bl2.mono B_1.out.size))
    obtain ⟨z0, z1⟩ := boxes_ab w1 (.cells #[.int .i64 P, .int .i64 ra, .int .i64 c, .slice pA DA.length kA] 26) (.cells #[.int .i64 P, .int .i64 rb, .int .i64 c, .slice pB DB.length kB] 26)
    have ZA_2 := Lib.hid ((hb.block _ (by simp; omega)).trans z0)
    have ZB_2 := Lib.hid ((hb.block _ (by simp)).trans z1)
    clear z0 z1
    have IA_2 := Lib.hid (IA_1.out.below bl2)
    have IB_2 := Lib.hid (IB_1.out.below bl2)
    clear hb bl2 IA_1 IB_1 B_1
    have HrS := Lib.hid hr
    clear hr
    have IS_2 := Lib.hid (hoi)
    clear hoi
    obtain ⟨cA0, cA1, cA2, cA3, cAf, cAz⟩ := blk4 ZA_2.out
    obtain ⟨cB0, cB1, cB2, cB3, cBf, cBz⟩ := blk4 ZB_2.out
    go_wp2_with fail
    refine (meet2 P ra rb c _ _ DA DB _ HsA.out HsB.out (IA_2.out.below (below_alloc w2 (.cells #[.int .i64 P, .int .i64 nS, .int .i64 c, .slice pS DS.length kS] 26))) (IB_2.out.below (below_alloc w2 (.cells #[.int .i64 P, .int .i64 nS, .int .i64 c, .slice pS DS.length kS] 26)))).mono ?_
    rintro e w3 ⟨nM, pM, kM, DM, rfl, ho, hb, hr⟩
    have hoi := ho.ints
    clear ho
    have bl3 : Below w2.heap.size w2 w3 := (below_alloc w2 (.cells #[.int .i64 P, .int .i64 nS, .int .i64 c, .slice pS DS.length kS] 26)).trans (hb.mono (by first | (simp; done) | (simp; omega)))
    have sz3 : w2.heap.size + 1 ≤ w3.heap.size := by have := hb.size; simp at this; omega
    have B_3 := Lib.hid (B_2.out.trans (bl3.mono B_2.out.size))
    have ZA_3 := Lib.hid (blk_later ZA_2.out bl3)
    have ZB_3 := Lib.hid (blk_later ZB_2.out bl3)
    have ZS_3 := Lib.hid ((hb.block _ (by simp)).trans (heap_alloc_top w2 (.cells #[.int .i64 P, .int .i64 nS, .int .i64 c, .slice pS DS.length kS] 26)))
    have IS_3 := Lib.hid (IS_2.out.below bl3)
    have IA_3 := Lib.hid (IA_2.out.below bl3)
    have IB_3 := Lib.hid (IB_2.out.below bl3)
    clear hb bl3 ZA_2 ZB_2 IS_2 IA_2 IB_2 B_2
    clear cA0 cA1 cA2 cA3 cAf cAz cB0 cB1 cB2 cB3 cBf cBz
    obtain ⟨n1, n2, e1, e2, hsum, hsS, hsM, hx, hy, hz, hg⟩ := modular_law HsA.out HsB.out HrS.out hr
    injection e1 with _ e1 _ _
    obtain rfl : nS = n1 := Int.ofNat.inj e1
    injection e2 with _ e2 _ _
    obtain rfl : nM = n2 := Int.ofNat.inj e2
    dsimp only at hsS hsM hx hy hz hg
    have HsS := Lib.hid hsS
    have HsM := Lib.hid hsM
    have Hx := Lib.hid hx
    have Hy := Lib.hid hy
    have Hz := Lib.hid hz
    have Hg := Lib.hid hg
    have uS := IsSp.rows hsS
    have uM := IsSp.rows hsM
    have uA := IsSp.rows HsA.out
    have uB := IsSp.rows HsB.out
    have hsumI : (nS : Int) + (nM : Int) = (ra : Int) + (rb : Int) := by omega
    clear hsS hsM hx hy hz hg hr HrS hsum
    have IM_3 := Lib.hid (hoi)
    clear hoi
    obtain ⟨cA0, cA1, cA2, cA3, cAf, cAz⟩ := blk4 ZA_3.out
    obtain ⟨cB0, cB1, cB2, cB3, cBf, cBz⟩ := blk4 ZB_3.out
    obtain ⟨cS0, cS1, cS2, cS3, cSf, cSz⟩ := blk4 ZS_3.out
    go_wp2_with fail
    refine (implIsSpace_yes P nS c _ DS HsS.out _ (IS_3.out.below (below_alloc w3 (.cells #[.int .i64 P, .int .i64 nM, .int .i64 c, .slice pM DM.length kM] 26)))).mono ?_
    rintro e w4 ⟨rfl, hb⟩
    have bl4 : Below w3.heap.size w3 w4 := (below_alloc w3 (.cells #[.int .i64 P, .int .i64 nM, .int .i64 c, .slice pM DM.length kM] 26)).trans (hb.mono (by first | (simp; done) | (simp; omega)))
    have sz4 : w3.heap.size + 1 ≤ w4.heap.size := by have := hb.size; simp at this; omega
    have B_4 := Lib.hid (B_3.out.trans (bl4.mono B_3.out.size))
    have ZA_4 := Lib.hid (blk_later ZA_3.out bl4)
    have ZB_4 := Lib.hid (blk_later ZB_3.out bl4)
    have ZS_4 := Lib.hid (blk_later ZS_3.out bl4)
    have ZM_4 := Lib.hid ((hb.block _ (by simp)).trans (heap_alloc_top w3 (.cells #[.int .i64 P, .int .i64 nM, .int .i64 c, .slice pM DM.length kM] 26)))
    have IS_4 := Lib.hid (IS_3.out.below bl4)
    have IA_4 := Lib.hid (IA_3.out.below bl4)
    have IB_4 := Lib.hid (IB_3.out.below bl4)
    have IM_4 := Lib.hid (IM_3.out.below bl4)
    clear hb bl4 ZA_3 ZB_3 ZS_3 IS_3 IA_3 IB_3 IM_3 B_3
    clear cA0 cA1 cA2 cA3 cAf cAz cB0 cB1 cB2 cB3 cBf cBz cS0 cS1 cS2 cS3 cSf cSz
    obtain ⟨cM0, cM1, cM2, cM3, cMf, cMz⟩ := blk4 ZM_4.out
    go_wp2_with fail
    refine (implIsSpace_yes P nM c _ DM HsM.out _ IM_4.out).mono ?_
    rintro e w5 ⟨rfl, hb⟩
    have bl5 : Below w4.heap.size w4 w5 := hb
    have sz5 : w4.heap.size ≤ w5.heap.size := hb.size
    have B_5 := Lib.hid (B_4.out.trans (bl5.mono B_4.out.size))
    have ZA_5 := Lib.hid (blk_later ZA_4.out bl5)
    have ZB_5 := Lib.hid (blk_later ZB_4.out bl5)
    have ZS_5 := Lib.hid (blk_later ZS_4.out bl5)
    have ZM_5 := Lib.hid (blk_later ZM_4.out bl5)
    have IS_5 := Lib.hid (IS_4.out.below bl5)
    have IA_5 := Lib.hid (IA_4.out.below bl5)
    have IB_5 := Lib.hid (IB_4.out.below bl5)
    have IM_5 := Lib.hid (IM_4.out.below bl5)
    clear hb bl5 ZA_4 ZB_4 ZS_4 ZM_4 IS_4 IA_4 IB_4 IM_4 B_4
    clear cM0 cM1 cM2 cM3 cMf cMz
    obtain ⟨cS0, cS1, cS2, cS3, cSf, cSz⟩ := blk4 ZS_5.out
    obtain ⟨cA0, cA1, cA2, cA3, cAf, cAz⟩ := blk4 ZA_5.out
    go_wp2_with fail
    refine (sum2 P nS ra c _ _ DS DA _ HsS.out HsA.out IS_5.out IA_5.out).mono ?_
    rintro e w6 ⟨nX, pX, kX, DX, rfl, ho, hb, hr⟩
    obtain ⟨t1, t2⟩ : nS = nX ∧ DS = DX := by have := Hx.out _ hr; injection this with _ t1 _ t2; exact ⟨(Int.ofNat.inj t1).symm, t2.symm⟩
    subst t1 t2
    clear hr
    have hoi := ho.ints
    clear ho
    have bl6 : Below w5.heap.size w5 w6 := hb
    have sz6 : w5.heap.size ≤ w6.heap.size := hb.size
    have B_6 := Lib.hid (B_5.out.trans (bl6.mono B_5.out.size))
    have ZA_6 := Lib.hid (blk_later ZA_5.out bl6)
    have ZB_6 := Lib.hid (blk_later ZB_5.out bl6)
    have ZS_6 := Lib.hid (blk_later ZS_5.out bl6)
    have ZM_6 := Lib.hid (blk_later ZM_5.out bl6)
    have IS_6 := Lib.hid (IS_5.out.below bl6)
    have IA_6 := Lib.hid (IA_5.out.below bl6)
    have IB_6 := Lib.hid (IB_5.out.below bl6)
    have IM_6 := Lib.hid (IM_5.out.below bl6)
    clear hb bl6 ZA_5 ZB_5 ZS_5 ZM_5 IS_5 IA_5 IB_5 IM_5 B_5
    clear cS0 cS1 cS2 cS3 cSf cSz cA0 cA1 cA2 cA3 cAf cAz
    have IX_6 := Lib.hid (hoi)
    clear hoi
    obtain ⟨cM0, cM1, cM2, cM3, cMf, cMz⟩ := blk4 ZM_6.out
    obtain ⟨cA0, cA1, cA2, cA3, cAf, cAz⟩ := blk4 ZA_6.out
    go_wp2_with fail
    refine (sum2 P nM ra c _ _ DM DA _ HsM.out HsA.out (IM_6.out.below (below_alloc w6 (.cells #[.int .i64 P, .int .i64 nS, .int .i64 c, .slice pX DS.length kX] 26))) (IA_6.out.below (below_alloc w6 (.cells #[.int .i64 P, .int .i64 nS, .int .i64 c, .slice pX DS.length kX] 26)))).mono ?_
    rintro e w7 ⟨nY, pY, kY, DY, rfl, ho, hb, hr⟩
    obtain ⟨t1, t2⟩ : ra = nY ∧ DA = DY := by have := Hy.out _ hr; injection this with _ t1 _ t2; exact ⟨(Int.ofNat.inj t1).symm, t2.symm⟩
    subst t1 t2
    clear hr
    have hoi := ho.ints
    clear ho
    have bl7 : Below w6.heap.size w6 w7 := (below_alloc w6 (.cells #[.int .i64 P, .int .i64 nS, .int .i64 c, .slice pX DS.length kX] 26)).trans (hb.mono (by first | (simp; done) | (simp; omega)))
    have sz7 : w6.heap.size + 1 ≤ w7.heap.size := by have := hb.size; simp at this; omega
    have B_7 := Lib.hid (B_6.out.trans (bl7.mono B_6.out.size))
    have ZA_7 := Lib.hid (blk_later ZA_6.out bl7)
    have ZB_7 := Lib.hid (blk_later ZB_6.out bl7)
    have ZS_7 := Lib.hid (blk_later ZS_6.out bl7)
    have ZM_7 := Lib.hid (blk_later ZM_6.out bl7)
    have ZX_7 := Lib.hid ((hb.block _ (by simp)).trans (heap_alloc_top w6 (.cells #[.int .i64 P, .int .i64 nS, .int .i64 c, .slice pX DS.length kX] 26)))
    have IS_7 := Lib.hid (IS_6.out.below bl7)
    have IA_7 := Lib.hid (IA_6.out.below bl7)
    have IX_7 := Lib.hid (IX_6.out.below bl7)
    have IM_7 := Lib.hid (IM_6.out.below bl7)
    have IB_7 := Lib.hid (IB_6.out.below bl7)
    clear hb bl7 ZA_6 ZB_6 ZS_6 ZM_6 IS_6 IA_6 IX_6 IM_6 IB_6 B_6
    clear cM0 cM1 cM2 cM3 cMf cMz cA0 cA1 cA2 cA3 cAf cAz
    have IY_7 := Lib.hid (hoi)
    clear hoi
    obtain ⟨cM0, cM1, cM2, cM3, cMf, cMz⟩ := blk4 ZM_7.out
    obtain ⟨cB0, cB1, cB2, cB3, cBf, cBz⟩ := blk4 ZB_7.out
    go_wp2_with fail
    refine (sum2 P nM rb c _ _ DM DB _ HsM.out HsB.out (IM_7.out.below (below_alloc w7 (.cells #[.int .i64 P, .int .i64 ra, .int .i64 c, .slice pY DA.length kY] 26))) (IB_7.out.below (below_alloc w7 (.cells #[.int .i64 P, .int .i64 ra, .int .i64 c, .slice pY DA.length kY] 26)))).mono ?_
    rintro e w8 ⟨nV, pV, kV, DV, rfl, ho, hb, hr⟩
    obtain ⟨t1, t2⟩ : rb = nV ∧ DB = DV := by have := Hz.out _ hr; injection this with _ t1 _ t2; exact ⟨(Int.ofNat.inj t1).symm, t2.symm⟩
    subst t1 t2
    clear hr
    have hoi := ho.ints
    clear ho
    have bl8 : Below w7.heap.size w7 w8 := (below_alloc w7 (.cells #[.int .i64 P, .int .i64 ra, .int .i64 c, .slice pY DA.length kY] 26)).trans (hb.mono (by first | (simp; done) | (simp; omega)))
    have sz8 : w7.heap.size + 1 ≤ w8.heap.size := by have := hb.size; simp at this; omega
    have B_8 := Lib.hid (B_7.out.trans (bl8.mono B_7.out.size))
    have ZA_8 := Lib.hid (blk_later ZA_7.out bl8)
    have ZB_8 := Lib.hid (blk_later ZB_7.out bl8)
    have ZS_8 := Lib.hid (blk_later ZS_7.out bl8)
    have ZM_8 := Lib.hid (blk_later ZM_7.out bl8)
    have ZX_8 := Lib.hid (blk_later ZX_7.out bl8)
    have ZY_8 := Lib.hid ((hb.block _ (by simp)).trans (heap_alloc_top w7 (.cells #[.int .i64 P, .int .i64 ra, .int .i64 c, .slice pY DA.length kY] 26)))
    have IS_8 := Lib.hid (IS_7.out.below bl8)
    have IA_8 := Lib.hid (IA_7.out.below bl8)
    have IY_8 := Lib.hid (IY_7.out.below bl8)
    have IX_8 := Lib.hid (IX_7.out.below bl8)
    have IM_8 := Lib.hid (IM_7.out.below bl8)
    have IB_8 := Lib.hid (IB_7.out.below bl8)
    clear hb bl8 ZA_7 ZB_7 ZS_7 ZM_7 ZX_7 IS_7 IA_7 IY_7 IX_7 IM_7 IB_7 B_7
    clear cM0 cM1 cM2 cM3 cMf cMz cB0 cB1 cB2 cB3 cBf cBz
    have IV_8 := Lib.hid (hoi)
    clear hoi
    obtain ⟨cS0, cS1, cS2, cS3, cSf, cSz⟩ := blk4 ZS_8.out
    obtain ⟨cB0, cB1, cB2, cB3, cBf, cBz⟩ := blk4 ZB_8.out
    go_wp2_with fail
    refine (meet2 P nS rb c _ _ DS DB _ HsS.out HsB.out (IS_8.out.below (below_alloc w8 (.cells #[.int .i64 P, .int .i64 rb, .int .i64 c, .slice pV DB.length kV] 26))) (IB_8.out.below (below_alloc w8 (.cells #[.int .i64 P, .int .i64 rb, .int .i64 c, .slice pV DB.length kV] 26)))).mono ?_
    rintro e w9 ⟨nG, pG, kG, DG, rfl, ho, hb, hr⟩
    obtain ⟨t1, t2⟩ : rb = nG ∧ DB = DG := by have := Hg.out _ hr; injection this with _ t1 _ t2; exact ⟨(Int.ofNat.inj t1).symm, t2.symm⟩
    subst t1 t2
    clear hr
    have hoi := ho.ints
    clear ho
    have bl9 : Below w8.heap.size w8 w9 := (below_alloc w8 (.cells #[.int .i64 P, .int .i64 rb, .int .i64 c, .slice pV DB.length kV] 26)).trans (hb.mono (by first | (simp; done) | (simp; omega)))
    have sz9 : w8.heap.size + 1 ≤ w9.heap.size := by have := hb.size; simp at this; omega
    have B_9 := Lib.hid (B_8.out.trans (bl9.mono B_8.out.size))
    have ZA_9 := Lib.hid (blk_later ZA_8.out bl9)
    have ZB_9 := Lib.hid (blk_later ZB_8.out bl9)
    have ZS_9 := Lib.hid (blk_later ZS_8.out bl9)
    have ZM_9 := Lib.hid (blk_later ZM_8.out bl9)
    have ZX_9 := Lib.hid (blk_later ZX_8.out bl9)
    have ZY_9 := Lib.hid (blk_later ZY_8.out bl9)
    have ZV_9 := Lib.hid ((hb.block _ (by simp)).trans (heap_alloc_top w8 (.cells #[.int .i64 P, .int .i64 rb, .int .i64 c, .slice pV DB.length kV] 26)))
    have IS_9 := Lib.hid (IS_8.out.below bl9)
    have IA_9 := Lib.hid (IA_8.out.below bl9)
    have IY_9 := Lib.hid (IY_8.out.below bl9)
    have IV_9 := Lib.hid (IV_8.out.below bl9)
    have IX_9 := Lib.hid (IX_8.out.below bl9)
    have IM_9 := Lib.hid (IM_8.out.below bl9)
    have IB_9 := Lib.hid (IB_8.out.below bl9)
    clear hb bl9 ZA_8 ZB_8 ZS_8 ZM_8 ZX_8 ZY_8 IS_8 IA_8 IY_8 IV_8 IX_8 IM_8 IB_8 B_8
    clear cS0 cS1 cS2 cS3 cSf cSz cB0 cB1 cB2 cB3 cBf cBz
    have IG_9 := Lib.hid (hoi)
    clear hoi
    go_wp2_with fail
    obtain ⟨w10, hw10⟩ : ∃ x : World, x = w9.alloc (.cells #[.int .i64 P, .int .i64 rb, .int .i64 c, .slice pG DB.length kG] 26) := ⟨_, rfl⟩
    have hb : Below (w9.alloc (.cells #[.int .i64 P, .int .i64 rb, .int .i64 c, .slice pG DB.length kG] 26)).heap.size (w9.alloc (.cells #[.int .i64 P, .int .i64 rb, .int .i64 c, .slice pG DB.length kG] 26)) w10 := by rw [hw10]; exact Below.refl _ _
    rw [← hw10]
    have bl10 : Below w9.heap.size w9 w10 := (below_alloc w9 (.cells #[.int .i64 P, .int .i64 rb, .int .i64 c, .slice pG DB.length kG] 26)).trans (hb.mono (by first | (simp; done) | (simp; omega)))
    have sz10 : w9.heap.size + 1 ≤ w10.heap.size := by have := hb.size; simp at this; omega
    have B_10 := Lib.hid (B_9.out.trans (bl10.mono B_9.out.size))
    have ZA_10 := Lib.hid (blk_later ZA_9.out bl10)
    have ZB_10 := Lib.hid (blk_later ZB_9.out bl10)
    have ZS_10 := Lib.hid (blk_later ZS_9.out bl10)
    have ZM_10 := Lib.hid (blk_later ZM_9.out bl10)
    have ZX_10 := Lib.hid (blk_later ZX_9.out bl10)
    have ZY_10 := Lib.hid (blk_later ZY_9.out bl10)
    have ZV_10 := Lib.hid (blk_later ZV_9.out bl10)
    have ZG_10 := Lib.hid ((hb.block _ (by simp)).trans (heap_alloc_top w9 (.cells #[.int .i64 P, .int .i64 rb, .int .i64 c, .slice pG DB.length kG] 26)))
    have IS_10 := Lib.hid (IS_9.out.below bl10)
    have IA_10 := Lib.hid (IA_9.out.below bl10)
    have IY_10 := Lib.hid (IY_9.out.below bl10)
    have IV_10 := Lib.hid (IV_9.out.below bl10)
    have IX_10 := Lib.hid (IX_9.out.below bl10)
    have IM_10 := Lib.hid (IM_9.out.below bl10)
    have IG_10 := Lib.hid (IG_9.out.below bl10)
    have IB_10 := Lib.hid (IB_9.out.below bl10)
    clear hb bl10 ZA_9 ZB_9 ZS_9 ZM_9 ZX_9 ZY_9 ZV_9 IS_9 IA_9 IY_9 IV_9 IX_9 IM_9 IG_9 IB_9 B_9
    clear hw10
    obtain ⟨cX0, cX1, cX2, cX3, cXf, cXz⟩ := blk4 ZX_10.out
    obtain ⟨cS0, cS1, cS2, cS3, cSf, cSz⟩ := blk4 ZS_10.out
    obtain ⟨cY0, cY1, cY2, cY3, cYf, cYz⟩ := blk4 ZY_10.out
    obtain ⟨cA0, cA1, cA2, cA3, cAf, cAz⟩ := blk4 ZA_10.out
    obtain ⟨cV0, cV1, cV2, cV3, cVf, cVz⟩ := blk4 ZV_10.out
    obtain ⟨cB0, cB1, cB2, cB3, cBf, cBz⟩ := blk4 ZB_10.out
    obtain ⟨cG0, cG1, cG2, cG3, cGf, cGz⟩ := blk4 ZG_10.out
    go_region_held3 (fun w' => (w'.cell? ⟨w6.heap.size, 0, none⟩ = some (.int .i64 P) ∧ w'.cell? ⟨w6.heap.size, 1, none⟩ = some (.int .i64 nS) ∧ w'.cell? ⟨w6.heap.size, 2, none⟩ = some (.int .i64 c) ∧ w'.cell? ⟨w6.heap.size, 3, none⟩ = some (.slice pX DS.length kX) ∧ w'.cell? ⟨w2.heap.size, 0, none⟩ = some (.int .i64 P) ∧ w'.cell? ⟨w2.heap.size, 1, none⟩ = some (.int .i64 nS) ∧ w'.cell? ⟨w2.heap.size, 2, none⟩ = some (.int .i64 c) ∧ w'.cell? ⟨w2.heap.size, 3, none⟩ = some (.slice pS DS.length kS) ∧ w'.cell? ⟨w7.heap.size, 0, none⟩ = some (.int .i64 P) ∧ w'.cell? ⟨w7.heap.size, 1, none⟩ = some (.int .i64 ra) ∧ w'.cell? ⟨w7.heap.size, 2, none⟩ = some (.int .i64 c) ∧ w'.cell? ⟨w7.heap.size, 3, none⟩ = some (.slice pY DA.length kY) ∧ w'.cell? ⟨w1.heap.size, 0, none⟩ = some (.int .i64 P) ∧ w'.cell? ⟨w1.heap.size, 1, none⟩ = some (.int .i64 ra) ∧ w'.cell? ⟨w1.heap.size, 2, none⟩ = some (.int .i64 c) ∧ w'.cell? ⟨w1.heap.size, 3, none⟩ = some (.slice pA DA.length kA) ∧ w'.cell? ⟨w8.heap.size, 0, none⟩ = some (.int .i64 P) ∧ w'.cell? ⟨w8.heap.size, 1, none⟩ = some (.int .i64 rb) ∧ w'.cell? ⟨w8.heap.size, 2, none⟩ = some (.int .i64 c) ∧ w'.cell? ⟨w8.heap.size, 3, none⟩ = some (.slice pV DB.length kV) ∧ w'.cell? ⟨w1.heap.size + 1, 0, none⟩ = some (.int .i64 P) ∧ w'.cell? ⟨w1.heap.size + 1, 1, none⟩ = some (.int .i64 rb) ∧ w'.cell? ⟨w1.heap.size + 1, 2, none⟩ = some (.int .i64 c) ∧ w'.cell? ⟨w1.heap.size + 1, 3, none⟩ = some (.slice pB DB.length kB) ∧ w'.cell? ⟨w9.heap.size, 0, none⟩ = some (.int .i64 P) ∧ w'.cell? ⟨w9.heap.size, 1, none⟩ = some (.int .i64 rb) ∧ w'.cell? ⟨w9.heap.size, 2, none⟩ = some (.int .i64 c) ∧ w'.cell? ⟨w9.heap.size, 3, none⟩ = some (.slice pG DB.length kG)) ∧ Below w10.heap.size w10 w')
      (first | exact ⟨⟨cX0, cX1, cX2, cX3, cS0, cS1, cS2, cS3, cY0, cY1, cY2, cY3, cA0, cA1, cA2, cA3, cV0, cV1, cV2, cV3, cB0, cB1, cB2, cB3, cG0, cG1, cG2, cG3⟩, (Below.refl _ _).drew⟩ | exact keep28 hb1 (by assumption))
      (first
        | (go_at_call_of 11 (Value.agg #[.int .i64 P, .int .i64 nS, .int .i64 c, .slice pX DS.length kX]); refine (lawMatrices_any _ _ _ _ _ _ _ _ DS DS _ (held_ints IX_10.out (by assumption)) (held_ints IS_10.out (by assumption))).mono ?_; rintro e w' ⟨rfl, hb1⟩; rw [same_yes]; have hBz : Below w10.heap.size w10 w' := below_trans (held_below (by assumption)) hb1)
        | (go_at_call_of 11 (Value.agg #[.int .i64 P, .int .i64 ra, .int .i64 c, .slice pY DA.length kY]); refine (lawMatrices_any _ _ _ _ _ _ _ _ DA DA _ (held_ints IY_10.out (by assumption)) (held_ints IA_10.out (by assumption))).mono ?_; rintro e w' ⟨rfl, hb1⟩; rw [same_yes]; have hBz : Below w10.heap.size w10 w' := below_trans (held_below (by assumption)) hb1)
        | (go_at_call_of 11 (Value.agg #[.int .i64 P, .int .i64 rb, .int .i64 c, .slice pV DB.length kV]); refine (lawMatrices_any _ _ _ _ _ _ _ _ DB DB _ (held_ints IV_10.out (by assumption)) (held_ints IB_10.out (by assumption))).mono ?_; rintro e w' ⟨rfl, hb1⟩; rw [same_yes]; have hBz : Below w10.heap.size w10 w' := below_trans (held_below (by assumption)) hb1)
        | (go_at_call_of 11 (Value.agg #[.int .i64 P, .int .i64 rb, .int .i64 c, .slice pG DB.length kG]); refine (lawMatrices_any _ _ _ _ _ _ _ _ DB DB _ (held_ints IG_10.out (by assumption)) (held_ints IB_10.out (by assumption))).mono ?_; rintro e w' ⟨rfl, hb1⟩; rw [same_yes]; have hBz : Below w10.heap.size w10 w' := below_trans (held_below (by assumption)) hb1)
        | (go_at_call 12; refine (span1 P nS c _ DS _ HsS.out (held_ints IS_10.out (by assumption))).mono ?_; rintro e w' ⟨pq, kq, rfl, hoq, hb1⟩; have hq := hoq.ints; have hBz : Below w10.heap.size w10 w' := below_trans (held_below (by assumption)) hb1)
        | (go_at_call_of 11 (Value.agg #[.int .i64 P, .int .i64 (nS : Int), .int .i64 (c : Int), .slice pq DS.length kq]); refine (lawMatrices_any _ _ _ _ _ _ _ _ DS DS _ (hq.below (by first | exact Below.refl _ _ | exact (Below.refl _ _).drew)) (held_ints IS_10.out (by assumption))).mono ?_; rintro e w' ⟨rfl, hb1⟩; rw [same_yes]; have hBz : Below w10.heap.size w10 w' := below_trans (held_below (by assumption)) hb1)
        | (go_at_call 13; refine (rank1 P nS c _ DS _ HsS.out (held_ints IS_10.out (by assumption))).mono ?_; rintro e w' ⟨rfl, hb1⟩; have hBz : Below w10.heap.size w10 w' := below_trans (held_below (by assumption)) hb1))
    all_goals go_wp2_with fail
    all_goals go_ret
    all_goals exact ⟨rfl, B_10.out.trans (hBz.mono B_10.out.size)⟩

end Go.Proofs.Ytmnlpkmnbjoicaa
