/-
  The program's product of matrices.
  The law FnRelative, walked.
-/
import Derived.Test.YtmnlpkmnbjoicaaJ7
import Derived.Test.YtmnlpkmnbjoicaaJ4
import Derived.Test.YtmnlpkmnbjoicaaJ15
import Derived.Test.YtmnlpkmnbjoicaaJ17
namespace Go.Proofs.Ytmnlpkmnbjoicaa
set_option linter.all false
open Go.RowKit

/-- row i of the product, the first k products added -/
def partRow (P : Int) (ca cb : Nat) (A B : List Int) (i k : Nat) : List Int := (List.range cb).map fun (j : Nat) => (sumTo k fun k => A.getD (i * ca + k) 0 * B.getD (k * cb + j) 0) % P
theorem partRow_length (P : Int) (ca cb : Nat) (A B : List Int) (i k : Nat) : (partRow P ca cb A B i k).length = cb := by simp [partRow]
theorem partRow_getD {P : Int} {ca cb : Nat} {A B : List Int} {i k j : Nat} (h : j < cb) : (partRow P ca cb A B i k).getD j 0 = (sumTo k fun k => A.getD (i * ca + k) 0 * B.getD (k * cb + j) 0) % P := by
  simp [partRow, List.getD_eq_getElem?_getD, h]
theorem partRow_succ {P : Int} {ca cb : Nat} {A B : List Int} {i k : Nat} : addRowL P (A.getD (i * ca + k) 0) (partRow P ca cb A B i k) (rowAt cb B k) = partRow P ca cb A B i (k + 1) := by
  apply getD_eq_list (by rw [addRowL_length, partRow_length, partRow_length])
  intro j hj
  rw [addRowL_length, partRow_length] at hj
  rw [addRowL_getD (by rw [partRow_length]; exact hj), partRow_getD hj, partRow_getD hj, rowAt_getD hj]
  simp only [sumTo, Int.emod_add_emod]
theorem partRow_small {P : Int} (h0 : 0 < P) (h1 : P ≤ 1000) (ca cb : Nat) (A B : List Int) (i k : Nat) : Small (partRow P ca cb A B i k) := by
  intro x hx
  simp only [partRow, List.mem_map, List.mem_range] at hx
  obtain ⟨j, _, rfl⟩ := hx
  have := Int.emod_nonneg (sumTo k fun k => A.getD (i * ca + k) 0 * B.getD (k * cb + j) 0) (show P ≠ 0 by omega)
  have := Int.emod_lt_of_pos (sumTo k fun k => A.getD (i * ca + k) 0 * B.getD (k * cb + j) 0) h0
  omega
theorem Boxes3.later_low {w : World} {T Tz : TypeId} {a b : Mx} {da db : Value} {wr wx : World} (h : Boxes3 w T Tz a b da db wr) {B : Nat} (hb : Below B wr wx) (hB : w.heap.size + 1 + 1 < B) : Boxes3 w T Tz a b da db wx :=
  ⟨by rw [hb.block _ (by omega)]; exact h.1, by rw [hb.block _ (by omega)]; exact h.2.1, by rw [hb.block _ hB]; exact h.2.2.1, h.2.2.2.trans (hb.mono (by omega))⟩
theorem mulRows_eq (P : Int) (ra ca cb : Nat) (A B : List Int) : mulRows P ra ca cb A B = (List.range ra).map fun i => partRow P ca cb A B i ca := rfl
theorem small_of_range {D : List Int} {P : Int} (h : ∀ x ∈ D, 0 ≤ x ∧ x < P) (hP : P ≤ 1000) : Small D := fun x hx => by have := h x hx; omega
theorem rowAt_small {D : List Int} (h : Small D) (C i : Nat) : Small (rowAt C D i) := fun x hx => h x (List.mem_of_mem_drop (List.mem_of_mem_take hx))

set_option maxRecDepth 100000 in
set_option maxHeartbeats 4000000 in
theorem implMul_yes (a b : Mx) (da db : Value) (w : World) (ha : Ints w da a.D) (hb : Ints w db b.D) (h1 : mxOk a.P a.R a.C a.D = true) (h2 : mxOk b.P b.R b.C b.D = true) (h3 : a.P = b.P) (h4 : a.C = b.R) :
    Calls Try.prog 23 #[.agg #[.int .i64 a.P, .int .i64 a.R, .int .i64 a.C, da], .agg #[.int .i64 b.P, .int .i64 b.R, .int .i64 b.C, db]] w
      (RetMB w (mulMx a b) (mulFits a b)) := by
  have Ha := Lib.hid ha
  have Hb := Lib.hid hb
  obtain ⟨pa, ka, rfl, ⟨la, ma⟩, _⟩ := ha
  obtain ⟨pb, kb, rfl, ⟨lb, mb⟩, _⟩ := hb
  unfold maxLen at ma mb
  have Hst := Lib.hid (boxes3_start w 26 26 a b (.slice pa a.D.length ka) (.slice pb b.D.length kb))
  have hf : mulFits a b = true := by unfold mulFits; rw [h1, h2, decide_eq_true h3, decide_eq_true h4]; rfl
  have hm : mulMx a b = ⟨a.P, a.R, b.C, (mulRows a.P a.R.toNat a.C.toNat b.C.toNat a.D b.D).flatten⟩ := by simp [mulMx, hf]
  rw [hf, hm]
  have H1 := Lib.hid h1
  have H2 := Lib.hid h2
  have h3' : (a.P != b.P) = false := by simp [h3]
  have h4' : (a.C != b.R) = false := by simp [h4]
  obtain ⟨aP, aR, aC, A⟩ := a
  obtain ⟨bP, bR, bC, B⟩ := b
  simp only at *
  subst h3 h4
  obtain ⟨ra, ca, rfl, rfl, hra, hca0, hca, hlA, hA, hP2, hP7, hpr⟩ := mxOk_facts h1
  obtain ⟨_, cb, e1, rfl, hrb, hcb0, hcb, hlB, hB, _, _, _⟩ := mxOk_facts h2
  have e1 := Int.ofNat.inj e1
  subst e1
  simp only [Int.toNat_natCast]
  have HA := Lib.hid hA
  have HB := Lib.hid hB
  have hrc : ra * cb ≤ 7 * 7 := Nat.mul_le_mul hra hcb
  have HlA := Lib.hid hlA
  have HlB := Lib.hid hlB
  clear h1 h2 hf hm hA hB hlA hlB hpr e1
  go_enter Try.func23, Try.ntmps23
  go_wp2_with fail
  refine (implMatrixOk_b _ _ _ _ _ _ H1.out _ (Ha.out.below (below_alloc3 _ _ _ _))).mono ?_
  rintro e w1 ⟨rfl, hb1⟩
  have Hs := Lib.hid (Hst.out.later hb1)
  have hBl := Hs.out.2.2.2
  obtain ⟨c10, c11, c12, c13, c1f, hz1⟩ := blk4 Hs.out.2.1
  clear hb1
  go_wp2_with fail
  refine (implMatrixOk_b _ _ _ _ _ _ H2.out _ (Hb.out.below hBl)).mono ?_
  rintro e w2 ⟨rfl, hb2⟩
  have Hs2 := Lib.hid (Hs.out.later hb2)
  clear hb2 c10 c11 c12 c13 c1f hz1 hBl Hs
  obtain ⟨d00, d01, d02, d03, d0f, dz0⟩ := blk4 Hs2.out.1
  obtain ⟨d10, d11, d12, d13, d1f, dz1⟩ := blk4 Hs2.out.2.1
  go_wp2_with fail
  have hz2 := blk_lt Hs2.out.2.2.1
  refine (lines_any aP ra ca _ A _ (Ha.out.below (Hs2.out.2.2.2.trans ((below_alloc w2 _).mono Hs2.out.2.2.2.size))) (by omega) (by omega) hca0 HlA.out).mono ?_
  rintro e w3 ⟨L1, rfl, hL1, hb3⟩
  have hb3' : Below w2.heap.size w2 w3 := (below_alloc w2 _).trans (hb3.mono (by simp))
  have Hs3 := Lib.hid (Hs2.out.later hb3')
  have hsz3 := hb3.size
  simp only [size_alloc] at hL1 hsz3
  have hm0 := (OwnF.made0 w2 24 (fun _ => undef)).below hb3
  obtain ⟨p1, k1, rfl, _, hk1⟩ := hL1.shape
  have HL1 := Lib.hid hL1
  have HB3 := Lib.hid hb3'
  have Hm0 := Lib.hid hm0
  clear d00 d01 d02 d03 d0f dz0 d10 d11 d12 d13 d1f dz1 hb3 hb3' hL1 hm0 h3' h4'
  rw [rowsOf_length] at *
  go_wp2_with fail
  go_loopg [6, 39] ra (fun gh s6 s39 wr => ∃ i : Nat, i ≤ ra ∧ gh = ra - i ∧ s39 = .int .i64 i ∧ Boxes3 w 26 26 ⟨aP, (ra : Int), (ca : Int), A⟩ ⟨aP, (ca : Int), (cb : Int), B⟩ (.slice pa A.length ka) (.slice pb B.length kb) wr ∧
    OwnII 24 3 wr (w2.heap.size + 1) w3.heap.size (.slice p1 ra k1) (rowsOf ra ca A) ∧ w3.heap.size ≤ wr.heap.size ∧ Below w2.heap.size w2 wr ∧
    (∀ b, s6.ownBlock = some b → b = w2.heap.size ∨ w3.heap.size ≤ b) ∧
    OwnII 24 3 wr w2.heap.size wr.heap.size s6 ((mulRows aP ra ca cb A B).take i))
  case atStart =>
    refine ⟨0, Nat.zero_le _, rfl, rfl, Hs3.out, HL1.out, Nat.le_refl _, HB3.out, fun b hb => ?_, fun _ => undef, Hm0.out.mono (Nat.le_refl _) (by omega), fun i hi => absurd hi (by simp), fun i j _ hj => absurd hj (by simp)⟩
    simp [Value.ownBlock] at hb
    exact .inl hb.symm
  case round =>
    obtain ⟨i, hi, rfl, rfl, hst, hL, hsz, hbw, hR, f, g1, g2, g3⟩ := hrel
    obtain ⟨d10, d11, d12, d13, d1f, dz1⟩ := blk4 hst.2.1
    have Hst' := Lib.hid hst
    have HL := Lib.hid hL
    have HR := Lib.hid hR
    have Hbw := Lib.hid hbw
    have G1 := Lib.hid g1
    have G2 := Lib.hid g2
    have G3 := Lib.hid g3
    clear hst hL hR hbw g1 g2 g3 HL1 Hm0 Hs3
    by_cases hlt : i < ra
    · obtain ⟨F1, a1, a2, _⟩ := HL.out
      rw [rowsOf_length] at a1 a2
      obtain ⟨gt, rfl, _, _, _⟩ := a1.at_ (by omega)
      have c1 := a1.cell hlt
      have hrow := (a2 i hlt).ints
      rw [rowsOf_getD hlt] at hrow
      obtain ⟨rp, rk, er, ⟨hr1, hr2⟩, hrc⟩ := hrow
      have hrl : (rowAt ca A i).length = ca := rowAt_length (by rw [HlA.out]; exact mul_le_of hlt)
      rw [hrl] at er hrc hr1
      rw [er] at c1
      obtain ⟨rb, ro, rfl, hrcell⟩ := hrc (by omega)
      have hmk := run_make_row' (P := Try.prog) 24 3 (.int .i64 0) 8 Try.underlying24 info_int rfl .i64 .i64 cb (by omega) (by omega)
      unfold maxLen at hr2
      have Hrc := Lib.hid hrcell
      clear a1 a2 er hrl hrcell
      go_wp2_with fail
      have hszw := Hst'.out.2.2.2.size
      refine (lines_any aP ca cb _ B _ (Hb.out.below (Hst'.out.2.2.2.trans ((below_alloc wr _).mono hszw))) (by omega) (by omega) hcb0 HlB.out).mono ?_
      rintro e w4 ⟨L2, rfl, hL2, hb4⟩
      have hb4' : Below wr.heap.size wr w4 := (below_alloc wr _).trans (hb4.mono (by simp))
      have hsz4 := hb4.size
      simp only [size_alloc] at hL2 hsz4
      have hout0 : OwnI 3 w4 wr.heap.size (wr.heap.size + 1) (.slice (some ⟨wr.heap.size, 0, none⟩) cb cb) (partRow aP ca cb A B i 0) := by
        have hr0 := (World.rowIs_made wr (.int .i64 0) cb 3).of_block (hb4.block wr.heap.size (by simp))
        refine OwnF.ints ?_
        rw [partRow_length]
        refine OwnF.mk' hr0 (Nat.le_refl _) (by omega) (Nat.le_refl _) (by unfold maxLen; omega) fun t ht => ?_
        rw [iv, partRow_getD ht]
        simp [sumTo]
      obtain ⟨p2, k2, rfl, _, hk2⟩ := hL2.shape
      have HL2 := Lib.hid hL2
      have HB4 := Lib.hid hb4'
      have Hout0 := Lib.hid hout0
      clear hmk d10 d11 d12 d13 d1f dz1 hb4 hb4' hL2 hout0 c1
      rw [rowsOf_length] at *
      go_wp2_with fail
      obtain ⟨wo, rfl⟩ : ∃ wo : World, wo = wr := ⟨_, rfl⟩
      go_loopg [49] ca (fun gh s49 wx => ∃ k : Nat, k ≤ ca ∧ gh = ca - k ∧ s49 = .int .i64 k ∧ Below wo.heap.size wo wx ∧ w4.heap.size ≤ wx.heap.size ∧
        OwnII 24 3 wx (wo.heap.size + 1) w4.heap.size (.slice p2 ca k2) (rowsOf ca cb B) ∧
        OwnI 3 wx wo.heap.size (wo.heap.size + 1) (.slice (some ⟨wo.heap.size, 0, none⟩) cb cb) (partRow aP ca cb A B i k))
      case atStart => exact ⟨0, Nat.zero_le _, rfl, rfl, HB4.out, Nat.le_refl _, HL2.out, Hout0.out⟩
      case round =>
        obtain ⟨k, hk, rfl, rfl, hbx, hsx, hLx, hox⟩ := hrel
        have Hbx := Lib.hid hbx
        have HLx := Lib.hid hLx
        have Hox := Lib.hid hox
        clear hbx hLx hox Hout0 HL2
        by_cases hltk : k < ca
        · obtain ⟨F2, b1, b2, _⟩ := HLx.out
          rw [rowsOf_length] at b1 b2
          obtain ⟨gu, rfl, _, _, _⟩ := b1.at_ (by omega)
          have c2 := b1.cell hltk
          have ho2 := b2 k hltk
          rw [rowsOf_getD hltk] at ho2
          obtain ⟨up, uk, eu, hu1, hu2⟩ := ho2.shape
          have hul : (rowAt cb B k).length = cb := rowAt_length (by rw [HlB.out]; exact mul_le_of hltk)
          rw [hul] at eu hu1
          have hblk := fun b hb => (Own.block ho2 (k := b) hb).1
          rw [eu] at c2 ho2 hblk
          have Ho2 := Lib.hid ho2
          obtain ⟨x, hx⟩ : ∃ x, x = A.getD (i * ca + k) 0 := ⟨_, rfl⟩
          have c3 : wr.cell? ⟨rb, ro + k, none⟩ = some (.int .i64 x) := by
            have h0 := Hrc.out k hltk
            rw [cell_below Hbx.out h0, iv, rowAt_getD hltk, hx]
          obtain ⟨d00, d01, d02, d03, d0f, dz0⟩ := blk4 (blk_later Hst'.out.1 Hbx.out)
          have hxr := getD_range HA.out (by omega) (i * ca + k)
          rw [← hx] at hxr
          have Hx := Lib.hid hx
          have hne : ∀ b, (Value.slice (some ⟨wo.heap.size, 0, none⟩) cb cb).ownBlock = some b → (Value.slice up cb uk).ownBlock ≠ some b := by
            intro b hb e
            have := hblk b e
            simp [Value.ownBlock] at hb
            omega
          have hrbne : rb ≠ wo.heap.size := by
            have := World.block_lt_of_cell? _ _ (Hrc.out k hltk)
            simp only at this
            omega
          have hwne : w.heap.size ≠ wo.heap.size := by have := blk_lt Hst'.out.1; omega
          have Hne := Lib.hid hne
          have cadd := fun (W : World) (h1 : OwnI 3 W wo.heap.size (wo.heap.size + 1) (.slice (some ⟨wo.heap.size, 0, none⟩) cb cb) (partRow aP ca cb A B i k)) (h2 : Ints W (.slice up cb uk) (rowAt cb B k)) =>
            addRow_any _ _ _ _ x aP _ _ W h1 h2 Hne.out (by rw [partRow_length, hul]; exact Nat.le_refl _) (partRow_small (by omega) (by omega) _ _ _ _ _ _) (rowAt_small (small_of_range HB.out (by omega)) _ _) (by omega) (by omega)
          have Cadd := Lib.hid cadd
          clear b1 b2 eu hul hblk ho2 hx hne cadd hxr
          go_wp2_with fail
          go_region_held3 (fun w' => w'.cell? ⟨rb, ro + k, none⟩ = some (.int .i64 x) ∧ w'.cell? ⟨w.heap.size, 0, none⟩ = some (.int .i64 aP))
            (first
              | exact ⟨c3, d00⟩
              | exact ⟨hg1.cell c3 (fun e => hrbne (Option.some.inj e)), hg1.cell d00 (fun e => hwne (Option.some.inj e))⟩)
            (first
              | (go_at_call 41; refine (Cadd.out _ (Hox.out.below (Below.refl _ _).drew) (Ho2.out.ints.below (Below.refl _ _).drew)).mono ?_; rintro e w' ⟨rfl, ho1, hg1⟩))
          have hfr : Frm wo.heap.size (wo.heap.size + 1) wr w' := (grownBy_frm hg1 (fun b hb => by simp [Value.ownBlock] at hb; omega)).of_drew
          rw [Hx.out, partRow_succ] at ho1
          clear c2 c3 d00 d01 d02 d03 d0f dz0 hg1
          have Ho1 := Lib.hid ho1
          have Hfr := Lib.hid hfr
          clear ho1 hfr
          go_wp2_with fail
          go_roundg (ca - (k + 1))
          case measure => omega
          case rel =>
            have h5 := Hfr.out.size
            exact ⟨k + 1, by omega, rfl, by go_num, Hbx.out.trans (Hfr.out.below (Nat.le_refl _) (by omega)), by omega, HLx.out.frm Hfr.out (.inr (Nat.le_refl _)), Ho1.out⟩
        · obtain rfl : k = ca := by omega
          have hlen : ((mulRows aP ra k cb A B).take i).length = i := by rw [List.length_take, mulRows_length]; omega
          have Hlen := Lib.hid hlen
          have g1 := G1.out
          have g2 := G2.out
          have g3 := G3.out
          rw [hlen] at g1 g2 g3
          have hszx := Hbx.out.size
          have G1' := Lib.hid fun o => (g1.below Hbx.out).below (below_alloc wr o)
          have G2' := Lib.hid fun o t (ht : t < i) => ((g2 t ht).below Hbx.out).below (below_alloc wr o)
          have G3' := Lib.hid g3
          have hb1 : i + 1 ≤ maxLen := by unfold maxLen; omega
          have Hb1 := Lib.hid hb1
          have Hb2 := Lib.hid (show (i + 1) * 24 ≤ 140737488355328 by omega)
          have hw2o := Hbw.out.size
          clear g1 g2 g3 hlen hb1
          go_wp2_with (at_builtin; go_must (refine wpList_append_G rfl (.tmp 64) (.tmp 66) 53 rfl 24 (.slice none 0 0) 24 Try.underlying53 info_sl rfl w2.heap.size wo.heap.size u6 i f rfl (G1'.out _) (by simp; omega) (by simp; omega) _ _ _ rfl (rd_one _ _ _ rfl) (fun j _ => rfl) Hb1.out Hb2.out ?_; intro v' w' ho' hg' hw'))
          have hs := hg'.size
          simp only [size_alloc] at hs
          have hblow : Below w2.heap.size wr w' := ((below_alloc wr _).mono (by omega)).trans (grownBy_below hg' (G1'.out default).blocks (Nat.le_refl _) (by simp; omega))
          go_roundg (ra - (i + 1))
          case measure => omega
          case rel =>
            refine ⟨i + 1, by omega, rfl, by go_num, ?_, ?_, by omega, ?_, ?_, ?_⟩
            · exact (Hst'.out.later Hbx.out).later_low hblow hz2
            · exact ((HL.out.below Hbx.out).below (below_alloc wr _)).grown hg' (fun b hb => by have := HR.out b hb; omega)
            · exact (Hbw.out.trans (Hbx.out.mono hw2o)).trans hblow
            · intro b hb
              rcases hw' b hb with h6 | h6
              · exact HR.out b h6
              · simp only [size_alloc] at h6
                exact .inr (by omega)
            · have ht : (mulRows aP ra k cb A B).take (i + 1) = (mulRows aP ra k cb A B).take i ++ [partRow aP k cb A B i k] := by
                rw [List.take_succ_eq_append_getElem (by rw [mulRows_length]; exact hlt)]
                simp [mulRows_eq]
              rw [ht]
              refine OwnII.snoc (mid := wo.heap.size) (hi := wo.heap.size + 1) (f := f) ?_ ?_ ?_ (Hox.out.below (below_alloc wr _)) hw2o (by omega) (by decide) hg' (by omega) ?_
              · rw [Hlen.out]; exact G1'.out _
              · rw [Hlen.out]; exact G2'.out _
              · rw [Hlen.out]; exact G3'.out
              · rw [Hlen.out]; exact ho'
    · obtain rfl : i = ra := by omega
      have hII : OwnII 24 3 wr w2.heap.size wr.heap.size u6 (mulRows aP i ca cb A B) := by
        have e : (mulRows aP i ca cb A B).take i = mulRows aP i ca cb A B := List.take_of_length_le (by rw [mulRows_length]; exact Nat.le_refl _)
        rw [e] at G1 G2 G3
        exact ⟨f, G1.out, G2.out, G3.out⟩
      have hfl : (mulRows aP i ca cb A B).flatten.length ≤ 1000000 := by rw [mulRows_flat_length]; omega
      obtain ⟨d00, d01, d02, d03, d0f, dz0⟩ := blk4 Hst'.out.1
      have HII := Lib.hid hII
      have Hfl := Lib.hid hfl
      have hz4 := Hbw.out.size
      clear hII hfl
      go_wp2_with fail
      refine (matrixOf_any _ _ _ _ _ HII.out.rd Hfl.out).mono ?_
      rintro e w5 ⟨u, rfl, ho, hb5⟩
      obtain ⟨c00, c01, c02, c03, c0f, hz0⟩ := blk4 (blk_later Hst'.out.2.2.1 hb5)
      obtain ⟨up, ucap, rfl, _, _⟩ := ho.shape
      have Ho := Lib.hid ho
      have Hb5 := Lib.hid hb5
      clear ho hb5
      go_wp2_with fail
      refine bodyPost_ret (v := .tuple #[.agg #[.int .i64 aP, .int .i64 (i : Int), .int .i64 (cb : Int), .slice up (mulRows aP i ca cb A B).flatten.length ucap], .bool true]) (by simp [results, Try.results23, go_sem, c00, c01, c02, c03, hz0, mulRows_length]) rfl ⟨_, rfl, ?_, ?_⟩
      · exact (own_set4 Ho.out (.inl (by omega)) _ _ _ _).mono (by omega) (by simp only [size_setCell]; omega)
      · exact below_set4 (Hst'.out.2.2.2.trans (Hb5.out.mono Hst'.out.2.2.2.size)) (by omega) _ _ _ _

set_option maxRecDepth 100000 in
set_option maxHeartbeats 4000000 in
theorem implMul_any (a b : Mx) (da db : Value) (w : World) (ha : Ints w da a.D) (hb : Ints w db b.D) :
    Calls Try.prog 23 #[.agg #[.int .i64 a.P, .int .i64 a.R, .int .i64 a.C, da], .agg #[.int .i64 b.P, .int .i64 b.R, .int .i64 b.C, db]] w
      (RetMB w (mulMx a b) (mulFits a b)) := by
  have Ha := Lib.hid ha
  have Hb := Lib.hid hb
  obtain ⟨pa, ka, rfl, ⟨la, ma⟩, _⟩ := ha
  obtain ⟨pb, kb, rfl, ⟨lb, mb⟩, _⟩ := hb
  unfold maxLen at ma mb
  have Hst := Lib.hid (boxes3_start w 26 26 a b (.slice pa a.D.length ka) (.slice pb b.D.length kb))
  cases h1 : mxOk a.P a.R a.C a.D with
  | false =>
    have hf := mulFits_no1 (b := b) h1
    rw [hf, mulMx_no hf]
    have H1 := Lib.hid h1
    clear h1 hf
    go_enter Try.func23, Try.ntmps23
    go_wp2_with fail
    refine (implMatrixOk_b _ _ _ _ _ _ H1.out _ (Ha.out.below (below_alloc3 _ _ _ _))).mono ?_
    rintro e w1 ⟨rfl, hb1⟩
    have Hs := Lib.hid (Hst.out.later hb1)
    clear hb1
    obtain ⟨c00, c01, c02, c03, c0f, hz0⟩ := blk4 Hs.out.2.2.1
    go_wp2_with fail
    refine bodyPost_ret (v := .tuple #[.agg #[.int .i64 0, .int .i64 0, .int .i64 0, .slice none 0 0], .bool false]) (by simp [results, Try.results23, go_sem, c00, c01, c02, c03, hz0]) rfl ⟨_, rfl, ?_, ?_⟩
    · exact ⟨World.ownsRow_nil _ _ _ _, fun k hk => by simp [Value.ownBlock] at hk⟩
    · exact below_set4 Hs.out.2.2.2 (by omega) _ _ _ _
  | true =>
    cases h2 : mxOk b.P b.R b.C b.D with
    | false =>
      have hf := mulFits_no2 (a := a) h2
      rw [hf, mulMx_no hf]
      have H1 := Lib.hid h1
      have H2 := Lib.hid h2
      clear h1 h2 hf
      go_enter Try.func23, Try.ntmps23
      go_wp2_with fail
      refine (implMatrixOk_b _ _ _ _ _ _ H1.out _ (Ha.out.below (below_alloc3 _ _ _ _))).mono ?_
      rintro e w1 ⟨rfl, hb1⟩
      have Hs := Lib.hid (Hst.out.later hb1)
      have hB := Hs.out.2.2.2
      obtain ⟨c10, c11, c12, c13, c1f, hz1⟩ := blk4 Hs.out.2.1
      clear hb1
      go_wp2_with fail
      refine (implMatrixOk_b _ _ _ _ _ _ H2.out _ (Hb.out.below hB)).mono ?_
      rintro e w2 ⟨rfl, hb2⟩
      have Hs2 := Lib.hid (Hs.out.later hb2)
      clear hb2 c10 c11 c12 c13 c1f hz1 hB
      obtain ⟨c00, c01, c02, c03, c0f, hz0⟩ := blk4 Hs2.out.2.2.1
      go_wp2_with fail
      refine bodyPost_ret (v := .tuple #[.agg #[.int .i64 0, .int .i64 0, .int .i64 0, .slice none 0 0], .bool false]) (by simp [results, Try.results23, go_sem, c00, c01, c02, c03, hz0]) rfl ⟨_, rfl, ?_, ?_⟩
      · exact ⟨World.ownsRow_nil _ _ _ _, fun k hk => by simp [Value.ownBlock] at hk⟩
      · exact below_set4 Hs2.out.2.2.2 (by omega) _ _ _ _
    | true =>
      have H1 := Lib.hid h1
      have H2 := Lib.hid h2
      by_cases h3 : a.P = b.P
      case neg =>
        have hf := mulFits_no3 h3
        rw [hf, mulMx_no hf]
        have h3' : (a.P != b.P) = true := by simp [h3]
        clear h1 h2 hf h3
        go_enter Try.func23, Try.ntmps23
        go_wp2_with fail
        refine (implMatrixOk_b _ _ _ _ _ _ H1.out _ (Ha.out.below (below_alloc3 _ _ _ _))).mono ?_
        rintro e w1 ⟨rfl, hb1⟩
        have Hs := Lib.hid (Hst.out.later hb1)
        have hB := Hs.out.2.2.2
        obtain ⟨c10, c11, c12, c13, c1f, hz1⟩ := blk4 Hs.out.2.1
        clear hb1
        go_wp2_with fail
        refine (implMatrixOk_b _ _ _ _ _ _ H2.out _ (Hb.out.below hB)).mono ?_
        rintro e w2 ⟨rfl, hb2⟩
        have Hs2 := Lib.hid (Hs.out.later hb2)
        clear hb2 c10 c11 c12 c13 c1f hz1 hB
        obtain ⟨d00, d01, d02, d03, d0f, dz0⟩ := blk4 Hs2.out.1
        obtain ⟨d10, d11, d12, d13, d1f, dz1⟩ := blk4 Hs2.out.2.1
        obtain ⟨c00, c01, c02, c03, c0f, hz0⟩ := blk4 Hs2.out.2.2.1
        go_wp2_with fail
        refine bodyPost_ret (v := .tuple #[.agg #[.int .i64 0, .int .i64 0, .int .i64 0, .slice none 0 0], .bool false]) (by simp [results, Try.results23, go_sem, c00, c01, c02, c03, hz0]) rfl ⟨_, rfl, ?_, ?_⟩
        · exact ⟨World.ownsRow_nil _ _ _ _, fun k hk => by simp [Value.ownBlock] at hk⟩
        · exact below_set4 Hs2.out.2.2.2 (by omega) _ _ _ _
      by_cases h4 : a.C = b.R
      case neg =>
        have hf := mulFits_no4 h4
        rw [hf, mulMx_no hf]
        have h3' : (a.P != b.P) = false := by simp [h3]
        have h4' : (a.C != b.R) = true := by simp [h4]
        clear h1 h2 hf h3 h4
        go_enter Try.func23, Try.ntmps23
        go_wp2_with fail
        refine (implMatrixOk_b _ _ _ _ _ _ H1.out _ (Ha.out.below (below_alloc3 _ _ _ _))).mono ?_
        rintro e w1 ⟨rfl, hb1⟩
        have Hs := Lib.hid (Hst.out.later hb1)
        have hB := Hs.out.2.2.2
        obtain ⟨c10, c11, c12, c13, c1f, hz1⟩ := blk4 Hs.out.2.1
        clear hb1
        go_wp2_with fail
        refine (implMatrixOk_b _ _ _ _ _ _ H2.out _ (Hb.out.below hB)).mono ?_
        rintro e w2 ⟨rfl, hb2⟩
        have Hs2 := Lib.hid (Hs.out.later hb2)
        clear hb2 c10 c11 c12 c13 c1f hz1 hB
        obtain ⟨d00, d01, d02, d03, d0f, dz0⟩ := blk4 Hs2.out.1
        obtain ⟨d10, d11, d12, d13, d1f, dz1⟩ := blk4 Hs2.out.2.1
        obtain ⟨c00, c01, c02, c03, c0f, hz0⟩ := blk4 Hs2.out.2.2.1
        go_wp2_with fail
        refine bodyPost_ret (v := .tuple #[.agg #[.int .i64 0, .int .i64 0, .int .i64 0, .slice none 0 0], .bool false]) (by simp [results, Try.results23, go_sem, c00, c01, c02, c03, hz0]) rfl ⟨_, rfl, ?_, ?_⟩
        · exact ⟨World.ownsRow_nil _ _ _ _, fun k hk => by simp [Value.ownBlock] at hk⟩
        · exact below_set4 Hs2.out.2.2.2 (by omega) _ _ _ _
      exact implMul_yes a b _ _ w Ha.out Hb.out h1 h2 h3 h4

end Go.Proofs.Ytmnlpkmnbjoicaa

namespace Go.Proofs.Ytmnlpkmnbjoicaa
set_option linter.all false
open Go.RowKit

theorem rel_perm {P : Int} {n : Nat} {DA DB l : List Int} (ha : IsFl P n n DA) (hb : IsFl P n n DB) (h : RpIs P n n DA P n n DB l) : permOk l = true := by
  obtain ⟨p, q, r, hr, hp, hq⟩ := rel_fun ha.flM hb.flM
  exact RlP.perm ha hb (l2 := qL n q) ⟨p, q, r, hr, hp, hq, rpIs_q h ha hb fun i hi => hr.rpAt ha.flM hb.flM hi (hp i hi).1 (hp i hi).2, rfl⟩
theorem boxes4 (w w' : World) (A B C G : Obj) (hb : Below ((((w.alloc A).alloc B).alloc C).alloc G).heap.size ((((w.alloc A).alloc B).alloc C).alloc G) w') : w'.heap[w.heap.size]? = some A ∧ w'.heap[w.heap.size + 1]? = some B ∧ w'.heap[w.heap.size + 1 + 1 + 1]? = some G := by
  obtain ⟨z0, z1, z2⟩ := boxes_abz w A B C
  have hs : (((w.alloc A).alloc B).alloc C).heap.size = w.heap.size + 1 + 1 + 1 := by simp
  have hs2 : ((((w.alloc A).alloc B).alloc C).alloc G).heap.size = w.heap.size + 1 + 1 + 1 + 1 := by simp
  refine ⟨(hb.block _ (by rw [hs2]; omega)).trans ((heap_alloc_low _ _ (by rw [hs]; omega)).trans z0), (hb.block _ (by rw [hs2]; omega)).trans ((heap_alloc_low _ _ (by rw [hs]; omega)).trans z1), (hb.block _ (by rw [hs2]; omega)).trans ?_⟩
  rw [← hs]
  exact heap_alloc_top _ G
theorem mx_dec {P : Int} {n : Nat} {DM DN : List Int} {z : Prop} [Decidable z] (h : DM = DN ↔ z) : mxSame P n n DM P n n DN = decide z := by
  unfold mxSame
  exact decide_eq_decide.2 ⟨fun e => h.1 e.2.2.2, fun e => ⟨rfl, rfl, rfl, h.2 e⟩⟩
theorem mul1 (P : Int) (n : Nat) (dA dG : Value) (DA DG : List Int) (w : World) (ha : IsFl P n n DA) (hg : IsFl P n n DG) (hdA : Ints w dA DA) (hdG : Ints w dG DG) :
    Calls Try.prog 23 #[.agg #[.int .i64 P, .int .i64 (n : Int), .int .i64 (n : Int), dA], .agg #[.int .i64 P, .int .i64 (n : Int), .int .i64 (n : Int), dG]] w fun e w' =>
      ∃ (p : Option Addr) (k : Nat) (D : List Int), e = .returned (.tuple #[.agg #[.int .i64 P, .int .i64 (n : Int), .int .i64 (n : Int), .slice p D.length k], .bool true]) ∧ OwnI 3 w' w.heap.size w'.heap.size (.slice p D.length k) D ∧ Below w.heap.size w w' ∧
        IsFl P n n D ∧ ∀ i j, i < n → j < n → mf n (fun t => D.getD t 0) i j = pr n (mf n fun t => DA.getD t 0) (mf n fun t => DG.getD t 0) i j % P := by
  obtain ⟨m, _, e, hn0, hn7, hlA, hDA, hP2, hP7, hpr, hrk⟩ := ha.facts
  obtain rfl := Int.ofNat.inj e
  obtain ⟨D, e1, e2, hl, hr, hm⟩ := mul_sq ha.1 hg.1
  refine (implMul_any ⟨P, n, n, DA⟩ ⟨P, n, n, DG⟩ dA dG w hdA hdG).mono ?_
  rintro e w' ⟨u, h1, h2, h3⟩
  rw [e1] at h1 h2
  rw [e2] at h1
  obtain ⟨p, k, rfl, _, _⟩ := h2.shape
  exact ⟨p, k, D, h1, h2, h3, isFl_of hpr hn0 hn7 hl hr ((ha.indep.mul hg.indep).eqv fun i j hi hj => by rw [hm i j hi hj]; exact emod_dvd _ _), hm⟩

set_option maxRecDepth 100000 in
set_option maxHeartbeats 8000000 in
theorem lawFnRelative (p : Option Addr) (l cap : Nat) (w : World) (hl : l ≤ maxLen) (h : Byts w (.slice p l cap) l) :
    Calls Try.prog 5 #[.slice p l cap] w fun e w' => e = .returned (.bool true) ∧ Below w.heap.size w w' := by
  have Hl := Lib.hid hl
  have Hh := Lib.hid h
  clear hl h
  go_enter Try.func5, Try.ntmps5
  go_wp2_with fail
  refine (big_any p l cap _ Hl.out).mono ?_
  rintro e w' ⟨rfl, rfl⟩
  by_cases hb : 1048576 < l
  · have e1 : decide (1048576 < l) = true := by simp [hb]
    rw [e1]
    go_wp2_with fail
    go_ret
    exact ⟨rfl, Below.refl _ _⟩
  · have e1 : decide (1048576 < l) = false := by simp [hb]
    have hl2 : l ≤ 1048576 := by omega
    rw [e1]
    clear e1 hb
    go_wp2_with fail
    refine (DrawThreeFlags_any _ l _ Hh.out).mono ?_
    rintro e w1 ⟨P, n, ua, ub, uc, ug, DA, DB, DC, DG, rfl, hn5, ⟨hiA, hsA⟩, ⟨hiB, hsB⟩, ⟨hiC, hsC⟩, ⟨hiG, hsG⟩, hb1⟩
    have IA_1 := Lib.hid hiA
    have IB_1 := Lib.hid hiB
    have IG_1 := Lib.hid hiG
    have HsA := Lib.hid hsA
    have HsB := Lib.hid hsB
    have HsG := Lib.hid hsG
    have B_1 := Lib.hid hb1
    obtain ⟨pA, kA, rfl, -⟩ := hiA
    obtain ⟨pB, kB, rfl, -⟩ := hiB
    obtain ⟨pC, kC, rfl, -⟩ := hiC
    obtain ⟨pG, kG, rfl, -⟩ := hiG
    clear hsA hsB hsC hsG hb1
    go_wp2_with fail
    refine (rel1 P n _ _ DA DB _ (IA_1.out.below ((below_alloc3 w1 (.cells #[.int .i64 P, .int .i64 (n : Int), .int .i64 (n : Int), .slice pA DA.length kA] 26) (.cells #[.int .i64 P, .int .i64 (n : Int), .int .i64 (n : Int), .slice pB DB.length kB] 26) (.cells #[.int .i64 P, .int .i64 (n : Int), .int .i64 (n : Int), .slice pC DC.length kC] 26)).alloc (by simp; omega) (.cells #[.int .i64 P, .int .i64 (n : Int), .int .i64 (n : Int), .slice pG DG.length kG] 26))) (IB_1.out.below ((below_alloc3 w1 (.cells #[.int .i64 P, .int .i64 (n : Int), .int .i64 (n : Int), .slice pA DA.length kA] 26) (.cells #[.int .i64 P, .int .i64 (n : Int), .int .i64 (n : Int), .slice pB DB.length kB] 26) (.cells #[.int .i64 P, .int .i64 (n : Int), .int .i64 (n : Int), .slice pC DC.length kC] 26)).alloc (by simp; omega) (.cells #[.int .i64 P, .int .i64 (n : Int), .int .i64 (n : Int), .slice pG DG.length kG] 26)))).mono ?_
    rintro e w2 ⟨pW, kW, DW, rfl, ho, hb, hrW⟩
    have hoi := ho.ints
    clear ho
    have HrW := Lib.hid hrW
    clear hrW
    have bl2 : Below w1.heap.size w1 w2 := ((below_alloc3 w1 (.cells #[.int .i64 P, .int .i64 (n : Int), .int .i64 (n : Int), .slice pA DA.length kA] 26) (.cells #[.int .i64 P, .int .i64 (n : Int), .int .i64 (n : Int), .slice pB DB.length kB] 26) (.cells #[.int .i64 P, .int .i64 (n : Int), .int .i64 (n : Int), .slice pC DC.length kC] 26)).alloc (by simp; omega) (.cells #[.int .i64 P, .int .i64 (n : Int), .int .i64 (n : Int), .slice pG DG.length kG] 26)).trans (hb.mono (by first | (simp; done) | (simp; omega)))
    have sz2 : w1.heap.size + 4 ≤ w2.heap.size := by have := hb.size; simp at this; omega
    have B_2 := Lib.hid (B_1.out.trans (bl2.mono B_1.out.size))
    obtain ⟨z0, z1, z2⟩ := boxes4 w1 w2 (.cells #[.int .i64 P, .int .i64 (n : Int), .int .i64 (n : Int), .slice pA DA.length kA] 26) (.cells #[.int .i64 P, .int .i64 (n : Int), .int .i64 (n : Int), .slice pB DB.length kB] 26) (.cells #[.int .i64 P, .int .i64 (n : Int), .int .i64 (n : Int), .slice pC DC.length kC] 26) (.cells #[.int .i64 P, .int .i64 (n : Int), .int .i64 (n : Int), .slice pG DG.length kG] 26) hb
    have ZA_2 := Lib.hid z0
    have ZB_2 := Lib.hid z1
    have ZG_2 := Lib.hid z2
    clear z0 z1 z2
    have IA_2 := Lib.hid (IA_1.out.below bl2)
    have IB_2 := Lib.hid (IB_1.out.below bl2)
    have IG_2 := Lib.hid (IG_1.out.below bl2)
    clear hb bl2 IA_1 IB_1 IG_1 B_1
    have IW_2 := Lib.hid (hoi)
    clear hoi
    obtain ⟨cA0, cA1, cA2, cA3, cAf, cAz⟩ := blk4 ZA_2.out
    obtain ⟨cB0, cB1, cB2, cB3, cBf, cBz⟩ := blk4 ZB_2.out
    obtain ⟨cG0, cG1, cG2, cG3, cGf, cGz⟩ := blk4 ZG_2.out
    go_wp2_with fail
    refine (mul1 P n _ _ DA DG _ HsA.out HsG.out IA_2.out IG_2.out).mono ?_
    rintro e w3 ⟨pX, kX, DX, rfl, ho, hb, hfX, hmX⟩
    have hoi := ho.ints
    clear ho
    have HfX := Lib.hid hfX
    have HmX := Lib.hid hmX
    clear hfX hmX
    have bl3 : Below w2.heap.size w2 w3 := hb
    have sz3 : w2.heap.size ≤ w3.heap.size := hb.size
    have B_3 := Lib.hid (B_2.out.trans (bl3.mono B_2.out.size))
    have ZA_3 := Lib.hid (blk_later ZA_2.out bl3)
    have ZB_3 := Lib.hid (blk_later ZB_2.out bl3)
    have ZG_3 := Lib.hid (blk_later ZG_2.out bl3)
    have IA_3 := Lib.hid (IA_2.out.below bl3)
    have IB_3 := Lib.hid (IB_2.out.below bl3)
    have IG_3 := Lib.hid (IG_2.out.below bl3)
    have IW_3 := Lib.hid (IW_2.out.below bl3)
    clear hb bl3 ZA_2 ZB_2 ZG_2 IA_2 IB_2 IG_2 IW_2 B_2
    clear cA0 cA1 cA2 cA3 cAf cAz cB0 cB1 cB2 cB3 cBf cBz cG0 cG1 cG2 cG3 cGf cGz
    have IX_3 := Lib.hid (hoi)
    clear hoi
    obtain ⟨cA0, cA1, cA2, cA3, cAf, cAz⟩ := blk4 ZA_3.out
    obtain ⟨cB0, cB1, cB2, cB3, cBf, cBz⟩ := blk4 ZB_3.out
    obtain ⟨cG0, cG1, cG2, cG3, cGf, cGz⟩ := blk4 ZG_3.out
    go_wp2_with fail
    refine (mul1 P n _ _ DB DG _ HsB.out HsG.out (IB_3.out.below (below_alloc w3 (.cells #[.int .i64 P, .int .i64 (n : Int), .int .i64 (n : Int), .slice pX DX.length kX] 26))) (IG_3.out.below (below_alloc w3 (.cells #[.int .i64 P, .int .i64 (n : Int), .int .i64 (n : Int), .slice pX DX.length kX] 26)))).mono ?_
    rintro e w4 ⟨pY, kY, DY, rfl, ho, hb, hfY, hmY⟩
    have hoi := ho.ints
    clear ho
    have HfY := Lib.hid hfY
    have HmY := Lib.hid hmY
    clear hfY hmY
    have bl4 : Below w3.heap.size w3 w4 := (below_alloc w3 (.cells #[.int .i64 P, .int .i64 (n : Int), .int .i64 (n : Int), .slice pX DX.length kX] 26)).trans (hb.mono (by first | (simp; done) | (simp; omega)))
    have sz4 : w3.heap.size + 1 ≤ w4.heap.size := by have := hb.size; simp at this; omega
    have B_4 := Lib.hid (B_3.out.trans (bl4.mono B_3.out.size))
    have ZA_4 := Lib.hid (blk_later ZA_3.out bl4)
    have ZB_4 := Lib.hid (blk_later ZB_3.out bl4)
    have ZG_4 := Lib.hid (blk_later ZG_3.out bl4)
    have ZX_4 := Lib.hid ((hb.block _ (by simp)).trans (heap_alloc_top w3 (.cells #[.int .i64 P, .int .i64 (n : Int), .int .i64 (n : Int), .slice pX DX.length kX] 26)))
    have IA_4 := Lib.hid (IA_3.out.below bl4)
    have IB_4 := Lib.hid (IB_3.out.below bl4)
    have IG_4 := Lib.hid (IG_3.out.below bl4)
    have IW_4 := Lib.hid (IW_3.out.below bl4)
    have IX_4 := Lib.hid (IX_3.out.below bl4)
    clear hb bl4 ZA_3 ZB_3 ZG_3 IA_3 IB_3 IG_3 IW_3 IX_3 B_3
    clear cA0 cA1 cA2 cA3 cAf cAz cB0 cB1 cB2 cB3 cBf cBz cG0 cG1 cG2 cG3 cGf cGz
    have IY_4 := Lib.hid (hoi)
    clear hoi
    have HpW := Lib.hid (rel_perm HsA.out HsB.out HrW.out)
    obtain ⟨cA0, cA1, cA2, cA3, cAf, cAz⟩ := blk4 ZA_4.out
    obtain ⟨cB0, cB1, cB2, cB3, cBf, cBz⟩ := blk4 ZB_4.out
    obtain ⟨cG0, cG1, cG2, cG3, cGf, cGz⟩ := blk4 ZG_4.out
    obtain ⟨cX0, cX1, cX2, cX3, cXf, cXz⟩ := blk4 ZX_4.out
    go_wp2_with fail
    refine (implIsPerm_b _ DW true HpW.out _ (IW_4.out.below (below_alloc w4 (.cells #[.int .i64 P, .int .i64 (n : Int), .int .i64 (n : Int), .slice pY DY.length kY] 26)))).mono ?_
    rintro e w5 ⟨rfl, hb⟩
    have bl5 : Below w4.heap.size w4 w5 := (below_alloc w4 (.cells #[.int .i64 P, .int .i64 (n : Int), .int .i64 (n : Int), .slice pY DY.length kY] 26)).trans (hb.mono (by first | (simp; done) | (simp; omega)))
    have sz5 : w4.heap.size + 1 ≤ w5.heap.size := by have := hb.size; simp at this; omega
    have B_5 := Lib.hid (B_4.out.trans (bl5.mono B_4.out.size))
    have ZA_5 := Lib.hid (blk_later ZA_4.out bl5)
    have ZB_5 := Lib.hid (blk_later ZB_4.out bl5)
    have ZG_5 := Lib.hid (blk_later ZG_4.out bl5)
    have ZX_5 := Lib.hid (blk_later ZX_4.out bl5)
    have ZY_5 := Lib.hid ((hb.block _ (by simp)).trans (heap_alloc_top w4 (.cells #[.int .i64 P, .int .i64 (n : Int), .int .i64 (n : Int), .slice pY DY.length kY] 26)))
    have IA_5 := Lib.hid (IA_4.out.below bl5)
    have IB_5 := Lib.hid (IB_4.out.below bl5)
    have IG_5 := Lib.hid (IG_4.out.below bl5)
    have IW_5 := Lib.hid (IW_4.out.below bl5)
    have IX_5 := Lib.hid (IX_4.out.below bl5)
    have IY_5 := Lib.hid (IY_4.out.below bl5)
    clear hb bl5 ZA_4 ZB_4 ZG_4 ZX_4 IA_4 IB_4 IG_4 IW_4 IX_4 IY_4 B_4
    clear cA0 cA1 cA2 cA3 cAf cAz cB0 cB1 cB2 cB3 cBf cBz cG0 cG1 cG2 cG3 cGf cGz cX0 cX1 cX2 cX3 cXf cXz
    obtain ⟨cA0, cA1, cA2, cA3, cAf, cAz⟩ := blk4 ZA_5.out
    obtain ⟨cB0, cB1, cB2, cB3, cBf, cBz⟩ := blk4 ZB_5.out
    obtain ⟨cG0, cG1, cG2, cG3, cGf, cGz⟩ := blk4 ZG_5.out
    obtain ⟨cX0, cX1, cX2, cX3, cXf, cXz⟩ := blk4 ZX_5.out
    obtain ⟨cY0, cY1, cY2, cY3, cYf, cYz⟩ := blk4 ZY_5.out
    go_wp2_with fail
    refine (rel1 P n _ _ DB DA _ IB_5.out IA_5.out).mono ?_
    rintro e w6 ⟨pV, kV, DV, rfl, ho, hb, hrV⟩
    have hoi := ho.ints
    clear ho
    have HR := Lib.hid (RlP.of HsA.out HsB.out HrW.out hrV)
    clear hrV
    have HVU := Lib.hid (HR.out.inv HsA.out HsB.out)
    have bl6 : Below w5.heap.size w5 w6 := hb
    have sz6 : w5.heap.size ≤ w6.heap.size := hb.size
    have B_6 := Lib.hid (B_5.out.trans (bl6.mono B_5.out.size))
    have ZA_6 := Lib.hid (blk_later ZA_5.out bl6)
    have ZB_6 := Lib.hid (blk_later ZB_5.out bl6)
    have ZG_6 := Lib.hid (blk_later ZG_5.out bl6)
    have ZX_6 := Lib.hid (blk_later ZX_5.out bl6)
    have ZY_6 := Lib.hid (blk_later ZY_5.out bl6)
    have IA_6 := Lib.hid (IA_5.out.below bl6)
    have IB_6 := Lib.hid (IB_5.out.below bl6)
    have IG_6 := Lib.hid (IG_5.out.below bl6)
    have IW_6 := Lib.hid (IW_5.out.below bl6)
    have IX_6 := Lib.hid (IX_5.out.below bl6)
    have IY_6 := Lib.hid (IY_5.out.below bl6)
    clear hb bl6 ZA_5 ZB_5 ZG_5 ZX_5 ZY_5 IA_5 IB_5 IG_5 IW_5 IX_5 IY_5 B_5
    clear cA0 cA1 cA2 cA3 cAf cAz cB0 cB1 cB2 cB3 cBf cBz cG0 cG1 cG2 cG3 cGf cGz cX0 cX1 cX2 cX3 cXf cXz cY0 cY1 cY2 cY3 cYf cYz
    have IV_6 := Lib.hid (hoi)
    clear hoi
    obtain ⟨cA0, cA1, cA2, cA3, cAf, cAz⟩ := blk4 ZA_6.out
    obtain ⟨cB0, cB1, cB2, cB3, cBf, cBz⟩ := blk4 ZB_6.out
    obtain ⟨cG0, cG1, cG2, cG3, cGf, cGz⟩ := blk4 ZG_6.out
    obtain ⟨cX0, cX1, cX2, cX3, cXf, cXz⟩ := blk4 ZX_6.out
    obtain ⟨cY0, cY1, cY2, cY3, cYf, cYz⟩ := blk4 ZY_6.out
    go_wp2_with fail
    refine (implInverse_any _ DW _ IW_6.out HpW.out).mono ?_
    rintro e w7 ⟨u, rfl, ho, hb⟩
    obtain ⟨pU, kU, rfl, _, _⟩ := ho.shape
    have hoi := ho.ints
    clear ho
    obtain ⟨DU, hDU⟩ : ∃ x, x = invL DW := ⟨_, rfl⟩
    rw [← hDU] at hoi ⊢
    have HU := Lib.hid (HVU.out.trans hDU.symm)
    clear hDU HVU
    have bl7 : Below w6.heap.size w6 w7 := hb
    have sz7 : w6.heap.size ≤ w7.heap.size := hb.size
    have B_7 := Lib.hid (B_6.out.trans (bl7.mono B_6.out.size))
    have ZA_7 := Lib.hid (blk_later ZA_6.out bl7)
    have ZB_7 := Lib.hid (blk_later ZB_6.out bl7)
    have ZG_7 := Lib.hid (blk_later ZG_6.out bl7)
    have ZX_7 := Lib.hid (blk_later ZX_6.out bl7)
    have ZY_7 := Lib.hid (blk_later ZY_6.out bl7)
    have IA_7 := Lib.hid (IA_6.out.below bl7)
    have IB_7 := Lib.hid (IB_6.out.below bl7)
    have IG_7 := Lib.hid (IG_6.out.below bl7)
    have IV_7 := Lib.hid (IV_6.out.below bl7)
    have IW_7 := Lib.hid (IW_6.out.below bl7)
    have IX_7 := Lib.hid (IX_6.out.below bl7)
    have IY_7 := Lib.hid (IY_6.out.below bl7)
    clear hb bl7 ZA_6 ZB_6 ZG_6 ZX_6 ZY_6 IA_6 IB_6 IG_6 IV_6 IW_6 IX_6 IY_6 B_6
    clear cA0 cA1 cA2 cA3 cAf cAz cB0 cB1 cB2 cB3 cBf cBz cG0 cG1 cG2 cG3 cGf cGz cX0 cX1 cX2 cX3 cXf cXz cY0 cY1 cY2 cY3 cYf cYz
    have IU_7 := Lib.hid (hoi)
    clear hoi
    obtain ⟨cA0, cA1, cA2, cA3, cAf, cAz⟩ := blk4 ZA_7.out
    obtain ⟨cB0, cB1, cB2, cB3, cBf, cBz⟩ := blk4 ZB_7.out
    obtain ⟨cG0, cG1, cG2, cG3, cGf, cGz⟩ := blk4 ZG_7.out
    obtain ⟨cX0, cX1, cX2, cX3, cXf, cXz⟩ := blk4 ZX_7.out
    obtain ⟨cY0, cY1, cY2, cY3, cYf, cYz⟩ := blk4 ZY_7.out
    go_wp2_with fail
    refine (lawInts_any _ _ DV DU _ IV_7.out IU_7.out).mono ?_
    rintro e w8 ⟨rfl, hq⟩
    have hb := hq.below w7.heap.size
    clear hq
    rw [show decide (DV = DU) = true from decide_eq_true HU.out]
    have bl8 : Below w7.heap.size w7 w8 := hb
    have sz8 : w7.heap.size ≤ w8.heap.size := hb.size
    have B_8 := Lib.hid (B_7.out.trans (bl8.mono B_7.out.size))
    have ZA_8 := Lib.hid (blk_later ZA_7.out bl8)
    have ZB_8 := Lib.hid (blk_later ZB_7.out bl8)
    have ZG_8 := Lib.hid (blk_later ZG_7.out bl8)
    have ZX_8 := Lib.hid (blk_later ZX_7.out bl8)
    have ZY_8 := Lib.hid (blk_later ZY_7.out bl8)
    have IA_8 := Lib.hid (IA_7.out.below bl8)
    have IB_8 := Lib.hid (IB_7.out.below bl8)
    have IG_8 := Lib.hid (IG_7.out.below bl8)
    have IU_8 := Lib.hid (IU_7.out.below bl8)
    have IV_8 := Lib.hid (IV_7.out.below bl8)
    have IW_8 := Lib.hid (IW_7.out.below bl8)
    have IX_8 := Lib.hid (IX_7.out.below bl8)
    have IY_8 := Lib.hid (IY_7.out.below bl8)
    clear hb bl8 ZA_7 ZB_7 ZG_7 ZX_7 ZY_7 IA_7 IB_7 IG_7 IU_7 IV_7 IW_7 IX_7 IY_7 B_7
    clear cA0 cA1 cA2 cA3 cAf cAz cB0 cB1 cB2 cB3 cBf cBz cG0 cG1 cG2 cG3 cGf cGz cX0 cX1 cX2 cX3 cXf cXz cY0 cY1 cY2 cY3 cYf cYz
    obtain ⟨cA0, cA1, cA2, cA3, cAf, cAz⟩ := blk4 ZA_8.out
    obtain ⟨cB0, cB1, cB2, cB3, cBf, cBz⟩ := blk4 ZB_8.out
    obtain ⟨cG0, cG1, cG2, cG3, cGf, cGz⟩ := blk4 ZG_8.out
    obtain ⟨cX0, cX1, cX2, cX3, cXf, cXz⟩ := blk4 ZX_8.out
    obtain ⟨cY0, cY1, cY2, cY3, cYf, cYz⟩ := blk4 ZY_8.out
    go_wp2_with fail
    refine (rel1 P n _ _ DX DY _ IX_8.out IY_8.out).mono ?_
    rintro e w9 ⟨pT, kT, DT, rfl, ho, hb, hrT⟩
    have hoi := ho.ints
    clear ho
    have HT := Lib.hid (HR.out.moved HsA.out HsB.out HsG.out HmX.out HmY.out HfX.out HfY.out hrT)
    clear hrT
    have bl9 : Below w8.heap.size w8 w9 := hb
    have sz9 : w8.heap.size ≤ w9.heap.size := hb.size
    have B_9 := Lib.hid (B_8.out.trans (bl9.mono B_8.out.size))
    have ZA_9 := Lib.hid (blk_later ZA_8.out bl9)
    have ZB_9 := Lib.hid (blk_later ZB_8.out bl9)
    have ZG_9 := Lib.hid (blk_later ZG_8.out bl9)
    have ZX_9 := Lib.hid (blk_later ZX_8.out bl9)
    have ZY_9 := Lib.hid (blk_later ZY_8.out bl9)
    have IA_9 := Lib.hid (IA_8.out.below bl9)
    have IB_9 := Lib.hid (IB_8.out.below bl9)
    have IG_9 := Lib.hid (IG_8.out.below bl9)
    have IU_9 := Lib.hid (IU_8.out.below bl9)
    have IV_9 := Lib.hid (IV_8.out.below bl9)
    have IW_9 := Lib.hid (IW_8.out.below bl9)
    have IX_9 := Lib.hid (IX_8.out.below bl9)
    have IY_9 := Lib.hid (IY_8.out.below bl9)
    clear hb bl9 ZA_8 ZB_8 ZG_8 ZX_8 ZY_8 IA_8 IB_8 IG_8 IU_8 IV_8 IW_8 IX_8 IY_8 B_8
    clear cA0 cA1 cA2 cA3 cAf cAz cB0 cB1 cB2 cB3 cBf cBz cG0 cG1 cG2 cG3 cGf cGz cX0 cX1 cX2 cX3 cXf cXz cY0 cY1 cY2 cY3 cYf cYz
    have IT_9 := Lib.hid (hoi)
    clear hoi
    obtain ⟨cA0, cA1, cA2, cA3, cAf, cAz⟩ := blk4 ZA_9.out
    obtain ⟨cB0, cB1, cB2, cB3, cBf, cBz⟩ := blk4 ZB_9.out
    obtain ⟨cG0, cG1, cG2, cG3, cGf, cGz⟩ := blk4 ZG_9.out
    obtain ⟨cX0, cX1, cX2, cX3, cXf, cXz⟩ := blk4 ZX_9.out
    obtain ⟨cY0, cY1, cY2, cY3, cYf, cYz⟩ := blk4 ZY_9.out
    go_wp2_with fail
    refine (lawInts_any _ _ DT DW _ IT_9.out IW_9.out).mono ?_
    rintro e w10 ⟨rfl, hq⟩
    have hb := hq.below w9.heap.size
    clear hq
    rw [show decide (DT = DW) = true from decide_eq_true HT.out]
    have bl10 : Below w9.heap.size w9 w10 := hb
    have sz10 : w9.heap.size ≤ w10.heap.size := hb.size
    have B_10 := Lib.hid (B_9.out.trans (bl10.mono B_9.out.size))
    have ZA_10 := Lib.hid (blk_later ZA_9.out bl10)
    have ZB_10 := Lib.hid (blk_later ZB_9.out bl10)
    have ZG_10 := Lib.hid (blk_later ZG_9.out bl10)
    have ZX_10 := Lib.hid (blk_later ZX_9.out bl10)
    have ZY_10 := Lib.hid (blk_later ZY_9.out bl10)
    have IA_10 := Lib.hid (IA_9.out.below bl10)
    have IB_10 := Lib.hid (IB_9.out.below bl10)
    have IG_10 := Lib.hid (IG_9.out.below bl10)
    have IT_10 := Lib.hid (IT_9.out.below bl10)
    have IU_10 := Lib.hid (IU_9.out.below bl10)
    have IV_10 := Lib.hid (IV_9.out.below bl10)
    have IW_10 := Lib.hid (IW_9.out.below bl10)
    have IX_10 := Lib.hid (IX_9.out.below bl10)
    have IY_10 := Lib.hid (IY_9.out.below bl10)
    clear hb bl10 ZA_9 ZB_9 ZG_9 ZX_9 ZY_9 IA_9 IB_9 IG_9 IT_9 IU_9 IV_9 IW_9 IX_9 IY_9 B_9
    clear cA0 cA1 cA2 cA3 cAf cAz cB0 cB1 cB2 cB3 cBf cBz cG0 cG1 cG2 cG3 cGf cGz cX0 cX1 cX2 cX3 cXf cXz cY0 cY1 cY2 cY3 cYf cYz
    obtain ⟨cA0, cA1, cA2, cA3, cAf, cAz⟩ := blk4 ZA_10.out
    obtain ⟨cB0, cB1, cB2, cB3, cBf, cBz⟩ := blk4 ZB_10.out
    obtain ⟨cG0, cG1, cG2, cG3, cGf, cGz⟩ := blk4 ZG_10.out
    obtain ⟨cX0, cX1, cX2, cX3, cXf, cXz⟩ := blk4 ZX_10.out
    obtain ⟨cY0, cY1, cY2, cY3, cYf, cYz⟩ := blk4 ZY_10.out
    go_wp2_with fail
    refine (norm1 P n _ DA _ HsA.out IA_10.out).mono ?_
    rintro e w11 ⟨pM, kM, DM, rfl, ho, hb, hrM⟩
    have hoi := ho.ints
    clear ho
    have HrM := Lib.hid hrM
    clear hrM
    have bl11 : Below w10.heap.size w10 w11 := hb
    have sz11 : w10.heap.size ≤ w11.heap.size := hb.size
    have B_11 := Lib.hid (B_10.out.trans (bl11.mono B_10.out.size))
    have ZA_11 := Lib.hid (blk_later ZA_10.out bl11)
    have ZB_11 := Lib.hid (blk_later ZB_10.out bl11)
    have ZG_11 := Lib.hid (blk_later ZG_10.out bl11)
    have ZX_11 := Lib.hid (blk_later ZX_10.out bl11)
    have ZY_11 := Lib.hid (blk_later ZY_10.out bl11)
    have IA_11 := Lib.hid (IA_10.out.below bl11)
    have IB_11 := Lib.hid (IB_10.out.below bl11)
    have IG_11 := Lib.hid (IG_10.out.below bl11)
    have IT_11 := Lib.hid (IT_10.out.below bl11)
    have IU_11 := Lib.hid (IU_10.out.below bl11)
    have IV_11 := Lib.hid (IV_10.out.below bl11)
    have IW_11 := Lib.hid (IW_10.out.below bl11)
    have IX_11 := Lib.hid (IX_10.out.below bl11)
    have IY_11 := Lib.hid (IY_10.out.below bl11)
    clear hb bl11 ZA_10 ZB_10 ZG_10 ZX_10 ZY_10 IA_10 IB_10 IG_10 IT_10 IU_10 IV_10 IW_10 IX_10 IY_10 B_10
    clear cA0 cA1 cA2 cA3 cAf cAz cB0 cB1 cB2 cB3 cBf cBz cG0 cG1 cG2 cG3 cGf cGz cX0 cX1 cX2 cX3 cXf cXz cY0 cY1 cY2 cY3 cYf cYz
    have IM_11 := Lib.hid (hoi)
    clear hoi
    obtain ⟨cA0, cA1, cA2, cA3, cAf, cAz⟩ := blk4 ZA_11.out
    obtain ⟨cB0, cB1, cB2, cB3, cBf, cBz⟩ := blk4 ZB_11.out
    obtain ⟨cG0, cG1, cG2, cG3, cGf, cGz⟩ := blk4 ZG_11.out
    obtain ⟨cX0, cX1, cX2, cX3, cXf, cXz⟩ := blk4 ZX_11.out
    obtain ⟨cY0, cY1, cY2, cY3, cYf, cYz⟩ := blk4 ZY_11.out
    go_wp2_with fail
    refine (norm1 P n _ DB _ HsB.out (IB_11.out.below (below_alloc w11 (.cells #[.int .i64 P, .int .i64 (n : Int), .int .i64 (n : Int), .slice pM DM.length kM] 26)))).mono ?_
    rintro e w12 ⟨pN, kN, DN, rfl, ho, hb, hrN⟩
    have hoi := ho.ints
    clear ho
    have HrN := Lib.hid hrN
    clear hrN
    have bl12 : Below w11.heap.size w11 w12 := (below_alloc w11 (.cells #[.int .i64 P, .int .i64 (n : Int), .int .i64 (n : Int), .slice pM DM.length kM] 26)).trans (hb.mono (by first | (simp; done) | (simp; omega)))
    have sz12 : w11.heap.size + 1 ≤ w12.heap.size := by have := hb.size; simp at this; omega
    have B_12 := Lib.hid (B_11.out.trans (bl12.mono B_11.out.size))
    have ZA_12 := Lib.hid (blk_later ZA_11.out bl12)
    have ZB_12 := Lib.hid (blk_later ZB_11.out bl12)
    have ZG_12 := Lib.hid (blk_later ZG_11.out bl12)
    have ZX_12 := Lib.hid (blk_later ZX_11.out bl12)
    have ZY_12 := Lib.hid (blk_later ZY_11.out bl12)
    have ZM_12 := Lib.hid ((hb.block _ (by simp)).trans (heap_alloc_top w11 (.cells #[.int .i64 P, .int .i64 (n : Int), .int .i64 (n : Int), .slice pM DM.length kM] 26)))
    have IA_12 := Lib.hid (IA_11.out.below bl12)
    have IB_12 := Lib.hid (IB_11.out.below bl12)
    have IG_12 := Lib.hid (IG_11.out.below bl12)
    have IM_12 := Lib.hid (IM_11.out.below bl12)
    have IT_12 := Lib.hid (IT_11.out.below bl12)
    have IU_12 := Lib.hid (IU_11.out.below bl12)
    have IV_12 := Lib.hid (IV_11.out.below bl12)
    have IW_12 := Lib.hid (IW_11.out.below bl12)
    have IX_12 := Lib.hid (IX_11.out.below bl12)
    have IY_12 := Lib.hid (IY_11.out.below bl12)
    clear hb bl12 ZA_11 ZB_11 ZG_11 ZX_11 ZY_11 IA_11 IB_11 IG_11 IM_11 IT_11 IU_11 IV_11 IW_11 IX_11 IY_11 B_11
    clear cA0 cA1 cA2 cA3 cAf cAz cB0 cB1 cB2 cB3 cBf cBz cG0 cG1 cG2 cG3 cGf cGz cX0 cX1 cX2 cX3 cXf cXz cY0 cY1 cY2 cY3 cYf cYz
    have IN_12 := Lib.hid (hoi)
    clear hoi
    have Hiff := Lib.hid (HR.out.same HsA.out HsB.out HrM.out HrN.out HrW.out)
    obtain ⟨cA0, cA1, cA2, cA3, cAf, cAz⟩ := blk4 ZA_12.out
    obtain ⟨cB0, cB1, cB2, cB3, cBf, cBz⟩ := blk4 ZB_12.out
    obtain ⟨cG0, cG1, cG2, cG3, cGf, cGz⟩ := blk4 ZG_12.out
    obtain ⟨cX0, cX1, cX2, cX3, cXf, cXz⟩ := blk4 ZX_12.out
    obtain ⟨cY0, cY1, cY2, cY3, cYf, cYz⟩ := blk4 ZY_12.out
    obtain ⟨cM0, cM1, cM2, cM3, cMf, cMz⟩ := blk4 ZM_12.out
    go_wp2_with fail
    refine (lawMatrices_any _ _ _ _ _ _ _ _ DM DN _ (IM_12.out.below (below_alloc w12 (.cells #[.int .i64 P, .int .i64 (n : Int), .int .i64 (n : Int), .slice pN DN.length kN] 26))) (IN_12.out.below (below_alloc w12 (.cells #[.int .i64 P, .int .i64 (n : Int), .int .i64 (n : Int), .slice pN DN.length kN] 26)))).mono ?_
    rintro e w13 ⟨rfl, hb⟩
    rw [show mxSame P n n DM P n n DN = decide (lenP DW = 0) from mx_dec Hiff.out]
    have bl13 : Below w12.heap.size w12 w13 := (below_alloc w12 (.cells #[.int .i64 P, .int .i64 (n : Int), .int .i64 (n : Int), .slice pN DN.length kN] 26)).trans (hb.mono (by first | (simp; done) | (simp; omega)))
    have sz13 : w12.heap.size + 1 ≤ w13.heap.size := by have := hb.size; simp at this; omega
    have B_13 := Lib.hid (B_12.out.trans (bl13.mono B_12.out.size))
    have ZA_13 := Lib.hid (blk_later ZA_12.out bl13)
    have ZB_13 := Lib.hid (blk_later ZB_12.out bl13)
    have ZG_13 := Lib.hid (blk_later ZG_12.out bl13)
    have ZX_13 := Lib.hid (blk_later ZX_12.out bl13)
    have ZY_13 := Lib.hid (blk_later ZY_12.out bl13)
    have ZM_13 := Lib.hid (blk_later ZM_12.out bl13)
    have ZN_13 := Lib.hid ((hb.block _ (by simp)).trans (heap_alloc_top w12 (.cells #[.int .i64 P, .int .i64 (n : Int), .int .i64 (n : Int), .slice pN DN.length kN] 26)))
    have IA_13 := Lib.hid (IA_12.out.below bl13)
    have IB_13 := Lib.hid (IB_12.out.below bl13)
    have IG_13 := Lib.hid (IG_12.out.below bl13)
    have IM_13 := Lib.hid (IM_12.out.below bl13)
    have IN_13 := Lib.hid (IN_12.out.below bl13)
    have IT_13 := Lib.hid (IT_12.out.below bl13)
    have IU_13 := Lib.hid (IU_12.out.below bl13)
    have IV_13 := Lib.hid (IV_12.out.below bl13)
    have IW_13 := Lib.hid (IW_12.out.below bl13)
    have IX_13 := Lib.hid (IX_12.out.below bl13)
    have IY_13 := Lib.hid (IY_12.out.below bl13)
    clear hb bl13 ZA_12 ZB_12 ZG_12 ZX_12 ZY_12 ZM_12 IA_12 IB_12 IG_12 IM_12 IN_12 IT_12 IU_12 IV_12 IW_12 IX_12 IY_12 B_12
    clear cA0 cA1 cA2 cA3 cAf cAz cB0 cB1 cB2 cB3 cBf cBz cG0 cG1 cG2 cG3 cGf cGz cX0 cX1 cX2 cX3 cXf cXz cY0 cY1 cY2 cY3 cYf cYz cM0 cM1 cM2 cM3 cMf cMz
    obtain ⟨cA0, cA1, cA2, cA3, cAf, cAz⟩ := blk4 ZA_13.out
    obtain ⟨cB0, cB1, cB2, cB3, cBf, cBz⟩ := blk4 ZB_13.out
    obtain ⟨cG0, cG1, cG2, cG3, cGf, cGz⟩ := blk4 ZG_13.out
    obtain ⟨cX0, cX1, cX2, cX3, cXf, cXz⟩ := blk4 ZX_13.out
    obtain ⟨cY0, cY1, cY2, cY3, cYf, cYz⟩ := blk4 ZY_13.out
    obtain ⟨cM0, cM1, cM2, cM3, cMf, cMz⟩ := blk4 ZM_13.out
    obtain ⟨cN0, cN1, cN2, cN3, cNf, cNz⟩ := blk4 ZN_13.out
    go_wp2_with fail
    refine (implLength_any _ DW _ IW_13.out HpW.out).mono ?_
    rintro e w14 ⟨rfl, hb⟩
    have bl14 : Below w13.heap.size w13 w14 := hb
    have sz14 : w13.heap.size ≤ w14.heap.size := hb.size
    have B_14 := Lib.hid (B_13.out.trans (bl14.mono B_13.out.size))
    have ZA_14 := Lib.hid (blk_later ZA_13.out bl14)
    have ZB_14 := Lib.hid (blk_later ZB_13.out bl14)
    have ZG_14 := Lib.hid (blk_later ZG_13.out bl14)
    have ZX_14 := Lib.hid (blk_later ZX_13.out bl14)
    have ZY_14 := Lib.hid (blk_later ZY_13.out bl14)
    have ZM_14 := Lib.hid (blk_later ZM_13.out bl14)
    have ZN_14 := Lib.hid (blk_later ZN_13.out bl14)
    have IA_14 := Lib.hid (IA_13.out.below bl14)
    have IB_14 := Lib.hid (IB_13.out.below bl14)
    have IG_14 := Lib.hid (IG_13.out.below bl14)
    have IM_14 := Lib.hid (IM_13.out.below bl14)
    have IN_14 := Lib.hid (IN_13.out.below bl14)
    have IT_14 := Lib.hid (IT_13.out.below bl14)
    have IU_14 := Lib.hid (IU_13.out.below bl14)
    have IV_14 := Lib.hid (IV_13.out.below bl14)
    have IW_14 := Lib.hid (IW_13.out.below bl14)
    have IX_14 := Lib.hid (IX_13.out.below bl14)
    have IY_14 := Lib.hid (IY_13.out.below bl14)
    clear hb bl14 ZA_13 ZB_13 ZG_13 ZX_13 ZY_13 ZM_13 ZN_13 IA_13 IB_13 IG_13 IM_13 IN_13 IT_13 IU_13 IV_13 IW_13 IX_13 IY_13 B_13
    clear cA0 cA1 cA2 cA3 cAf cAz cB0 cB1 cB2 cB3 cBf cBz cG0 cG1 cG2 cG3 cGf cGz cX0 cX1 cX2 cX3 cXf cXz cY0 cY1 cY2 cY3 cYf cYz cM0 cM1 cM2 cM3 cMf cMz cN0 cN1 cN2 cN3 cNf cNz
    by_cases hz : lenP DW = 0
    · have e0 : decide (lenP DW = 0) = true := decide_eq_true hz
      have e2 : ((lenP DW : Nat) : Int) = 0 := by rw [hz]; rfl
      rw [e0, e2]
      go_wp2_with fail
      go_ret
      exact ⟨rfl, B_14.out⟩
    · have e0 : decide (lenP DW = 0) = false := decide_eq_false hz
      have e2 : ¬ ((lenP DW : Nat) : Int) = 0 := fun e => hz (Int.ofNat.inj e)
      have e3 : (((lenP DW : Nat) : Int) == 0) = false := by simp [hz]
      rw [e0]
      go_wp2_with (first | (rw [e3]; done) | fail)
      go_ret
      exact ⟨rfl, B_14.out⟩

end Go.Proofs.Ytmnlpkmnbjoicaa
