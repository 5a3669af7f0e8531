/-
  The program's product of matrices.
-/
import Derived.Test.YtebfnjffjedmgaaMulS
import Derived.Test.YtebfnjffjedmgaaApp2
namespace Go.Proofs.Ytebfnjffjedmgaa
set_option linter.all false
open Go.RowKit

/-- row i of the product, the first k products added -/
def partRow (P : Int) (ca cb : Nat) (A B : List Int) (i k : Nat) : List Int := (List.range cb).map fun (j : Nat) => (sumTo k fun k => A.getD (i * ca + k) 0 * B.getD (k * cb + j) 0) % P
theorem partRow_length (P : Int) (ca cb : Nat) (A B : List Int) (i k : Nat) : (partRow P ca cb A B i k).length = cb := by simp [partRow]
theorem partRow_getD {P : Int} {ca cb : Nat} {A B : List Int} {i k j : Nat} (h : j < cb) : (partRow P ca cb A B i k).getD j 0 = (sumTo k fun k => A.getD (i * ca + k) 0 * B.getD (k * cb + j) 0) % P := by
  simp [partRow, List.getD_eq_getElem?_getD, h]
theorem partRow_succ {P : Int} {ca cb : Nat} {A B : List Int} {i k : Nat} : addRowL P (A.getD (i * ca + k) 0) (partRow P ca cb A B i k) (rowAt cb B k) = partRow P ca cb A B i (k + 1) := by
  apply getD_eq_list (by rw [addRowL_length, partRow_length, partRow_length])
  intro j hj
  rw [addRowL_length, partRow_length] at hj
  rw [addRowL_getD (by rw [partRow_length]; exact hj), partRow_getD hj, partRow_getD hj, rowAt_getD hj]
  simp only [sumTo, Int.emod_add_emod]
theorem partRow_small {P : Int} (h0 : 0 < P) (h1 : P ≤ 1000) (ca cb : Nat) (A B : List Int) (i k : Nat) : Small (partRow P ca cb A B i k) := by
  intro x hx
  simp only [partRow, List.mem_map, List.mem_range] at hx
  obtain ⟨j, _, rfl⟩ := hx
  have := Int.emod_nonneg (sumTo k fun k => A.getD (i * ca + k) 0 * B.getD (k * cb + j) 0) (show P ≠ 0 by omega)
  have := Int.emod_lt_of_pos (sumTo k fun k => A.getD (i * ca + k) 0 * B.getD (k * cb + j) 0) h0
  omega
theorem Boxes3.later_low {w : World} {T Tz : TypeId} {a b : Mx} {da db : Value} {wr wx : World} (h : Boxes3 w T Tz a b da db wr) {B : Nat} (hb : Below B wr wx) (hB : w.heap.size + 1 + 1 < B) : Boxes3 w T Tz a b da db wx :=
  ⟨by rw [hb.block _ (by omega)]; exact h.1, by rw [hb.block _ (by omega)]; exact h.2.1, by rw [hb.block _ hB]; exact h.2.2.1, h.2.2.2.trans (hb.mono (by omega))⟩
theorem mulRows_eq (P : Int) (ra ca cb : Nat) (A B : List Int) : mulRows P ra ca cb A B = (List.range ra).map fun i => partRow P ca cb A B i ca := rfl
theorem small_of_range {D : List Int} {P : Int} (h : ∀ x ∈ D, 0 ≤ x ∧ x < P) (hP : P ≤ 1000) : Small D := fun x hx => by have := h x hx; omega
theorem rowAt_small {D : List Int} (h : Small D) (C i : Nat) : Small (rowAt C D i) := fun x hx => h x (List.mem_of_mem_drop (List.mem_of_mem_take hx))

set_option maxRecDepth 100000 in
set_option maxHeartbeats 4000000 in
theorem implMul_yes (a b : Mx) (da db : Value) (w : World) (ha : Ints w da a.D) (hb : Ints w db b.D) (h1 : mxOk a.P a.R a.C a.D = true) (h2 : mxOk b.P b.R b.C b.D = true) (h3 : a.P = b.P) (h4 : a.C = b.R) :
    Calls Try.prog 28 #[.agg #[.int .i64 a.P, .int .i64 a.R, .int .i64 a.C, da], .agg #[.int .i64 b.P, .int .i64 b.R, .int .i64 b.C, db]] w
      (RetMB w (mulMx a b) (mulFits a b)) := by
  have Ha := Lib.hid ha
  have Hb := Lib.hid hb
  obtain ⟨pa, ka, rfl, ⟨la, ma⟩, _⟩ := ha
  obtain ⟨pb, kb, rfl, ⟨lb, mb⟩, _⟩ := hb
  unfold maxLen at ma mb
  have Hst := Lib.hid (boxes3_start w 36 36 a b (.slice pa a.D.length ka) (.slice pb b.D.length kb))
  have hf : mulFits a b = true := by unfold mulFits; rw [h1, h2, decide_eq_true h3, decide_eq_true h4]; rfl
  have hm : mulMx a b = ⟨a.P, a.R, b.C, (mulRows a.P a.R.toNat a.C.toNat b.C.toNat a.D b.D).flatten⟩ := by simp [mulMx, hf]
  rw [hf, hm]
  have H1 := Lib.hid h1
  have H2 := Lib.hid h2
  have h3' : (a.P != b.P) = false := by simp [h3]
  have h4' : (a.C != b.R) = false := by simp [h4]
  obtain ⟨aP, aR, aC, A⟩ := a
  obtain ⟨bP, bR, bC, B⟩ := b
  simp only at *
  subst h3 h4
  obtain ⟨ra, ca, rfl, rfl, hra, hca0, hca, hlA, hA, hP2, hP7, hpr⟩ := mxOk_facts h1
  obtain ⟨_, cb, e1, rfl, hrb, hcb0, hcb, hlB, hB, _, _, _⟩ := mxOk_facts h2
  have e1 := Int.ofNat.inj e1
  subst e1
  simp only [Int.toNat_natCast]
  have HA := Lib.hid hA
  have HB := Lib.hid hB
  have hrc : ra * cb ≤ 7 * 7 := Nat.mul_le_mul hra hcb
  have HlA := Lib.hid hlA
  have HlB := Lib.hid hlB
  clear h1 h2 hf hm hA hB hlA hlB hpr e1
  go_enter Try.func28, Try.ntmps28
  go_wp2_with fail
  refine (implMatrixOk_b _ _ _ _ _ _ H1.out _ (Ha.out.below (below_alloc3 _ _ _ _))).mono ?_
  rintro e w1 ⟨rfl, hb1⟩
  have Hs := Lib.hid (Hst.out.later hb1)
  have hBl := Hs.out.2.2.2
  obtain ⟨c10, c11, c12, c13, c1f, hz1⟩ := blk4 Hs.out.2.1
  clear hb1
  go_wp2_with fail
  refine (implMatrixOk_b _ _ _ _ _ _ H2.out _ (Hb.out.below hBl)).mono ?_
  rintro e w2 ⟨rfl, hb2⟩
  have Hs2 := Lib.hid (Hs.out.later hb2)
  clear hb2 c10 c11 c12 c13 c1f hz1 hBl Hs
  obtain ⟨d00, d01, d02, d03, d0f, dz0⟩ := blk4 Hs2.out.1
  obtain ⟨d10, d11, d12, d13, d1f, dz1⟩ := blk4 Hs2.out.2.1
  go_wp2_with fail
  have hz2 := blk_lt Hs2.out.2.2.1
  refine (lines_any aP ra ca _ A _ (Ha.out.below (Hs2.out.2.2.2.trans ((below_alloc w2 _).mono Hs2.out.2.2.2.size))) (by omega) (by omega) hca0 HlA.out).mono ?_
  rintro e w3 ⟨L1, rfl, hL1, hb3⟩
  have hb3' : Below w2.heap.size w2 w3 := (below_alloc w2 _).trans (hb3.mono (by simp))
  have Hs3 := Lib.hid (Hs2.out.later hb3')
  have hsz3 := hb3.size
  simp only [size_alloc] at hL1 hsz3
  have hm0 := (OwnF.made0 w2 22 (fun _ => undef)).below hb3
  obtain ⟨p1, k1, rfl, _, hk1⟩ := hL1.shape
  have HL1 := Lib.hid hL1
  have HB3 := Lib.hid hb3'
  have Hm0 := Lib.hid hm0
  clear d00 d01 d02 d03 d0f dz0 d10 d11 d12 d13 d1f dz1 hb3 hb3' hL1 hm0 h3' h4'
  rw [rowsOf_length] at *
  go_wp2_with fail
  go_loopg [6, 39] ra (fun gh s6 s39 wr => ∃ i : Nat, i ≤ ra ∧ gh = ra - i ∧ s39 = .int .i64 i ∧ Boxes3 w 36 36 ⟨aP, (ra : Int), (ca : Int), A⟩ ⟨aP, (ca : Int), (cb : Int), B⟩ (.slice pa A.length ka) (.slice pb B.length kb) wr ∧
    OwnII 22 3 wr (w2.heap.size + 1) w3.heap.size (.slice p1 ra k1) (rowsOf ra ca A) ∧ w3.heap.size ≤ wr.heap.size ∧ Below w2.heap.size w2 wr ∧
    (∀ b, s6.ownBlock = some b → b = w2.heap.size ∨ w3.heap.size ≤ b) ∧
    OwnII 22 3 wr w2.heap.size wr.heap.size s6 ((mulRows aP ra ca cb A B).take i))
  case atStart =>
    refine ⟨0, Nat.zero_le _, rfl, rfl, Hs3.out, HL1.out, Nat.le_refl _, HB3.out, fun b hb => ?_, fun _ => undef, Hm0.out.mono (Nat.le_refl _) (by omega), fun i hi => absurd hi (by simp), fun i j _ hj => absurd hj (by simp)⟩
    simp [Value.ownBlock] at hb
    exact .inl hb.symm
  case round =>
    obtain ⟨i, hi, rfl, rfl, hst, hL, hsz, hbw, hR, f, g1, g2, g3⟩ := hrel
    obtain ⟨d10, d11, d12, d13, d1f, dz1⟩ := blk4 hst.2.1
    have Hst' := Lib.hid hst
    have HL := Lib.hid hL
    have HR := Lib.hid hR
    have Hbw := Lib.hid hbw
    have G1 := Lib.hid g1
    have G2 := Lib.hid g2
    have G3 := Lib.hid g3
    clear hst hL hR hbw g1 g2 g3 HL1 Hm0 Hs3
    by_cases hlt : i < ra
    · obtain ⟨F1, a1, a2, _⟩ := HL.out
      rw [rowsOf_length] at a1 a2
      obtain ⟨gt, rfl, _, _, _⟩ := a1.at_ (by omega)
      have c1 := a1.cell hlt
      have hrow := (a2 i hlt).ints
      rw [rowsOf_getD hlt] at hrow
      obtain ⟨rp, rk, er, ⟨hr1, hr2⟩, hrc⟩ := hrow
      have hrl : (rowAt ca A i).length = ca := rowAt_length (by rw [HlA.out]; exact mul_le_of hlt)
      rw [hrl] at er hrc hr1
      rw [er] at c1
      obtain ⟨rb, ro, rfl, hrcell⟩ := hrc (by omega)
      have hmk := run_make_row' (P := Try.prog) 22 3 (.int .i64 0) 8 Try.underlying22 info_int rfl .i64 .i64 cb (by omega) (by omega)
      unfold maxLen at hr2
      have Hrc := Lib.hid hrcell
      clear a1 a2 er hrl hrcell
      go_wp2_with fail
      have hszw := Hst'.out.2.2.2.size
      refine (lines_any aP ca cb _ B _ (Hb.out.below (Hst'.out.2.2.2.trans ((below_alloc wr _).mono hszw))) (by omega) (by omega) hcb0 HlB.out).mono ?_
      rintro e w4 ⟨L2, rfl, hL2, hb4⟩
      have hb4' : Below wr.heap.size wr w4 := (below_alloc wr _).trans (hb4.mono (by simp))
      have hsz4 := hb4.size
      simp only [size_alloc] at hL2 hsz4
      have hout0 : OwnI 3 w4 wr.heap.size (wr.heap.size + 1) (.slice (some ⟨wr.heap.size, 0, none⟩) cb cb) (partRow aP ca cb A B i 0) := by
        have hr0 := (World.rowIs_made wr (.int .i64 0) cb 3).of_block (hb4.block wr.heap.size (by simp))
        refine OwnF.ints ?_
        rw [partRow_length]
        refine OwnF.mk' hr0 (Nat.le_refl _) (by omega) (Nat.le_refl _) (by unfold maxLen; omega) fun t ht => ?_
        rw [iv, partRow_getD ht]
        simp [sumTo]
      obtain ⟨p2, k2, rfl, _, hk2⟩ := hL2.shape
      have HL2 := Lib.hid hL2
      have HB4 := Lib.hid hb4'
      have Hout0 := Lib.hid hout0
      clear hmk d10 d11 d12 d13 d1f dz1 hb4 hb4' hL2 hout0 c1
      rw [rowsOf_length] at *
      go_wp2_with fail
      obtain ⟨wo, rfl⟩ : ∃ wo : World, wo = wr := ⟨_, rfl⟩
      go_loopg [49] ca (fun gh s49 wx => ∃ k : Nat, k ≤ ca ∧ gh = ca - k ∧ s49 = .int .i64 k ∧ Below wo.heap.size wo wx ∧ w4.heap.size ≤ wx.heap.size ∧
        OwnII 22 3 wx (wo.heap.size + 1) w4.heap.size (.slice p2 ca k2) (rowsOf ca cb B) ∧
        OwnI 3 wx wo.heap.size (wo.heap.size + 1) (.slice (some ⟨wo.heap.size, 0, none⟩) cb cb) (partRow aP ca cb A B i k))
      case atStart => exact ⟨0, Nat.zero_le _, rfl, rfl, HB4.out, Nat.le_refl _, HL2.out, Hout0.out⟩
      case round =>
        obtain ⟨k, hk, rfl, rfl, hbx, hsx, hLx, hox⟩ := hrel
        have Hbx := Lib.hid hbx
        have HLx := Lib.hid hLx
        have Hox := Lib.hid hox
        clear hbx hLx hox Hout0 HL2
        by_cases hltk : k < ca
        · obtain ⟨F2, b1, b2, _⟩ := HLx.out
          rw [rowsOf_length] at b1 b2
          obtain ⟨gu, rfl, _, _, _⟩ := b1.at_ (by omega)
          have c2 := b1.cell hltk
          have ho2 := b2 k hltk
          rw [rowsOf_getD hltk] at ho2
          obtain ⟨up, uk, eu, hu1, hu2⟩ := ho2.shape
          have hul : (rowAt cb B k).length = cb := rowAt_length (by rw [HlB.out]; exact mul_le_of hltk)
          rw [hul] at eu hu1
          have hblk := fun b hb => (Own.block ho2 (k := b) hb).1
          rw [eu] at c2 ho2 hblk
          have Ho2 := Lib.hid ho2
          obtain ⟨x, hx⟩ : ∃ x, x = A.getD (i * ca + k) 0 := ⟨_, rfl⟩
          have c3 : wr.cell? ⟨rb, ro + k, none⟩ = some (.int .i64 x) := by
            have h0 := Hrc.out k hltk
            rw [cell_below Hbx.out h0, iv, rowAt_getD hltk, hx]
          obtain ⟨d00, d01, d02, d03, d0f, dz0⟩ := blk4 (blk_later Hst'.out.1 Hbx.out)
          have hxr := getD_range HA.out (by omega) (i * ca + k)
          rw [← hx] at hxr
          have Hx := Lib.hid hx
          have hne : ∀ b, (Value.slice (some ⟨wo.heap.size, 0, none⟩) cb cb).ownBlock = some b → (Value.slice up cb uk).ownBlock ≠ some b := by
            intro b hb e
            have := hblk b e
            simp [Value.ownBlock] at hb
            omega
          have hrbne : rb ≠ wo.heap.size := by
            have := World.block_lt_of_cell? _ _ (Hrc.out k hltk)
            simp only at this
            omega
          have hwne : w.heap.size ≠ wo.heap.size := by have := blk_lt Hst'.out.1; omega
          have Hne := Lib.hid hne
          have cadd := fun (W : World) (h1 : OwnI 3 W wo.heap.size (wo.heap.size + 1) (.slice (some ⟨wo.heap.size, 0, none⟩) cb cb) (partRow aP ca cb A B i k)) (h2 : Ints W (.slice up cb uk) (rowAt cb B k)) =>
            addRow_any _ _ _ _ x aP _ _ W h1 h2 Hne.out (by rw [partRow_length, hul]; exact Nat.le_refl _) (partRow_small (by omega) (by omega) _ _ _ _ _ _) (rowAt_small (small_of_range HB.out (by omega)) _ _) (by omega) (by omega)
          have Cadd := Lib.hid cadd
          clear b1 b2 eu hul hblk ho2 hx hne cadd hxr
          go_wp2_with fail
          go_region_held3 (fun w' => w'.cell? ⟨rb, ro + k, none⟩ = some (.int .i64 x) ∧ w'.cell? ⟨w.heap.size, 0, none⟩ = some (.int .i64 aP))
            (first
              | exact ⟨c3, d00⟩
              | exact ⟨hg1.cell c3 (fun e => hrbne (Option.some.inj e)), hg1.cell d00 (fun e => hwne (Option.some.inj e))⟩)
            (first
              | (go_at_call 47; refine (Cadd.out _ (Hox.out.below (Below.refl _ _).drew) (Ho2.out.ints.below (Below.refl _ _).drew)).mono ?_; rintro e w' ⟨rfl, ho1, hg1⟩))
          have hfr : Frm wo.heap.size (wo.heap.size + 1) wr w' := (grownBy_frm hg1 (fun b hb => by simp [Value.ownBlock] at hb; omega)).of_drew
          rw [Hx.out, partRow_succ] at ho1
          clear c2 c3 d00 d01 d02 d03 d0f dz0 hg1
          have Ho1 := Lib.hid ho1
          have Hfr := Lib.hid hfr
          clear ho1 hfr
          go_wp2_with fail
          go_roundg (ca - (k + 1))
          case measure => omega
          case rel =>
            have h5 := Hfr.out.size
            exact ⟨k + 1, by omega, rfl, by go_num, Hbx.out.trans (Hfr.out.below (Nat.le_refl _) (by omega)), by omega, HLx.out.frm Hfr.out (.inr (Nat.le_refl _)), Ho1.out⟩
        · obtain rfl : k = ca := by omega
          have hlen : ((mulRows aP ra k cb A B).take i).length = i := by rw [List.length_take, mulRows_length]; omega
          have Hlen := Lib.hid hlen
          have g1 := G1.out
          have g2 := G2.out
          have g3 := G3.out
          rw [hlen] at g1 g2 g3
          have hszx := Hbx.out.size
          have G1' := Lib.hid fun o => (g1.below Hbx.out).below (below_alloc wr o)
          have G2' := Lib.hid fun o t (ht : t < i) => ((g2 t ht).below Hbx.out).below (below_alloc wr o)
          have G3' := Lib.hid g3
          have hb1 : i + 1 ≤ maxLen := by unfold maxLen; omega
          have Hb1 := Lib.hid hb1
          have Hb2 := Lib.hid (show (i + 1) * 24 ≤ 140737488355328 by omega)
          have hw2o := Hbw.out.size
          clear g1 g2 g3 hlen hb1
          go_wp2_with (at_builtin; go_must (refine wpList_append_G rfl (.tmp 64) (.tmp 66) 30 rfl 22 (.slice none 0 0) 24 Try.underlying30 info_sl rfl w2.heap.size wo.heap.size u6 i f rfl (G1'.out _) (by simp; omega) (by simp; omega) _ _ _ rfl (rd_one _ _ _ rfl) (fun j _ => rfl) Hb1.out Hb2.out ?_; intro v' w' ho' hg' hw'))
          have hs := hg'.size
          simp only [size_alloc] at hs
          have hblow : Below w2.heap.size wr w' := ((below_alloc wr _).mono (by omega)).trans (grownBy_below hg' (G1'.out default).blocks (Nat.le_refl _) (by simp; omega))
          go_roundg (ra - (i + 1))
          case measure => omega
          case rel =>
            refine ⟨i + 1, by omega, rfl, by go_num, ?_, ?_, by omega, ?_, ?_, ?_⟩
            · exact (Hst'.out.later Hbx.out).later_low hblow hz2
            · exact ((HL.out.below Hbx.out).below (below_alloc wr _)).grown hg' (fun b hb => by have := HR.out b hb; omega)
            · exact (Hbw.out.trans (Hbx.out.mono hw2o)).trans hblow
            · intro b hb
              rcases hw' b hb with h6 | h6
              · exact HR.out b h6
              · simp only [size_alloc] at h6
                exact .inr (by omega)
            · have ht : (mulRows aP ra k cb A B).take (i + 1) = (mulRows aP ra k cb A B).take i ++ [partRow aP k cb A B i k] := by
                rw [List.take_succ_eq_append_getElem (by rw [mulRows_length]; exact hlt)]
                simp [mulRows_eq]
              rw [ht]
              refine OwnII.snoc (mid := wo.heap.size) (hi := wo.heap.size + 1) (f := f) ?_ ?_ ?_ (Hox.out.below (below_alloc wr _)) hw2o (by omega) (by decide) hg' (by omega) ?_
              · rw [Hlen.out]; exact G1'.out _
              · rw [Hlen.out]; exact G2'.out _
              · rw [Hlen.out]; exact G3'.out
              · rw [Hlen.out]; exact ho'
    · obtain rfl : i = ra := by omega
      have hII : OwnII 22 3 wr w2.heap.size wr.heap.size u6 (mulRows aP i ca cb A B) := by
        have e : (mulRows aP i ca cb A B).take i = mulRows aP i ca cb A B := List.take_of_length_le (by rw [mulRows_length]; exact Nat.le_refl _)
        rw [e] at G1 G2 G3
        exact ⟨f, G1.out, G2.out, G3.out⟩
      have hfl : (mulRows aP i ca cb A B).flatten.length ≤ 1000000 := by rw [mulRows_flat_length]; omega
      obtain ⟨d00, d01, d02, d03, d0f, dz0⟩ := blk4 Hst'.out.1
      have HII := Lib.hid hII
      have Hfl := Lib.hid hfl
      have hz4 := Hbw.out.size
      clear hII hfl
      go_wp2_with fail
      refine (matrixOf_any _ _ _ _ _ HII.out.rd Hfl.out).mono ?_
      rintro e w5 ⟨u, rfl, ho, hb5⟩
      obtain ⟨c00, c01, c02, c03, c0f, hz0⟩ := blk4 (blk_later Hst'.out.2.2.1 hb5)
      obtain ⟨up, ucap, rfl, _, _⟩ := ho.shape
      have Ho := Lib.hid ho
      have Hb5 := Lib.hid hb5
      clear ho hb5
      go_wp2_with fail
      refine bodyPost_ret (v := .tuple #[.agg #[.int .i64 aP, .int .i64 (i : Int), .int .i64 (cb : Int), .slice up (mulRows aP i ca cb A B).flatten.length ucap], .bool true]) (by simp [results, Try.results28, go_sem, c00, c01, c02, c03, hz0, mulRows_length]) rfl ⟨_, rfl, ?_, ?_⟩
      · exact (own_set4 Ho.out (.inl (by omega)) _ _ _ _).mono (by omega) (by simp only [size_setCell]; omega)
      · exact below_set4 (Hst'.out.2.2.2.trans (Hb5.out.mono Hst'.out.2.2.2.size)) (by omega) _ _ _ _

set_option maxRecDepth 100000 in
set_option maxHeartbeats 4000000 in
theorem implMul_any (a b : Mx) (da db : Value) (w : World) (ha : Ints w da a.D) (hb : Ints w db b.D) :
    Calls Try.prog 28 #[.agg #[.int .i64 a.P, .int .i64 a.R, .int .i64 a.C, da], .agg #[.int .i64 b.P, .int .i64 b.R, .int .i64 b.C, db]] w
      (RetMB w (mulMx a b) (mulFits a b)) := by
  have Ha := Lib.hid ha
  have Hb := Lib.hid hb
  obtain ⟨pa, ka, rfl, ⟨la, ma⟩, _⟩ := ha
  obtain ⟨pb, kb, rfl, ⟨lb, mb⟩, _⟩ := hb
  unfold maxLen at ma mb
  have Hst := Lib.hid (boxes3_start w 36 36 a b (.slice pa a.D.length ka) (.slice pb b.D.length kb))
  cases h1 : mxOk a.P a.R a.C a.D with
  | false =>
    have hf := mulFits_no1 (b := b) h1
    rw [hf, mulMx_no hf]
    have H1 := Lib.hid h1
    clear h1 hf
    go_enter Try.func28, Try.ntmps28
    go_wp2_with fail
    refine (implMatrixOk_b _ _ _ _ _ _ H1.out _ (Ha.out.below (below_alloc3 _ _ _ _))).mono ?_
    rintro e w1 ⟨rfl, hb1⟩
    have Hs := Lib.hid (Hst.out.later hb1)
    clear hb1
    obtain ⟨c00, c01, c02, c03, c0f, hz0⟩ := blk4 Hs.out.2.2.1
    go_wp2_with fail
    refine bodyPost_ret (v := .tuple #[.agg #[.int .i64 0, .int .i64 0, .int .i64 0, .slice none 0 0], .bool false]) (by simp [results, Try.results28, go_sem, c00, c01, c02, c03, hz0]) rfl ⟨_, rfl, ?_, ?_⟩
    · exact ⟨World.ownsRow_nil _ _ _ _, fun k hk => by simp [Value.ownBlock] at hk⟩
    · exact below_set4 Hs.out.2.2.2 (by omega) _ _ _ _
  | true =>
    cases h2 : mxOk b.P b.R b.C b.D with
    | false =>
      have hf := mulFits_no2 (a := a) h2
      rw [hf, mulMx_no hf]
      have H1 := Lib.hid h1
      have H2 := Lib.hid h2
      clear h1 h2 hf
      go_enter Try.func28, Try.ntmps28
      go_wp2_with fail
      refine (implMatrixOk_b _ _ _ _ _ _ H1.out _ (Ha.out.below (below_alloc3 _ _ _ _))).mono ?_
      rintro e w1 ⟨rfl, hb1⟩
      have Hs := Lib.hid (Hst.out.later hb1)
      have hB := Hs.out.2.2.2
      obtain ⟨c10, c11, c12, c13, c1f, hz1⟩ := blk4 Hs.out.2.1
      clear hb1
      go_wp2_with fail
      refine (implMatrixOk_b _ _ _ _ _ _ H2.out _ (Hb.out.below hB)).mono ?_
      rintro e w2 ⟨rfl, hb2⟩
      have Hs2 := Lib.hid (Hs.out.later hb2)
      clear hb2 c10 c11 c12 c13 c1f hz1 hB
      obtain ⟨c00, c01, c02, c03, c0f, hz0⟩ := blk4 Hs2.out.2.2.1
      go_wp2_with fail
      refine bodyPost_ret (v := .tuple #[.agg #[.int .i64 0, .int .i64 0, .int .i64 0, .slice none 0 0], .bool false]) (by simp [results, Try.results28, go_sem, c00, c01, c02, c03, hz0]) rfl ⟨_, rfl, ?_, ?_⟩
      · exact ⟨World.ownsRow_nil _ _ _ _, fun k hk => by simp [Value.ownBlock] at hk⟩
      · exact below_set4 Hs2.out.2.2.2 (by omega) _ _ _ _
    | true =>
      have H1 := Lib.hid h1
      have H2 := Lib.hid h2
      by_cases h3 : a.P = b.P
      case neg =>
        have hf := mulFits_no3 h3
        rw [hf, mulMx_no hf]
        have h3' : (a.P != b.P) = true := by simp [h3]
        clear h1 h2 hf h3
        go_enter Try.func28, Try.ntmps28
        go_wp2_with fail
        refine (implMatrixOk_b _ _ _ _ _ _ H1.out _ (Ha.out.below (below_alloc3 _ _ _ _))).mono ?_
        rintro e w1 ⟨rfl, hb1⟩
        have Hs := Lib.hid (Hst.out.later hb1)
        have hB := Hs.out.2.2.2
        obtain ⟨c10, c11, c12, c13, c1f, hz1⟩ := blk4 Hs.out.2.1
        clear hb1
        go_wp2_with fail
        refine (implMatrixOk_b _ _ _ _ _ _ H2.out _ (Hb.out.below hB)).mono ?_
        rintro e w2 ⟨rfl, hb2⟩
        have Hs2 := Lib.hid (Hs.out.later hb2)
        clear hb2 c10 c11 c12 c13 c1f hz1 hB
        obtain ⟨d00, d01, d02, d03, d0f, dz0⟩ := blk4 Hs2.out.1
        obtain ⟨d10, d11, d12, d13, d1f, dz1⟩ := blk4 Hs2.out.2.1
        obtain ⟨c00, c01, c02, c03, c0f, hz0⟩ := blk4 Hs2.out.2.2.1
        go_wp2_with fail
        refine bodyPost_ret (v := .tuple #[.agg #[.int .i64 0, .int .i64 0, .int .i64 0, .slice none 0 0], .bool false]) (by simp [results, Try.results28, go_sem, c00, c01, c02, c03, hz0]) rfl ⟨_, rfl, ?_, ?_⟩
        · exact ⟨World.ownsRow_nil _ _ _ _, fun k hk => by simp [Value.ownBlock] at hk⟩
        · exact below_set4 Hs2.out.2.2.2 (by omega) _ _ _ _
      by_cases h4 : a.C = b.R
      case neg =>
        have hf := mulFits_no4 h4
        rw [hf, mulMx_no hf]
        have h3' : (a.P != b.P) = false := by simp [h3]
        have h4' : (a.C != b.R) = true := by simp [h4]
        clear h1 h2 hf h3 h4
        go_enter Try.func28, Try.ntmps28
        go_wp2_with fail
        refine (implMatrixOk_b _ _ _ _ _ _ H1.out _ (Ha.out.below (below_alloc3 _ _ _ _))).mono ?_
        rintro e w1 ⟨rfl, hb1⟩
        have Hs := Lib.hid (Hst.out.later hb1)
        have hB := Hs.out.2.2.2
        obtain ⟨c10, c11, c12, c13, c1f, hz1⟩ := blk4 Hs.out.2.1
        clear hb1
        go_wp2_with fail
        refine (implMatrixOk_b _ _ _ _ _ _ H2.out _ (Hb.out.below hB)).mono ?_
        rintro e w2 ⟨rfl, hb2⟩
        have Hs2 := Lib.hid (Hs.out.later hb2)
        clear hb2 c10 c11 c12 c13 c1f hz1 hB
        obtain ⟨d00, d01, d02, d03, d0f, dz0⟩ := blk4 Hs2.out.1
        obtain ⟨d10, d11, d12, d13, d1f, dz1⟩ := blk4 Hs2.out.2.1
        obtain ⟨c00, c01, c02, c03, c0f, hz0⟩ := blk4 Hs2.out.2.2.1
        go_wp2_with fail
        refine bodyPost_ret (v := .tuple #[.agg #[.int .i64 0, .int .i64 0, .int .i64 0, .slice none 0 0], .bool false]) (by simp [results, Try.results28, go_sem, c00, c01, c02, c03, hz0]) rfl ⟨_, rfl, ?_, ?_⟩
        · exact ⟨World.ownsRow_nil _ _ _ _, fun k hk => by simp [Value.ownBlock] at hk⟩
        · exact below_set4 Hs2.out.2.2.2 (by omega) _ _ _ _
      exact implMul_yes a b _ _ w Ha.out Hb.out h1 h2 h3 h4

end Go.Proofs.Ytebfnjffjedmgaa
