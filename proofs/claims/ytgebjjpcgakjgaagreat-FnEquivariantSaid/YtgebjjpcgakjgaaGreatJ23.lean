/-
  The program's ExpandLocal.
  The order of the reference's loops. Plain.
  The reference's putting of a class into an ascending list.
  IsGkm of the reference.
  The reference's l8Expand and ExpandLocal.
  The law's own marks on classes, and the look for them.
  ExpandLocal on both sides, in one word; how great the result is.
  Products of tables pass the test of IsGkm, and are not great. Plain.
-/
import Derived.Test.YtgebjjpcgakjgaaGreatJ20
import Derived.Test.YtgebjjpcgakjgaaGreatJ22
import Derived.Test.YtgebjjpcgakjgaaGreatJ14
import Derived.BigRegion
import Derived.Test.YtgebjjpcgakjgaaGreatJ4
import Derived.Test.YtgebjjpcgakjgaaGreatJ13
import Derived.Test.YtgebjjpcgakjgaaGreatJ3
import Derived.Test.YtgebjjpcgakjgaaGreatJ19
import Derived.Deep.RegionLaw
import Derived.Test.YtgebjjpcgakjgaaGreatJ5
namespace Go.Proofs.YtgebjjpcgakjgaaGreat
set_option linter.all false
set_option maxRecDepth 100000
open Go.RowKit

/-- a call returned these classes in new memory, and this bool -/
def RetCB (w : World) (r : List Cls × Bool) (e : Ending) (w' : World) : Prop :=
  ∃ u, e = .returned (.tuple #[u, .bool r.2]) ∧ OwnCd w' w.heap.size w'.heap.size u r.1 ∧ Below w.heap.size w w'
theorem retCB_no {w w' : World} (hb : Below w.heap.size w w') : RetCB w ([], false) (.returned (.tuple #[.slice none 0 0, .bool false])) w' := ⟨_, rfl, OwnCd.nil _ _ _, hb⟩

set_option maxHeartbeats 8000000 in
theorem implExpand_no (N : Int) (v u : Value) (vs ys : List Int) (w : World) (hv : Ints w v vs) (hy : Ints w u ys) (h : GkIs N vs ys false) :
    Calls Tryz.prog 21 #[.int .i64 N, v, u] w (RetCB w ([], false)) := by
  have h0 := implIsGkm_any N v u vs ys w hv hy
  rw [← h.eps] at h0
  have H0 := Lib.hid h0
  clear h0 h
  obtain ⟨p1, k1, rfl, _, _⟩ := hv
  obtain ⟨p2, k2, rfl, _, _⟩ := hy
  go_enter Tryz.func21, Tryz.ntmps21
  go_wp2_with fail
  refine H0.out.mono ?_
  rintro e w1 ⟨rfl, hb⟩
  have Hb := Lib.hid hb
  clear hb
  go_wp2_with fail
  go_ret2
  exact ⟨_, rfl, OwnCd.nil _ _ _, Hb.out⟩

set_option maxHeartbeats 16000000 in
theorem implExpand_yes (n : Nat) (v u : Value) (vs ys : List Int) (w : World) (hv : Ints w v vs) (hy : Ints w u ys) (h : GkIs n vs ys true) :
    Calls Tryz.prog 21 #[.int .i64 (n : Int), v, u] w (RetCB w (expE n vs ys (ordL n))) := by
  have h0 := implIsGkm_any n v u vs ys w hv hy
  rw [← h.eps] at h0
  obtain ⟨ha, hvl, hmo, hgk⟩ := h.1 rfl
  clear hgk
  rw [Int.toNat_natCast] at hvl
  have YO := yOk ha
  have OI := ordIs YO.one YO.four
  obtain ⟨F, hF⟩ : ∃ F, F = fact n := ⟨_, rfl⟩
  have hf := fact4 YO.one (show n ≤ 5 by have := YO.four; omega)
  rw [← hF] at hf
  have HF := Lib.hid hF
  have HYO := Lib.hid YO
  have HOI := Lib.hid OI
  have Hvl := Lib.hid hvl
  have Hmo := Lib.hid hmo
  have HV := Lib.hid hv
  have HY := Lib.hid hy
  have e0 : allPermsL n = permsL n := by have := YO.one; have := YO.four; unfold allPermsL; rw [if_pos (by omega)]; simp
  have He0 := Lib.hid e0
  obtain ⟨pv, kv, rfl, ⟨hv1, hv2⟩, hvx⟩ := hv
  obtain ⟨py, ky, rfl, ⟨hy1, hy2⟩, hyx⟩ := hy
  clear hvx hyx
  unfold maxLen at hv2 hy2
  rw [hvl, ← hF] at HV hv1 h0 ⊢
  rw [YO.len] at HY hy1 h0 ⊢
  have H0 := Lib.hid h0
  clear h0 h ha hvl hmo YO OI hF e0
  obtain ⟨B0, hB0⟩ : ∃ B, B = w.heap.size := ⟨_, rfl⟩
  have HB0 := Lib.hid hB0
  clear hB0
  go_enter Tryz.func21, Tryz.ntmps21
  go_wp2_with fail
  refine H0.out.mono ?_
  rintro e w1 ⟨rfl, hb1⟩
  have Hb1 := Lib.hid hb1
  have hs1 := hb1.size
  clear hb1 H0
  go_wp2_with fail
  refine (implAllPerms_any n w1).mono ?_
  rw [He0.out]
  rintro e w2 ⟨u2, rfl, ho2, hb2⟩
  have hs2 := hb2.size
  have hRl : (permsL n).length = F := by rw [permsL_length, HF.out]
  obtain ⟨p2, k2, rfl, hk2, hk22⟩ := ho2.shape
  unfold maxLen at hk22
  rw [hRl] at hk2 ho2 ⊢
  have Hall := Lib.hid ho2
  have Hb2 := Lib.hid hb2
  clear ho2 hb2
  go_wp2_with fail
  refine (upTo_any F _ (by omega)).mono ?_
  rintro e w4 ⟨u4, rfl, ho4, hb4⟩
  have hs3 : (w2.alloc (.cells #[.slice p2 F k2] 63)).heap.size = w2.heap.size + 1 := by rw [size_alloc]
  rw [hs3] at ho4 hb4
  have hs4 := hb4.size
  rw [hs3] at hs4
  obtain ⟨A1, hA1⟩ : ∃ A, A = w1.heap.size := ⟨_, rfl⟩
  obtain ⟨A2, hA2⟩ : ∃ A, A = w2.heap.size := ⟨_, rfl⟩
  obtain ⟨A4, hA4⟩ : ∃ A, A = w4.heap.size := ⟨_, rfl⟩
  have hAll := Hall.out
  have hB1 := Hb1.out
  have hB2 := Hb2.out
  rw [← hA1, ← hA2] at hAll
  rw [← hA1] at hB2
  rw [← hA2] at ho4 hb4 hs4 hs2 hs3 ⊢
  rw [← hA1] at hs1 hs2
  rw [← hA4] at ho4 hs4
  have hlow : Below (A2 + 1) (w2.alloc (.cells #[.slice p2 F k2] 63)) w4 := hb4
  -- what holds in every world that changed in the order's blocks alone
  have hkeep : ∀ W, Frm (A2 + 1) A4 w4 W → W.cell? ⟨A2, 0, none⟩ = some (.slice p2 F k2) ∧ RdII W (.slice p2 F k2) (permsL n) := fun W hW => by
    have hb : Below (A2 + 1) (w2.alloc (.cells #[.slice p2 F k2] 63)) W := hlow.trans (hW.below (Nat.le_refl _) (by omega))
    refine ⟨?_, ?_⟩
    · rw [hb.cell (by show A2 < A2 + 1; omega)]
      rw [hA2]
      simp
    · have h1 : Below w2.heap.size w2 W := by rw [← hA2]; exact (by have := below_alloc w2 (.cells #[.slice p2 F k2] 63); rw [← hA2] at this; exact this : Below A2 w2 _).trans (hb.mono (by omega))
      exact (hAll.below h1).rd
  have Hkeep := Lib.hid hkeep
  have Ho4 := Lib.hid ho4
  have Hlow := Lib.hid hlow
  obtain ⟨p4, k4, rfl, hk4, hk44⟩ := ho4.shape
  unfold maxLen at hk44
  rw [idL_length] at hk4 Ho4 ⊢
  have HA1 := Lib.hid hA1
  have HA2 := Lib.hid hA2
  have HA4 := Lib.hid hA4
  have HB1 := Lib.hid hB1
  have HB2 := Lib.hid hB2
  clear hkeep ho4 hlow hb4 hAll hA1 hA2 hA4 hB1 hB2 Hb1 Hb2 Hall
  go_wp2_with fail
  refine (sortOrder_any (.slice p4 F k4) n (A2 + 1) A4 A2 (.slice p2 F k2) w4 HYO.out.one HYO.out.four (by have := Ho4.out; rw [HF.out] at this ⊢; exact this) Hkeep.out).mono ?_
  rintro e w5 ⟨rfl, ho5, hf5⟩
  obtain ⟨hbx5, hrd5⟩ := Hkeep.out w5 hf5
  have hb45 : Below (A2 + 1) (w2.alloc (.cells #[.slice p2 F k2] 63)) w5 := Hlow.out.trans (hf5.below (Nat.le_refl _) (by rw [← HA4.out]; exact hs4))
  have hbw5 : Below w.heap.size w w5 := HB1.out.trans ((HB2.out.mono hs1).trans ((by have := below_alloc w2 (.cells #[.slice p2 F k2] 63); rw [← HA2.out] at this; exact this : Below A2 w2 _).mono (by omega) |>.trans (hb45.mono (by omega))))
  have hs5 := hf5.size
  obtain ⟨A5, hA5⟩ : ∃ A, A = w5.heap.size := ⟨_, rfl⟩
  rw [← hA5, ← HA4.out] at hs5
  have hofn5 := ho5.ints
  have hlo5 : (ordZ n).length = F := by unfold ordZ; rw [List.length_map, HOI.out.length, HF.out]
  have hp4 : ∃ g4, p4 = some ⟨g4, 0, none⟩ ∧ ∀ j, j < F → w5.cell? ⟨g4, j, none⟩ = some (.int .i64 (((ordL n).getD j 0 : Nat) : Int)) := by
    have h1 := ho5.fn
    rw [hlo5] at h1
    obtain ⟨g4, e4, _, _, _⟩ := h1.at_ (by omega)
    subst e4
    refine ⟨g4, rfl, fun j hj => ?_⟩
    rw [h1.cell hj]
    unfold iv ordZ
    congr 2
    simp only [List.getD_eq_getElem?_getD, List.getElem?_map]
    rw [List.getElem?_eq_getElem (by rw [HOI.out.length, ← HF.out]; exact hj)]
    simp
  obtain ⟨g4, rfl, hc4⟩ := hp4
  have HA5 := Lib.hid hA5
  have Hc4 := Lib.hid hc4
  obtain ⟨fr, ⟨pp, cc, epp, _, hxc⟩, hfr⟩ := hrd5
  rw [hRl] at epp hxc hfr
  injection epp with e1 e2 e3
  subst e1
  obtain ⟨gb, ob, rfl, hcr⟩ := hxc (by omega)
  have Hbx5 := Lib.hid hbx5
  have Hcr := Lib.hid hcr
  have Hfr := Lib.hid (show ∀ x, x < F → Ints w5 (fr x) (pmA n x) from hfr)
  clear hxc hfr hcr e3
  have Hbw5 := Lib.hid hbw5
  have HV5 := Lib.hid (HV.out.below hbw5)
  have HY5 := Lib.hid (HY.out.below hbw5)
  clear hA5 hc4 hbx5 hbw5 ho5 hf5 hb45 hofn5 hlo5 Hkeep Hlow Ho4 HB1 HB2 HV HY
  go_wp2_with fail
  refine (clone_any _ vs _ HV5.out (by rw [Hvl.out, ← HF.out]; omega)).mono ?_
  rintro e w6 ⟨u6, rfl, ho6, hb6⟩
  rw [← HA5.out] at ho6 hb6
  obtain ⟨A6, hA6⟩ : ∃ A, A = w6.heap.size := ⟨_, rfl⟩
  have hs6 := hb6.size
  rw [← hA6] at ho6 hs6
  rw [← HA5.out] at hs6
  obtain ⟨p6, k6, rfl, hk6, hk66⟩ := ho6.shape
  unfold maxLen at hk66
  rw [Hvl.out, ← HF.out] at hk6 ho6 ⊢
  have HA6 := Lib.hid hA6
  obtain ⟨g6, rfl, hg61, hg62, _⟩ := (show OwnF w6 A5 A6 3 (.slice p6 F k6) F (iv vs) from by have := ho6.fn; rw [Hvl.out, ← HF.out] at this; exact this).at_ (by omega)
  have Ho6 := Lib.hid ho6
  have Hb6 := Lib.hid hb6
  clear hA6 ho6 hb6
  have Hr0 := Lib.hid (show RestOk n 0 vs from ⟨Hvl.out, fun i hi => by
    have hm := Hmo.out
    simp only [mostB, decide_eq_true_eq] at hm
    have := hm _ (getD_mem (show i < vs.length by rw [Hvl.out]; exact hi))
    omega⟩)
  have Hol := Lib.hid (show (ordL n).length = F by rw [HOI.out.length, HF.out])
  go_wp2_with fail
  go_loopg [11, 36] F (fun g s11 s36 wr => ∃ (i : Nat) (rest : List Int) (outs : List Cls), i ≤ F ∧ g = F - i ∧ s36 = .int .i64 (i : Int) ∧ Hid (Below A5 w5 wr) ∧ Hid (A6 ≤ wr.heap.size) ∧ Hid (OwnI 3 wr A5 A6 (.slice (some ⟨g6, 0, none⟩) F k6) rest) ∧
    Hid (OwnCd wr A6 wr.heap.size s11 outs) ∧ Hid (RestOk n i rest) ∧ Hid (OutOk n ((ordL n).take i) outs) ∧ Hid (exGo n ys ((ordL n).drop i) rest outs = exGo n ys (ordL n) vs []))
  case atStart =>
    refine ⟨0, vs, [], Nat.zero_le _, rfl, rfl, Lib.hid ?_, Lib.hid ?_, Lib.hid ?_, Lib.hid ?_, Hr0, Lib.hid ?_, Lib.hid ?_⟩
    · exact Hb6.out.trans ((below_alloc w6 _).mono (by rw [← HA6.out]; omega))
    · rw [size_alloc, ← HA6.out]; omega
    · exact Ho6.out.below (below_alloc w6 _)
    · have := OwnCd.made0 w6
      rw [← HA6.out] at this ⊢
      exact this.mono (Nat.le_refl _) (by rw [size_alloc, ← HA6.out]; omega)
    · exact List.Sublist.refl _
    · rw [List.drop_zero]
  case round =>
    obtain ⟨i, rest, outs, hi, rfl, rfl, hb, hs, ho, hoc, hr, hot, hgo⟩ := hrel
    obtain ⟨wx, rfl⟩ : ∃ x : World, x = wr := ⟨_, rfl⟩
    have Hb := Lib.hid hb.out
    have Hs := Lib.hid hs.out
    have Ho := Lib.hid ho.out
    have Hoc := Lib.hid hoc.out
    have Hr := Lib.hid hr.out
    have Hot := Lib.hid hot.out
    have Hgo := Lib.hid hgo.out
    obtain ⟨pc, kc, rfl, hkc, hkcm⟩ := hoc.out.shape
    clear hb hs ho hoc hr hot hgo
    unfold maxLen at hkcm
    obtain ⟨no, hno⟩ : ∃ no, no = outs.length := ⟨_, rfl⟩
    have Hno := Lib.hid hno
    rw [← hno] at hkc Hoc ⊢
    clear hno
    have hbx : Below w5.heap.size w5 wx := by rw [← HA5.out]; exact Hb.out
    have cbx := cell_below hbx Hbx5.out
    by_cases hlt : i < F
    · have hlti : (i : Int) < (F : Int) := by omega
      obtain ⟨x, hx⟩ : ∃ x, x = (ordL n).getD i 0 := ⟨_, rfl⟩
      have hxF : x < F := by rw [hx, HF.out]; exact HOI.out.at_ (by rw [← HF.out]; exact hlt)
      have hxi : (x : Int) < (F : Int) := by omega
      have co := cell_below hbx (Hc4.out i hlt)
      rw [← hx] at co
      obtain ⟨vx, hvx⟩ : ∃ z, z = fr x := ⟨_, rfl⟩
      have cr := cell_below hbx (Hcr.out x hxF)
      rw [← hvx] at cr
      have Hix := Lib.hid (show Ints wx vx (pmA n x) by rw [hvx]; exact (Hfr.out x hxF).below hbx)
      have HY9 := Lib.hid (HY5.out.below hbx)
      have hdr : (ordL n).drop i = x :: (ordL n).drop (i + 1) := by
        rw [List.drop_eq_getElem_cons (by rw [Hol.out]; exact hlt), hx, List.getD_eq_getElem?_getD, List.getElem?_eq_getElem (by rw [Hol.out]; exact hlt)]; rfl
      have htk : (ordL n).take (i + 1) = (ordL n).take i ++ [x] := by
        rw [List.take_add_one, List.getElem?_eq_getElem (by rw [Hol.out]; exact hlt), hx, List.getD_eq_getElem?_getD, List.getElem?_eq_getElem (by rw [Hol.out]; exact hlt)]; rfl
      have Hdr := Lib.hid hdr
      have Htk := Lib.hid htk
      have Hx := Lib.hid hx
      have Hbx := Lib.hid hbx
      have Hvx := Lib.hid hvx
      clear hdr htk hx hvx hbx
      go_wp2_with fail
      refine (implTable_any n (pmA n x) ys vx (.slice py n ky) wx (pm_p5 HYO.out (by rw [← HF.out]; exact hxF)) HYO.out.one HYO.out.four HYO.out.len HYO.out.nine Hix.out (by have := HY9.out; exact this)).mono ?_
      rintro e w8 ⟨u8, rfl, ho8, hb8⟩
      have hl8 : (tabL (pmA n x) ys).length = F := by rw [HF.out]; exact tb_length HYO.out (by rw [← HF.out]; exact hxF)
      have h8 := ho8.fn
      obtain ⟨p8, k8, rfl, hk8, hk88⟩ := ho8.shape
      unfold maxLen at hk88
      rw [hl8] at h8 hk8 ⊢
      obtain ⟨g8, rfl, hg81, hg82, hg83⟩ := h8.at_ (by omega)
      have hrl : rest.length = F := by rw [Hr.out.1, HF.out]
      have h6 : OwnF w8 A5 A6 3 (.slice (some ⟨g6, 0, none⟩) F k6) F (iv rest) := by
        have := (Ho.out.below hb8).fn
        rw [hrl] at this
        exact this
      obtain ⟨T, hT⟩ : ∃ T, T = (tbA n ys x).getD x 0 := ⟨_, rfl⟩
      obtain ⟨R, hR⟩ : ∃ R, R = rest.getD x 0 := ⟨_, rfl⟩
      obtain ⟨C, hC⟩ : ∃ C, C = qoA n ys rest x := ⟨_, rfl⟩
      have c8 : w8.cell? ⟨g8, x, none⟩ = some (.int .i64 T) := by rw [h8.cell hxF, hT]; rfl
      have c6 : w8.cell? ⟨g6, x, none⟩ = some (.int .i64 R) := by rw [h6.cell hxF, hR]; rfl
      have hT0 : ¬ T = 0 := by rw [hT]; exact tb_ne HYO.out (by rw [← HF.out]; exact hxF)
      have hRb : R.natAbs ≤ 1000000000000 + i * 1000000000000000 := by rw [hR]; exact Hr.out.2 x (by rw [← HF.out]; exact hxF)
      have hCd : C = R.tdiv T := by rw [hC, hR, hT]; rfl
      have hCa : C.natAbs ≤ R.natAbs := by rw [hCd]; exact tdiv_abs _ _
      have hPa : (C * T).natAbs ≤ R.natAbs := by rw [hCd]; exact tdiv_mul_abs _ _
      have hR17 : R.natAbs ≤ 200000000000000000 := by
        have : i * 1000000000000000 ≤ 120 * 1000000000000000 := Nat.mul_le_mul_right _ (by omega)
        omega
      have hbad : badA n ys rest x ↔ (C * T ≠ R ∨ C < -1000000000 ∨ 1000000000 < C) := by unfold badA; rw [← hC, ← hT, ← hR]
      obtain ⟨P, hP⟩ : ∃ P, P = C * T := ⟨_, rfl⟩
      rw [← hP] at hPa hbad
      have hwq : IntKind.i64.wrap (R.tdiv T) = C := by rw [← hCd, IntKind.wrap_i64]; omega
      have hwp : IntKind.i64.wrap (C * T) = P := by rw [← hP, IntKind.wrap_i64]; omega
      have HC := Lib.hid hC
      have HT := Lib.hid hT
      have HR := Lib.hid hR
      have HP := Lib.hid hP
      have Hbad := Lib.hid hbad
      have H8 := Lib.hid h8
      have H6 := Lib.hid h6
      have Hb8 := Lib.hid hb8
      have Hrl := Lib.hid hrl
      have HCa := Lib.hid hCa
      have Hwp := Lib.hid hwp
      have HT0 := Lib.hid hT0
      have HRb := Lib.hid hRb
      clear hC hT hR hP hbad h8 h6 hb8 hrl ho8 hl8 hCd hCa hPa hR17 hRb hwp
      go_wp2_with fail
      go_quiet (fail)
      obtain ⟨q1, rfl⟩ : ∃ q : Nat, q = nq := ⟨_, rfl⟩
      have hbw8 : Below w.heap.size w w8 := Hbw5.out.trans ((Hbx.out.mono Hbw5.out.size).trans (Hb8.out.mono (Nat.le_trans Hbw5.out.size Hbx.out.size)))
      have Hbw8 := Lib.hid hbw8
      have Hnone := Lib.hid (show badA n ys rest x → expE n vs ys (ordL n) = ([], false) from fun hb => by
        unfold expE
        rw [← Hgo.out, Hdr.out, exGo, if_pos hb]; rfl)
      clear hbw8
      by_cases e1 : P = R
      · have d1 : (P != R) = false := by simp [e1]
        have He1 := Lib.hid e1
        have hwp : IntKind.i64.wrap (C * T) = P := Hwp.out
        clear e1
        by_cases e2 : C < -1000000000
        · go_wp2_with fail
          go_quiet (fail)
          go_wp2_with fail
          go_ret2
          rw [Hnone.out (Hbad.out.2 (.inr (.inl e2)))]
          exact ⟨_, rfl, OwnCd.nil _ _ _, Hbw8.out.trans (Below.of_drewN _ _ |>.trans (Below.of_drewN _ _))⟩
        · by_cases e3 : 1000000000 < C
          · go_wp2_with fail
            go_quiet (fail)
            go_wp2_with fail
            go_ret2
            rw [Hnone.out (Hbad.out.2 (.inr (.inr e3)))]
            exact ⟨_, rfl, OwnCd.nil _ _ _, Hbw8.out.trans (Below.of_drewN _ _ |>.trans (Below.of_drewN _ _))⟩
          · have hnb : ¬ badA n ys rest x := fun hb => by
              rcases Hbad.out.1 hb with h | h | h
              · exact h He1.out
              · exact e2 h
              · exact e3 h
            have Hnb := Lib.hid hnb
            clear hnb
            by_cases e4 : C = 0
            · have d4 : (C == 0) = true := by simp [e4]
              have He4 := Lib.hid e4
              clear e4
              go_wp2_with fail
              go_quiet (fail)
              go_wp2_with fail
              go_roundg (F - (i + 1))
              case measure => omega
              case rel =>
                refine ⟨i + 1, rest, outs, by omega, rfl, by go_num, Lib.hid ?_, Lib.hid ?_, Lib.hid ?_, Lib.hid ?_, Lib.hid Hr.out.mono, Lib.hid ?_, Lib.hid ?_⟩
                · exact Hb.out.trans ((Hb8.out.mono (by have := Hs.out; omega)).trans (Below.of_drewN _ _))
                · have := Hb8.out.size; have := Hs.out; show A6 ≤ w8.heap.size; omega
                · exact (Ho.out.below Hb8.out).below (Below.of_drewN _ _)
                · exact ((Hoc.out.below Hb8.out).mono (Nat.le_refl _) Hb8.out.size).below (Below.of_drewN _ _)
                · rw [Htk.out]; exact Hot.out.skip x
                · rw [← Hgo.out, Hdr.out, exGo, if_neg Hnb.out, if_pos (by rw [← HC.out]; exact He4.out)]
            · have d4 : (C == 0) = false := by simp [e4]
              have He4 := Lib.hid e4
              clear e4
              go_wp2_with fail
              go_quiet (fail)
              obtain ⟨W9, hW9⟩ : ∃ W, W = (w8.drewN q1).drewN nq := ⟨_, rfl⟩
              rw [← hW9]
              have Hq9 := Lib.hid (show Qt w8 W9 from ⟨q1 + nq, by rw [hW9, World.drewN_drewN]⟩)
              clear hW9
              have h6' : OwnF W9 A5 A6 3 (.slice (some ⟨g6, 0, none⟩) F k6) F (iv rest) := H6.out.below (Hq9.out.below _)
              have Hc8 := Lib.hid (show ∀ j, j < F → W9.cell? ⟨g8, j, none⟩ = some (.int .i64 ((tbA n ys x).getD j 0)) from fun j hj => Hq9.out.cell (H8.out.cell hj))
              have hg8s : g8 < W9.heap.size := by rw [Hq9.out.size]; exact hg83
              have hg8o : A6 ≤ g8 := Nat.le_trans Hs.out hg81
              have H6' := Lib.hid h6'
              clear h6' c6 c8
              go_wp2_with fail
              go_loopg [81] F (fun g s81 wr2 => ∃ j : Nat, j ≤ F ∧ g = F - j ∧ s81 = .int .i64 (j : Int) ∧ Hid (Frm A5 A6 W9 wr2) ∧ Hid (OwnF wr2 A5 A6 3 (.slice (some ⟨g6, 0, none⟩) F k6) F (fun t => if t < j then iv (subL rest C (tbA n ys x)) t else iv rest t)))
              case atStart => exact ⟨0, Nat.zero_le _, rfl, rfl, Lib.hid (Frm.refl _ _ _), Lib.hid (H6'.out.congr fun t _ => by rw [if_neg (Nat.not_lt_zero _)])⟩
              case round =>
                obtain ⟨j, hj, rfl, rfl, hfj, hoj⟩ := hrel
                obtain ⟨wy, rfl⟩ : ∃ x : World, x = wr := ⟨_, rfl⟩
                have Hfj := Lib.hid hfj.out
                have Hoj := Lib.hid hoj.out
                clear hfj hoj
                by_cases hjF : j < F
                · have hjFi : (j : Int) < (F : Int) := by omega
                  obtain ⟨a, ha⟩ : ∃ a, a = rest.getD j 0 := ⟨_, rfl⟩
                  obtain ⟨b, hb⟩ : ∃ b, b = (tbA n ys x).getD j 0 := ⟨_, rfl⟩
                  have ca : wy.cell? ⟨g6, j, none⟩ = some (.int .i64 a) := by rw [Hoj.out.cell hjF, if_neg (Nat.lt_irrefl _), ha]; rfl
                  have fa : wy.frozen? ⟨g6, j, none⟩ = false := Hoj.out.frozen j
                  have cb : wy.cell? ⟨g8, j, none⟩ = some (.int .i64 b) := by
                    rw [hb, ← Hc8.out j hjF]
                    unfold World.cell?
                    rw [Hfj.out.block g8 hg8s (.inr hg8o)]
                  obtain ⟨M, hM⟩ : ∃ M, M = C * b := ⟨_, rfl⟩
                  obtain ⟨S, hS⟩ : ∃ S, S = a - M := ⟨_, rfl⟩
                  have hab : a.natAbs ≤ 200000000000000000 := by
                    rw [ha]
                    refine Nat.le_trans (Hr.out.2 j (by rw [← HF.out]; exact hjF)) ?_
                    have : i * 1000000000000000 ≤ 120 * 1000000000000000 := Nat.mul_le_mul_right _ (by omega)
                    omega
                  have hMb : M.natAbs ≤ 1000000000 * 1000000 := by rw [hM, hb]; exact abs_mul2 (by omega) (tb_bound HYO.out (by rw [← HF.out]; exact hxF) (by rw [← HF.out]; exact hjF))
                  have hwM : IntKind.i64.wrap (C * b) = M := by rw [← hM, IntKind.wrap_i64]; omega
                  have hwS : IntKind.i64.wrap (a - M) = S := by rw [hS, IntKind.wrap_i64]; omega
                  have Ha := Lib.hid ha
                  have HB := Lib.hid hb
                  have HM := Lib.hid hM
                  have HS := Lib.hid hS
                  clear ha hb hM hS hab hMb
                  go_wp2_with fail
                  go_region
                  go_wp2_with fail
                  go_roundg (F - (j + 1))
                  case measure => omega
                  case rel =>
                    refine ⟨j + 1, by omega, rfl, by go_num, Lib.hid ?_, Lib.hid ?_⟩
                    · exact (Hfj.out.setCell (p := ⟨g6, j, none⟩) hg61 hg62 _).drewN 1
                    · have h1 := Hoj.out.set j (.int .i64 S)
                      have h2 : OwnF (wy.setCell ⟨g6, j, none⟩ (.int .i64 S)).drew A5 A6 3 (.slice (some ⟨g6, 0, none⟩) F k6) F _ := h1.below ((Below.refl _ _).drew)
                      refine h2.congr fun t ht => ?_
                      by_cases h3 : t = j
                      · rw [if_pos h3, if_pos (by omega), h3]
                        unfold iv
                        rw [subL_getD (by rw [Hrl.out]; exact hjF), HS.out, HM.out, Ha.out, HB.out]
                      · rw [if_neg h3]
                        by_cases h4 : t < j
                        · rw [if_pos h4, if_pos (by omega)]
                        · rw [if_neg h4, if_neg (by omega)]
                · have hjFi : ¬ (j : Int) < (F : Int) := by omega
                  obtain rfl : j = F := by omega
                  have hsl : (subL rest C (tbA n ys x)).length = j := by rw [subL_length, Hrl.out]
                  have Hoy := Lib.hid (show OwnI 3 wy A5 A6 (.slice (some ⟨g6, 0, none⟩) j k6) (subL rest C (tbA n ys x)) from by
                    refine OwnF.ints ?_
                    rw [hsl]
                    exact Hoj.out.congr fun t ht => by rw [if_pos ht])
                  have hsz9 : W9.heap.size ≤ wy.heap.size := Hfj.out.size
                  have hsx9 : wx.heap.size ≤ W9.heap.size := by rw [Hq9.out.size]; exact Hb8.out.size
                  have hbx9 : Below wx.heap.size wx W9 := Hb8.out.trans ((Hq9.out.below _).mono Hb8.out.size)
                  have hb9y : Below A5 W9 wy := Hfj.out.below (Nat.le_refl _) (by have := Hs.out; omega)
                  have hbxy : Below A5 wx wy := (hbx9.mono (by have := Hs.out; omega)).trans hb9y
                  have hb5y : Below w5.heap.size w5 wy := by rw [← HA5.out]; exact Hb.out.trans hbxy
                  have cby := cell_below hb5y Hbx5.out
                  have cry := cell_below hb5y (Hcr.out x hxF)
                  rw [← Hvx.out] at cry
                  have Hiy := Lib.hid (show Ints wy vx (pmA n x) by rw [Hvx.out]; exact (Hfr.out x hxF).below hb5y)
                  have Hcy := Lib.hid (show OwnCd wy A6 wx.heap.size (.slice pc no kc) outs from (Hoc.out.below hbx9).frm Hfj.out (.inr (Nat.le_refl _)))
                  have Hb5y := Lib.hid hb5y
                  have Hbxy := Lib.hid hbxy
                  have hsxy : wx.heap.size ≤ wy.heap.size := Nat.le_trans hsx9 hsz9
                  clear hsl hbx9 hb9y hbxy hb5y cbx cr co
                  go_wp2_with fail
                  refine (implTrim_yes vx (pmA n x) wy Hiy.out (pm_p5 HYO.out (by rw [← HF.out]; exact hxF)).ok).mono ?_
                  rintro e wt ⟨ut, rfl, hot, hbt⟩
                  obtain ⟨tl, htl⟩ : ∃ tl, tl = trimL (pmA n x) := ⟨_, rfl⟩
                  rw [← htl] at hot
                  obtain ⟨pt, kt, rfl, hkt, hktm⟩ := hot.shape
                  obtain ⟨nt, hnt⟩ : ∃ nt, nt = tl.length := ⟨_, rfl⟩
                  rw [← hnt] at hot hkt ⊢
                  have Htl := Lib.hid htl
                  obtain ⟨B8, hB8⟩ : ∃ B, B = wy.heap.size := ⟨_, rfl⟩
                  obtain ⟨B9, hB9⟩ : ∃ B, B = wt.heap.size := ⟨_, rfl⟩
                  have hst := hbt.size
                  rw [← hB8, ← hB9] at hst hot
                  obtain ⟨f, g1, g2, g3⟩ := (Hcy.out.mono (Nat.le_refl A6) hsxy).below hbt
                  rw [← hB8] at g1 g2
                  have hal : Below wt.heap.size wt (wt.alloc (.cells #[.slice pt nt kt, .int .i64 C] 34)) := below_alloc wt _
                  have g1a := Lib.hid (g1.below hal)
                  have g2a := Lib.hid (show ∀ i, i < outs.length → OwnI 3 (wt.alloc (.cells #[.slice pt nt kt, .int .i64 C] 34)) A6 B8 (f i) (outs.getD i clD).1 from fun i hi => (g2 i hi).below hal)
                  have G3 := Lib.hid g3
                  have Hxt := Lib.hid (hot.below hal)
                  have Hcl := Lib.hid (show ∀ j, j < 2 → (wt.alloc (.cells #[.slice pt nt kt, .int .i64 C] 34)).cell? ⟨wt.heap.size, j, none⟩ = some (match j with | 0 => .slice pt nt kt | _ => .int .i64 C) from fun j hj =>
                    match j, hj with
                    | 0, _ => cell_of_blk (heap_alloc_top wt _) (j := 0) rfl
                    | 1, _ => cell_of_blk (heap_alloc_top wt _) (j := 1) rfl)
                  have Hone := Lib.hid (show ∀ j, j < 2 → (match j with | 0 => Value.slice pt nt kt | _ => .int .i64 C).oneCell' = true from fun j hj =>
                    match j, hj with
                    | 0, _ => rfl
                    | 1, _ => rfl)
                  have hol : outs.length ≤ 120 := Nat.le_trans (Hot.out.length (l := (ordL n).drop i) (by rw [List.take_append_drop]; exact HOI.out.perm)) (by rw [← HF.out]; exact hf.2)
                  have Hn1 := Lib.hid (show outs.length + 1 ≤ maxLen by unfold maxLen; omega)
                  have Hn2 := Lib.hid (show (outs.length + 1) * 32 ≤ 140737488355328 by omega)
                  have Hlo := Lib.hid (show A6 ≤ (wt.alloc (.cells #[.slice pt nt kt, .int .i64 C] 34)).heap.size by rw [size_alloc, ← hB9]; have := Hs.out; omega)
                  have HB8 := Lib.hid hB8
                  have HB9 := Lib.hid hB9
                  have Hbt := Lib.hid hbt
                  have Hal := Lib.hid hal
                  have hs8 : wx.heap.size ≤ B8 := by rw [hB8]; exact hsxy
                  clear g1 g2 g3 hot hal hnt htl hB8 hB9 hbt hol
                  go_wp2_with (at_builtin; go_must (refine wpList_append_S rfl (.tmp 97) (.tmp 105) 27 rfl 34 _ 2 32 Tryz.underlying27 info_cls rfl (by omega) A6 B8 _ outs.length (clF outs f) rfl g1a.out Hlo.out _ _ _ rfl Hcl.out Hone.out Hn1.out Hn2.out ?_; intro v' w' hv hg))
                  go_roundg (j - (i + 1))
                  case measure => omega
                  case rel =>
                    have hgb : Below A6 (wt.alloc (.cells #[.slice pt nt kt, .int .i64 C] 34)) w' := grownBy_below hg g1a.out.blocks (Nat.le_refl _) Hlo.out
                    have hA6 : A6 ≤ wy.heap.size := by have := Hs.out; omega
                    have hby' : Below A6 wy w' := (Hbt.out.mono hA6).trans ((Hal.out.mono (Nat.le_trans hA6 Hbt.out.size)).trans hgb)
                    refine ⟨i + 1, subL rest C (tbA n ys x), outs ++ [(tl, C)], by omega, rfl, by go_num, Lib.hid ?_, Lib.hid ?_, Lib.hid ?_, Lib.hid ?_, Lib.hid ?_, Lib.hid ?_, Lib.hid ?_⟩
                    · exact Hb.out.trans (Hbxy.out.trans (hby'.mono (by omega)))
                    · exact Nat.le_trans hA6 hby'.size
                    · exact Own.keep Hoy.out fun k h1 h2 h3 => hby'.block k h2
                    · exact OwnCd.snoc g1a.out g2a.out G3.out Hxt.out (by have := Hs.out; omega) hst hg (Nat.le_trans (by rw [HB9.out]; exact Hal.out.size) hg.size) hv
                    · exact Hr.out.sub HYO.out (by rw [← HF.out]; exact hxF) (by omega)
                    · rw [Htk.out, Htl.out]; exact Hot.out.snoc x C
                    · rw [← Hgo.out, Hdr.out, exGo, if_neg Hnb.out, if_neg (by rw [← HC.out]; exact He4.out), ← HC.out, Htl.out]
      · have d1 : (P != R) = true := by simp [e1]
        have He1 := Lib.hid e1
        have hwp : IntKind.i64.wrap (C * T) = P := Hwp.out
        clear e1
        go_wp2_with fail
        go_quiet (fail)
        go_wp2_with fail
        go_ret2
        rw [Hnone.out (Hbad.out.2 (.inl He1.out))]
        exact ⟨_, rfl, OwnCd.nil _ _ _, Hbw8.out.trans (Below.of_drewN _ _ |>.trans (Below.of_drewN _ _))⟩
    · have hlti : ¬ (i : Int) < (F : Int) := by omega
      obtain rfl : i = F := by omega
      have hnd : (outs.map (·.1)).Nodup := Hot.out.nodup HYO.out.one HYO.out.four (l := (ordL n).drop i) (by rw [List.take_append_drop]; exact HOI.out.perm)
      have hol : outs.length ≤ 120 := Nat.le_trans (Hot.out.length (l := (ordL n).drop i) (by rw [List.take_append_drop]; exact HOI.out.perm)) (by rw [← HF.out]; exact hf.2)
      have Hsc := Lib.hid (sortClasses_any (.slice pc no kc) outs A6 wx.heap.size wx Hoc.out (by omega) hnd)
      clear hnd hol cbx
      go_wp2_with fail
      refine Hsc.out.mono ?_
      rintro e w9 ⟨rfl, ho9, hf9⟩
      have Ho9 := Lib.hid ho9
      have Hf9 := Lib.hid hf9
      have Hbx := Lib.hid hbx
      clear ho9 hf9 hbx
      go_wp2_with fail
      go_ret2
      have hres : expE n vs ys (ordL n) = (srtC outs, true) := by
        unfold expE
        rw [← Hgo.out, List.drop_of_length_le (by rw [Hol.out]; exact Nat.le_refl _)]
        rfl
      rw [hres]
      have hw5 := Hbw5.out.size
      have h56 : w5.heap.size ≤ A6 := by rw [← HA5.out]; exact hs6
      refine ⟨_, rfl, (Ho9.out.mono (by omega) Hf9.out.size), ?_⟩
      exact Hbw5.out.trans ((Hbx.out.mono hw5).trans (Hf9.out.below (by omega) (by have := Hs.out; omega)))

end Go.Proofs.YtgebjjpcgakjgaaGreat

namespace Go.Proofs.YtgebjjpcgakjgaaGreat
set_option linter.all false
open Go.RowKit

def lenS (n x : Nat) : Nat := lnN (pmA n x)
/-- those of length s from x on, and those longer than s -/
def rowS (n s x : Nat) : List Nat := ((List.range (fact n)).drop x).filter fun y => decide (lenS n y = s)
def rowsS (n s : Nat) : List Nat := ((List.range (n * (n - 1) / 2 + 1)).drop s).flatMap fun t => rowS n t 0
theorem rowsS_zero (n : Nat) : rowsS n 0 = ordL n := by
  unfold rowsS ordL rowS lenS pmA
  rw [List.drop_zero]
  rfl
theorem range_drop {F x : Nat} (h : x < F) : (List.range F).drop x = x :: (List.range F).drop (x + 1) := by
  rw [List.drop_eq_getElem_cons (by simpa using h)]; simp
theorem rowsS_succ {n s : Nat} (h : s ≤ n * (n - 1) / 2) : rowsS n s = rowS n s 0 ++ rowsS n (s + 1) := by
  unfold rowsS
  rw [range_drop (show s < n * (n - 1) / 2 + 1 by omega), List.flatMap_cons]
theorem rowsS_end {n s : Nat} (h : n * (n - 1) / 2 < s) : rowsS n s = [] := by
  unfold rowsS
  rw [List.drop_of_length_le (by simp; omega)]; rfl
theorem rowS_end {n s x : Nat} (h : fact n ≤ x) : rowS n s x = [] := by
  unfold rowS
  rw [List.drop_of_length_le (by simpa using h)]; rfl
theorem rowS_in {n s x : Nat} (h : x < fact n) (e : lenS n x = s) : rowS n s x = x :: rowS n s (x + 1) := by
  unfold rowS
  rw [range_drop h, List.filter_cons_of_pos (by simpa using e)]
theorem rowS_out {n s x : Nat} (h : x < fact n) (e : ¬ lenS n x = s) : rowS n s x = rowS n s (x + 1) := by
  unfold rowS
  rw [range_drop h, List.filter_cons_of_neg (by simpa using e)]
/-- the permutation that comes next is none of those that were done -/
theorem out_new {n : Nat} (h1 : 1 ≤ n) (h4 : n ≤ 4) {done l : List Nat} {x : Nat} {outs : List Cls} (h : OutOk n done outs) (hp : (done ++ x :: l).Perm (List.range (fact n))) : ∀ c ∈ srtC outs, c.1 ≠ trimL (pmA n x) := by
  intro c hc e
  have hc' := (srtC_perm outs).mem_iff.1 hc
  have m1 : c.1 ∈ done.map fun x => trimL (pmA n x) := h.subset (List.mem_map.2 ⟨c, hc', rfl⟩)
  have a : ((done ++ x :: l).map fun x => trimL (pmA n x)).Nodup := (List.Perm.nodup_iff (hp.map _)).2 (trim_nodup h1 h4)
  rw [List.map_append] at a
  exact (List.nodup_append.1 a).2.2 _ m1 _ (by rw [List.map_cons]; exact List.mem_cons_self) e
theorem out_len {n : Nat} {done l : List Nat} {outs : List Cls} (h : OutOk n done outs) (hp : (done ++ l).Perm (List.range (fact n))) (hf : fact n ≤ 120) : (srtC outs).length ≤ 120 := by
  rw [(srtC_perm outs).length_eq]
  exact Nat.le_trans (h.length hp) hf
theorem out_trim {n : Nat} {ys : List Int} (hy : YOk n ys) {done l : List Nat} {outs : List Cls} (h : OutOk n done outs) (hp : (done ++ l).Perm (List.range (fact n))) : ∀ i, i < (srtC outs).length → ((srtC outs).getD i clD).1.length ≤ 1000 := by
  intro i hi
  have m0 : (srtC outs).getD i clD ∈ srtC outs := by
    rw [List.getD_eq_getElem?_getD, List.getElem?_eq_getElem hi]
    exact List.getElem_mem _
  have m1 : ((srtC outs).getD i clD).1 ∈ done.map fun x => trimL (pmA n x) := h.subset (List.mem_map.2 ⟨_, (srtC_perm outs).mem_iff.1 m0, rfl⟩)
  obtain ⟨x, hx, e⟩ := List.mem_map.1 m1
  rw [← e, trimL_length]
  have hxF : x < fact n := by simpa using hp.mem_iff.1 (List.mem_append_left _ hx)
  have := trimN_le (pmA n x) (pmA n x).length
  have := (pm_p5 hy hxF).len
  have := hy.four
  omega

end Go.Proofs.YtgebjjpcgakjgaaGreat

namespace Go.Proofs.YtgebjjpcgakjgaaGreat
set_option linter.all false
set_option maxRecDepth 100000
open Go.RowKit

def posC (c : Cls) : List Cls → Nat
  | [] => 0
  | x :: l => if ltB x.1 c.1 then posC c l + 1 else 0
theorem posC_le (c : Cls) : ∀ l, posC c l ≤ l.length
  | [] => Nat.le_refl _
  | x :: l => by
    rw [posC]
    split
    · have := posC_le c l; simp; omega
    · exact Nat.zero_le _
theorem insC_eq (c : Cls) : ∀ l, insC c l = l.take (posC c l) ++ c :: l.drop (posC c l)
  | [] => rfl
  | x :: l => by
    rw [insC, posC]
    split
    · rw [insC_eq c l, List.take_succ_cons, List.drop_succ_cons]; rfl
    · rfl
theorem posC_lt (c : Cls) : ∀ (l : List Cls) (i : Nat), i < posC c l → ltB (l.getD i clD).1 c.1 = true
  | [], i, h => absurd h (Nat.not_lt_zero _)
  | x :: l, i, h => by
    rw [posC] at h
    by_cases e : ltB x.1 c.1 = true
    · rw [if_pos e] at h
      cases i with
      | zero => exact e
      | succ i => exact posC_lt c l i (by omega)
    · rw [if_neg e] at h
      exact absurd h (Nat.not_lt_zero _)
theorem posC_at (c : Cls) : ∀ (l : List Cls), posC c l < l.length → ltB (l.getD (posC c l) clD).1 c.1 = false
  | [], h => absurd h (Nat.not_lt_zero _)
  | x :: l, h => by
    by_cases e : ltB x.1 c.1 = true
    · have e1 : posC c (x :: l) = posC c l + 1 := by rw [posC, if_pos e]
      rw [e1] at h ⊢
      exact posC_at c l (by simpa using h)
    · have e1 : posC c (x :: l) = 0 := by rw [posC, if_neg e]
      rw [e1]
      simpa using e
theorem take_snocC {cs : List Cls} {i : Nat} (h : i < cs.length) : cs.take (i + 1) = cs.take i ++ [cs.getD i clD] := by
  rw [List.take_add_one, List.getElem?_eq_getElem h, List.getD_eq_getElem?_getD, List.getElem?_eq_getElem h]; rfl
theorem insC_take0 (c : Cls) (cs : List Cls) : (insC c cs).take (posC c cs + 1) = cs.take (posC c cs) ++ [c] := by
  have h := posC_le c cs
  rw [insC_eq, List.take_append, List.take_of_length_le (by rw [List.length_take]; omega), List.length_take, Nat.min_eq_left h, show posC c cs + 1 - posC c cs = 1 by omega]; rfl
theorem insC_take {c : Cls} {cs : List Cls} {i : Nat} (h1 : posC c cs ≤ i) (h : i < cs.length) : (insC c cs).take (i + 2) = (insC c cs).take (i + 1) ++ [cs.getD i clD] := by
  have hl : (insC c cs).length = cs.length + 1 := by rw [(insC_perm c cs).length_eq]; rfl
  have hi : i + 1 < (insC c cs).length := by omega
  rw [List.take_add_one, List.getElem?_eq_getElem hi]
  congr 1
  have hp := posC_le c cs
  have : (insC c cs)[i + 1]? = some (cs.getD i clD) := by
    rw [insC_eq, List.getElem?_append_right (by rw [List.length_take]; omega), List.length_take, Nat.min_eq_left hp, show i + 1 - posC c cs = (i - posC c cs) + 1 by omega, List.getElem?_cons_succ, List.getElem?_drop, show posC c cs + (i - posC c cs) = i by omega, List.getElem?_eq_getElem h, List.getD_eq_getElem?_getD, List.getElem?_eq_getElem h]; rfl
  rw [List.getElem?_eq_getElem hi] at this
  rw [this]; rfl

/-- classes whose row lies from lo1 on, the permutations from lo0 on -/
def OwnCe (w : World) (lo1 lo0 hi : Nat) (v : Value) (cs : List Cls) : Prop :=
  ∃ g, OwnS w lo1 hi 34 2 v cs.length (clF cs g) ∧ ∀ i, i < cs.length → OwnI 3 w lo0 hi (g i) (cs.getD i clD).1
theorem OwnCe.below {w w' : World} {lo1 lo0 hi : Nat} {v : Value} {cs : List Cls} (h : OwnCe w lo1 lo0 hi v cs) (hb : Below w.heap.size w w') : OwnCe w' lo1 lo0 hi v cs := by
  obtain ⟨g, h1, h2⟩ := h
  exact ⟨g, h1.below hb, fun i hi => (h2 i hi).below hb⟩
theorem OwnCe.cl {w : World} {lo1 lo0 hi : Nat} {v : Value} {cs : List Cls} (h : OwnCe w lo1 lo0 hi v cs) (hl : lo0 ≤ lo1) : OwnCl w lo0 hi v cs := by
  obtain ⟨g, h1, h2⟩ := h
  exact ⟨g, h1.mono hl (Nat.le_refl _), h2⟩
theorem OwnCe.snoc {w w' : World} {lo1 lo0 mid : Nat} {v v' x : Value} {cs : List Cls} {m : Cls} {f : Nat → Value} {n : Nat} (hn : n = cs.length) (g1 : OwnS w lo1 mid 34 2 v n (clF cs f)) (g2 : ∀ i, i < cs.length → OwnI 3 w lo0 mid (f i) (cs.getD i clD).1)
    (hx : OwnI 3 w lo0 mid x m.1) (hg : w.grownBy w' v.ownBlock) (hsz : mid ≤ w'.heap.size)
    (hv : OwnS w' lo1 w'.heap.size 34 2 v' (n + 1) (fun i => if i < n then clF cs f i else fun j => match j with | 0 => x | _ => .int .i64 m.2)) : OwnCe w' lo1 lo0 w'.heap.size v' (cs ++ [m]) := by
  subst hn
  have hrow : ∀ (y : Value) (ys : List Int) (lo1 hi1 : Nat), OwnI 3 w lo1 hi1 y ys → OwnI 3 w' lo1 hi1 y ys := fun y ys lo1 hi1 hy =>
    ⟨ownsRow_of_block hy.1 fun k hk => hg.block k (Own.block hy hk).2.2 fun e => ne_of_kinds (g1.kind k e.symm) (OwnI.kind hy k hk) (by decide), hy.2⟩
  refine ⟨fun i => if i < cs.length then f i else x, by
    rw [List.length_append]
    refine hv.congr fun i hi j hj => ?_
    by_cases h : i < cs.length
    · rw [if_pos h]
      unfold clF
      rw [OwnCd.getD_snoc, if_pos h]
      have : j = 0 ∨ j = 1 := by omega
      rcases this with rfl | rfl
      · show f i = if i < cs.length then f i else x
        rw [if_pos h]
      · rfl
    · have e : i = cs.length := by omega
      rw [if_neg h]
      unfold clF
      rw [OwnCd.getD_snoc, if_neg h, if_pos e]
      have : j = 0 ∨ j = 1 := by omega
      rcases this with rfl | rfl
      · show x = if i < cs.length then f i else x
        rw [if_neg h]
      · rfl, fun i hi => ?_⟩
  rw [List.length_append] at hi
  simp only [List.length_singleton] at hi
  rw [OwnCd.getD_snoc]
  by_cases h : i < cs.length
  · simp only [h, if_true]
    exact (hrow _ _ _ _ (g2 i h)).mono (Nat.le_refl _) hsz
  · have : i = cs.length := by omega
    simp only [h, if_false]
    rw [if_pos this]
    exact (hrow _ _ _ _ hx).mono (Nat.le_refl _) hsz

end Go.Proofs.YtgebjjpcgakjgaaGreat

namespace Go.Proofs.YtgebjjpcgakjgaaGreat
set_option linter.all false
open Go.RowKit

theorem plA_le {xs : List Int} (h : xs.length ≤ 4) : ∀ i, plA xs i + 1 ≤ 5 ^ i
  | 0 => by simp [plA]
  | i + 1 => by
    have a := plA_le h i
    have b : cdA xs i ≤ 3 := by unfold cdA; have := cdK_le xs i (xs.length - (i + 1)); omega
    have c : plA xs i * (xs.length - i) ≤ plA xs i * 4 := Nat.mul_le_mul_left _ (by omega)
    rw [plA, Nat.pow_succ]
    omega
theorem plA_small {xs : List Int} (h : xs.length ≤ 4) : ∀ i, i ≤ xs.length → plA xs i ≤ 1000000 := fun i hi => by
  have a := plA_le h i
  have b : 5 ^ i ≤ 5 ^ 4 := Nat.pow_le_pow_right (by omega) (by omega)
  omega

end Go.Proofs.YtgebjjpcgakjgaaGreat

namespace Go.Proofs.YtgebjjpcgakjgaaGreat
set_option linter.all false
set_option maxRecDepth 100000
open Go.RowKit

/-- a call returned these classes in new memory, and this bool -/
def RetCS (w : World) (r : List Cls × Bool) (e : Ending) (w' : World) : Prop :=
  ∃ u, e = .returned (.tuple #[u, .bool r.2]) ∧ OwnCl w' w.heap.size w'.heap.size u r.1 ∧ Below w.heap.size w w'
theorem OwnCl.frm {w w' : World} {lo hi lo' hi' : Nat} {v : Value} {cs : List Cls} (h : OwnCl w lo hi v cs) (hb : Frm lo' hi' w w') (ho : hi ≤ lo' ∨ hi' ≤ lo) : OwnCl w' lo hi v cs := by
  obtain ⟨g, h1, h2⟩ := h
  exact ⟨g, h1.frm hb ho, fun i hi => (h2 i hi).frm hb ho⟩
theorem ownCl_nil (w : World) (lo hi : Nat) : OwnCl w lo hi (.slice none 0 0) [] := ⟨fun _ => undef, OwnS.nil _ _ _ _ _ _, fun i hi => absurd hi (Nat.not_lt_zero _)⟩

end Go.Proofs.YtgebjjpcgakjgaaGreat

namespace Go.Proofs.YtgebjjpcgakjgaaGreat
set_option linter.all false
set_option maxRecDepth 100000
open Go.RowKit

def preC (cs : List Cls) (k : Nat) : Nat := ((cs.take k).map fun c => c.1.length + 1).sum
theorem preC_zero (cs : List Cls) : preC cs 0 = 0 := by simp [preC]
theorem preC_succ (cs : List Cls) (k : Nat) (h : k < cs.length) : preC cs (k + 1) = preC cs k + ((cs.getD k clD).1.length + 1) := by
  have e : cs[k]? = some (cs.getD k clD) := by rw [List.getD_eq_getElem?_getD, List.getElem?_eq_getElem h]; rfl
  unfold preC
  rw [List.take_add_one, e, List.map_append, List.sum_append]
  simp
theorem preC_le (cs : List Cls) (k : Nat) : preC cs k ≤ preC cs cs.length := by
  have e : (cs.map fun c => c.1.length + 1).sum = ((cs.take k).map fun c => c.1.length + 1).sum + ((cs.drop k).map fun c => c.1.length + 1).sum := by
    rw [← List.sum_append, ← List.map_append, List.take_append_drop]
  unfold preC
  rw [List.take_of_length_le (Nat.le_refl _)]
  omega
def runCs (m : Int) (cs : List Cls) : List Cls := (List.range cs.length).map fun i => (runs (m + preC cs i) (cs.getD i clD).1.length, m + preC cs i + (cs.getD i clD).1.length)
theorem length_runCs (m : Int) (cs : List Cls) : (runCs m cs).length = cs.length := by simp [runCs]
theorem getD_runCs (m : Int) (cs : List Cls) {i : Nat} (h : i < cs.length) : (runCs m cs).getD i clD = (runs (m + preC cs i) (cs.getD i clD).1.length, m + preC cs i + (cs.getD i clD).1.length) := by
  simp [runCs, List.getD_eq_getElem?_getD, h]
def markC (m : Int) (cs : List Cls) (f : Nat → Value) (k i j : Nat) : Value := if i < k then clF (runCs m cs) f i j else clF cs f i j
theorem markC_next (m : Int) (cs : List Cls) (f : Nat → Value) {k : Nat} (hk : k < cs.length) : ∀ i, i < cs.length → ∀ j, j < 2 →
    (if i = k ∧ j = 1 then Value.int .i64 (m + preC cs k + (cs.getD k clD).1.length) else markC m cs f k i j) = markC m cs f (k + 1) i j := by
  intro i hi j hj
  unfold markC
  have hj2 : j = 0 ∨ j = 1 := by omega
  by_cases e : i = k
  · subst e
    rw [if_pos (show i < i + 1 by omega), if_neg (Nat.lt_irrefl i)]
    unfold clF
    rw [getD_runCs m cs hk]
    rcases hj2 with rfl | rfl
    · rw [if_neg (by omega)]; rfl
    · rw [if_pos ⟨rfl, rfl⟩]; rfl
  · rw [if_neg (by omega)]
    by_cases h : i < k
    · rw [if_pos h, if_pos (by omega)]
    · rw [if_neg h, if_neg (by omega)]

end Go.Proofs.YtgebjjpcgakjgaaGreat

namespace Go.Proofs.YtgebjjpcgakjgaaGreat
set_option linter.all false
set_option maxRecDepth 100000
open Go.RowKit

theorem GkIs.some (N : Int) (vs y : List Int) : ∃ b, GkIs N vs y b := by
  by_cases h : apOk N y = true ∧ vs.length = fact N.toNat ∧ mostB vs = true ∧ ∀ x i j, x < fact N.toNat → i < j → j < N.toNat → gkAt N.toNat vs y x i j
  · exact ⟨true, ⟨fun _ => h, fun _ => rfl⟩⟩
  · exact ⟨false, ⟨fun e => (by cases e), fun e => absurd e h⟩⟩
theorem GkIs.nat {N : Int} {vs y : List Int} (h : GkIs N vs y true) : ∃ n : Nat, N = (n : Int) ∧ YOk n y ∧ vs.length = fact n ∧ RestOk n 0 vs := by
  obtain ⟨ha, hvl, hmo, hgk⟩ := h.1 rfl
  have hN : 1 ≤ N := by
    simp only [apOk, nmOk, Bool.and_eq_true, decide_eq_true_eq] at ha
    exact ha.1.1.1.1.1
  obtain ⟨n, rfl⟩ := Int.eq_ofNat_of_zero_le (show (0 : Int) ≤ N by omega)
  rw [Int.toNat_natCast] at hvl
  refine ⟨n, rfl, yOk ha, hvl, hvl, fun i hi => ?_⟩
  simp only [mostB, decide_eq_true_eq] at hmo
  have := hmo _ (getD_mem (show i < vs.length by rw [hvl]; exact hi))
  omega
theorem implExpand_any (N : Int) (v u : Value) (vs ys : List Int) (w : World) (hv : Ints w v vs) (hy : Ints w u ys) (b : Bool) (h : GkIs N vs ys b) :
    Calls Tryz.prog 21 #[.int .i64 N, v, u] w (RetCB w (if b then expE N.toNat vs ys (ordL N.toNat) else ([], false))) := by
  cases b with
  | false => exact implExpand_no N v u vs ys w hv hy h
  | true =>
    obtain ⟨n, rfl, _⟩ := h.nat
    exact implExpand_yes n v u vs ys w hv hy h

theorem preC_bound {B : Nat} : ∀ {cs : List Cls}, (∀ c ∈ cs, c.1.length ≤ B) → preC cs cs.length ≤ cs.length * (B + 1) := by
  intro cs h
  unfold preC
  rw [List.take_of_length_le (Nat.le_refl _)]
  induction cs with
  | nil => simp
  | cons c cs ih =>
    have a := ih fun x hx => h x (List.mem_cons_of_mem _ hx)
    have b := h c List.mem_cons_self
    rw [List.map_cons, List.sum_cons, List.length_cons, Nat.add_mul, Nat.one_mul]
    omega
theorem exGo_out {n : Nat} {ys : List Int} : ∀ (l done : List Nat) (rest : List Int) (out o : List Cls), exGo n ys l rest out = some o → OutOk n done out → OutOk n (done ++ l) o
  | [], done, rest, out, o, h, ho => by
    rw [exGo] at h
    injection h with h
    rw [← h, List.append_nil]; exact ho
  | x :: l, done, rest, out, o, h, ho => by
    rw [exGo] at h
    have e : done ++ x :: l = (done ++ [x]) ++ l := by simp
    by_cases h1 : badA n ys rest x
    · rw [if_pos h1] at h; cases h
    · rw [if_neg h1] at h
      by_cases h2 : qoA n ys rest x = 0
      · rw [if_pos h2] at h
        rw [e]
        exact exGo_out l _ _ _ _ h (ho.skip x)
      · rw [if_neg h2] at h
        rw [e]
        exact exGo_out l _ _ _ _ h (ho.snoc x _)
theorem expE_len {n : Nat} {ys : List Int} (hy : YOk n ys) (vs : List Int) : preC (expE n vs ys (ordL n)).1 (expE n vs ys (ordL n)).1.length ≤ 1000000 := by
  unfold expE
  cases h : exGo n ys (ordL n) vs [] with
  | none => simp [resE, preC]
  | some o =>
    have OI := ordIs hy.one hy.four
    have hf := fact4 hy.one (show n ≤ 5 by have := hy.four; omega)
    have ho : OutOk n (ordL n) o := exGo_out (ordL n) [] vs [] o h (List.Sublist.refl _)
    have hp : (ordL n ++ []).Perm (List.range (fact n)) := by rw [List.append_nil]; exact OI.perm
    show preC (srtC o) (srtC o).length ≤ _
    have a := preC_bound (B := 1000) (cs := srtC o) fun c hc => by
      obtain ⟨i, hi, e⟩ := List.mem_iff_getElem.1 hc
      have := out_trim hy ho hp i hi
      rw [List.getD_eq_getElem?_getD, List.getElem?_eq_getElem hi] at this
      rw [← e]; exact this
    have b := out_len ho hp hf.2
    have := Nat.mul_le_mul_right (1000 + 1) b
    omega
theorem resB_len (N : Int) (vs ys : List Int) (b : Bool) (h : GkIs N vs ys b) : preC (if b then expE N.toNat vs ys (ordL N.toNat) else ([], false)).1 (if b then expE N.toNat vs ys (ordL N.toNat) else ([], false)).1.length ≤ 1000000 := by
  cases b with
  | false => simp [preC]
  | true =>
    obtain ⟨n, rfl, hy, _⟩ := h.nat
    exact expE_len hy vs

end Go.Proofs.YtgebjjpcgakjgaaGreat

namespace Go.Proofs.YtgebjjpcgakjgaaGreat
set_option linter.all false
set_option maxRecDepth 100000
open Go.RowKit

section
variable {n : Nat} {ys : List Int}
theorem tab_at (hy : YOk n ys) {u : List Int} (hu : P5 n u) {i : Nat} (hi : i < fact n) : (tabL u ys).getD i 0 = FW n ys u (pmA n i) := by
  rw [tab_getD hu.len hi]
  have hb := FW_bound hy.len hy.one hy.four hy.nine hu (pm_p5 hy hi)
  unfold tabV
  have e : Ev (dblP u ys) (mono (pickL ((permsL n).getD i []) ys)) = FW n ys u (pmA n i) := by
    unfold FW EV dblP
    rw [hu.len]; rfl
  rw [e]
  exact wrap_of (by omega)
theorem tab_bound (hy : YOk n ys) {u : List Int} (hu : P5 n u) {i : Nat} (hi : i < fact n) : ((tabL u ys).getD i 0).natAbs ≤ 1000000 := by
  rw [tab_at hy hu hi]
  exact FW_bound hy.len hy.one hy.four hy.nine hu (pm_p5 hy hi)
/-- two tables multiplied place by place -/
def mulT (n : Nat) (ys u v : List Int) : List Int := (List.range (fact n)).map fun i => (tabL u ys).getD i 0 * (tabL v ys).getD i 0
theorem mulT_length (n : Nat) (ys u v : List Int) : (mulT n ys u v).length = fact n := by simp [mulT]
theorem mulT_getD {u v : List Int} {i : Nat} (h : i < fact n) : (mulT n ys u v).getD i 0 = (tabL u ys).getD i 0 * (tabL v ys).getD i 0 := by simp [mulT, List.getD_eq_getElem?_getD, h]
theorem mulT_bound (hy : YOk n ys) {u v : List Int} (hu : P5 n u) (hv : P5 n v) {i : Nat} (hi : i < fact n) : ((mulT n ys u v).getD i 0).natAbs ≤ 1000000 * 1000000 := by
  rw [mulT_getD hi]
  exact abs_mul2 (tab_bound hy hu hi) (tab_bound hy hv hi)
theorem mulT_rest (hy : YOk n ys) {u v : List Int} (hu : P5 n u) (hv : P5 n v) : RestOk n 0 (mulT n ys u v) := ⟨mulT_length n ys u v, fun i hi => by have := mulT_bound hy hu hv hi; omega⟩
theorem most_of {vs : List Int} (h : ∀ i, i < vs.length → (vs.getD i 0).natAbs ≤ 1000000 * 1000000) : mostB vs = true := by
  simp only [mostB, decide_eq_true_eq]
  intro x hx
  obtain ⟨i, hi, e⟩ := List.mem_iff_getElem.1 hx
  have := h i hi
  rw [getD_lt hi, e] at this
  omega
/-- values that are those of a polynomial pass -/
theorem gk_of (hy : YOk n ys) {vs : List Int} {f : List Int → Int} (hl : vs.length = fact n) (hf : ∀ i, i < fact n → vs.getD i 0 = f (pmA n i)) (hb : ∀ i, i < fact n → (vs.getD i 0).natAbs ≤ 1000000 * 1000000)
    (hm : ∀ p, P5 n p → ∀ i j, i < n → j < n → Mg (yAt ys p i - yAt ys p j) (f p) (f (swapL p i j))) : GkIs n vs ys true := by
  refine ⟨fun _ => ⟨hy.ap, by rw [Int.toNat_natCast]; exact hl, most_of fun i hi => hb i (by rw [← hl]; exact hi), fun x i j hx hij hj => ?_⟩, fun _ => rfl⟩
  rw [Int.toNat_natCast] at hx hj ⊢
  have G := gkN hy.one hy.four
  obtain ⟨p1, p2⟩ := G.plc x i j hx hij hj
  unfold gkAt
  rw [hf x hx, hf _ p1]
  have e : pmA n (plN (swapL ((permsL n).getD x []) i j)) = swapL (pmA n x) i j := p2
  rw [e]
  exact (hm _ (pm_p5 hy hx) i j (by omega) hj).tmod
theorem gk_tab (hy : YOk n ys) {u : List Int} (hu : P5 n u) : GkIs n (tabL u ys) ys true :=
  gk_of hy (f := FW n ys u) (by rw [tabL_length, hu.len]) (fun i hi => tab_at hy hu hi) (fun i hi => by have := tab_bound hy hu hi; omega) fun p hp i j hi hj => FW_swap hp hi hj u
theorem gk_mul (hy : YOk n ys) {u v : List Int} (hu : P5 n u) (hv : P5 n v) : GkIs n (mulT n ys u v) ys true :=
  gk_of hy (f := fun p => FW n ys u p * FW n ys v p) (mulT_length n ys u v) (fun i hi => by rw [mulT_getD hi, tab_at hy hu hi, tab_at hy hv hi]) (fun i hi => mulT_bound hy hu hv hi)
    fun p hp i j hi hj => (FW_swap hp hi hj u).mul (FW_swap hp hi hj v)
end

def eqOk (us vs ys : List Int) : Bool := permOk us && permOk vs && decide (us.length = vs.length) && apOk us.length ys
/-- what EquivariantProduct says -/
def eqL (us vs ys : List Int) : List Cls × Bool := if eqOk us vs ys then expE us.length (mulT us.length ys us vs) ys (ordL us.length) else ([], false)
theorem eqL_no {us vs ys : List Int} (h : eqOk us vs ys = false) : eqL us vs ys = ([], false) := by unfold eqL; rw [h]; rfl
theorem eqL_yes {us vs ys : List Int} (h : eqOk us vs ys = true) : eqL us vs ys = expE us.length (mulT us.length ys us vs) ys (ordL us.length) := by unfold eqL; rw [h]; rfl
structure EqIs (n : Nat) (us vs ys : List Int) : Prop where
  y : YOk n ys
  u : P5 n us
  v : P5 n vs
theorem eqIs {us vs ys : List Int} (h : eqOk us vs ys = true) : EqIs us.length us vs ys := by
  simp only [eqOk, Bool.and_eq_true, decide_eq_true_eq] at h
  obtain ⟨⟨⟨a, b⟩, c⟩, d⟩ := h
  have hy := yOk d
  exact ⟨hy, ⟨a, rfl, by have := hy.four; omega⟩, ⟨b, c.symm, by have := hy.four; omega⟩⟩
theorem eqL_len (us vs ys : List Int) : preC (eqL us vs ys).1 (eqL us vs ys).1.length ≤ 1000000 := by
  cases h : eqOk us vs ys with
  | false => rw [eqL_no h]; simp [preC]
  | true => rw [eqL_yes h]; exact expE_len (eqIs h).y _

end Go.Proofs.YtgebjjpcgakjgaaGreat
