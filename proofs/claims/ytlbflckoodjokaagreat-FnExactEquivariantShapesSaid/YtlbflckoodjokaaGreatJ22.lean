/-
  EquivariantProduct on both sides.
  Parts (a shape and a number), as the classes of XCls: what a call made, the law's own marks, the comparison. (Printed by gen_part.py.)
-/
import Derived.Test.YtlbflckoodjokaaGreatJ21
namespace Go.Proofs.YtlbflckoodjokaaGreat
set_option linter.all false
set_option maxRecDepth 100000
open Go.RowKit

theorem specIsPerm_c (v : Value) (xs : List Int) (b : Bool) (hb : permOk xs = b) (w : World) (h : Ints w v xs) : Calls Tryz.prog 33 #[v] w fun e w' => e = .returned (.bool b) ∧ Below w.heap.size w w' :=
  (specIsPerm_any v xs w h).mono fun e w' ⟨h1, h2⟩ => ⟨by rw [h1, hb], h2.below _⟩
theorem implAp_c (N : Int) (v : Value) (y : List Int) (b : Bool) (hb : apOk N y = b) (w : World) (h : Ints w v y) : Calls Tryz.prog 20 #[.int .i64 N, v] w fun e w' => e = .returned (.bool b) ∧ Below w.heap.size w w' :=
  (weightsOk_any N v y w h).mono fun e w' ⟨h1, h2⟩ => ⟨by rw [h1, hb], h2.below _⟩
theorem specAp_c (N : Int) (v : Value) (y : List Int) (b : Bool) (hb : apOk N y = b) (w : World) (h : Ints w v y) : Calls Tryz.prog 13 #[.int .i64 N, v] w fun e w' => e = .returned (.bool b) ∧ Below w.heap.size w w' :=
  (l8Apart_any N v y w h).mono fun e w' ⟨h1, h2⟩ => ⟨by rw [h1, hb], h2.below _⟩

set_option maxHeartbeats 16000000 in
theorem implEqui_any (pu pv py : Value) (us vs ys : List Int) (w : World) (hu : Ints w pu us) (hv : Ints w pv vs) (hy : Ints w py ys) :
    Calls Tryz.prog 21 #[pu, pv, py] w (RetCB w (eqL us vs ys)) := by
  have HU := Lib.hid hu
  have HV := Lib.hid hv
  have HY := Lib.hid hy
  obtain ⟨au, cu, rfl, ⟨hu1, hu2⟩, hux⟩ := hu
  obtain ⟨av, cv, rfl, ⟨hv1, hv2⟩, hvx⟩ := hv
  obtain ⟨ay, cy, rfl, ⟨hy1, hy2⟩, hyx⟩ := hy
  clear hux hvx hyx
  unfold maxLen at hu2 hv2 hy2
  have no : ∀ w', eqOk us vs ys = false → Below w.heap.size w w' → RetCB w (eqL us vs ys) (.returned (.tuple #[.slice none 0 0, .bool false])) w' := fun w' h hb => by rw [eqL_no h]; exact ⟨_, rfl, OwnCd.nil _ _ _, hb⟩
  have No := Lib.hid no
  clear no
  go_enter Tryz.func21, Tryz.ntmps21
  cases h1 : permOk us with
  | false =>
    have H1 := Lib.hid h1
    clear h1
    go_wp2_with fail
    refine (implIsPerm_b _ us false H1.out _ HU.out).mono ?_
    rintro e w1 ⟨rfl, hb⟩
    have Hb := Lib.hid hb
    clear hb
    go_wp2_with fail
    go_ret2
    exact No.out _ (by unfold eqOk; rw [H1.out]; rfl) Hb.out
  | true =>
  cases h2 : permOk vs with
  | false =>
    have H1 := Lib.hid h1
    have H2 := Lib.hid h2
    clear h1 h2
    go_wp2_with fail
    refine (implIsPerm_b _ us true H1.out _ HU.out).mono ?_
    rintro e w1 ⟨rfl, hb⟩
    have Hb := Lib.hid hb
    clear hb
    go_wp2_with fail
    refine (implIsPerm_b _ vs false H2.out _ (HV.out.below Hb.out)).mono ?_
    rintro e w2 ⟨rfl, hb2⟩
    have Hb2 := Lib.hid (below_trans Hb.out hb2)
    clear hb2
    go_wp2_with fail
    go_ret2
    exact No.out _ (by unfold eqOk; rw [H2.out]; simp) Hb2.out
  | true =>
  have H1 := Lib.hid h1
  have H2 := Lib.hid h2
  clear h1 h2
  by_cases h3 : us.length = vs.length
  · have H3 := Lib.hid h3
    rw [← h3] at hv1 HV ⊢
    clear h3
    cases h4 : apOk us.length ys with
    | false =>
      have H4 := Lib.hid h4
      clear h4
      go_wp2_with fail
      refine (implIsPerm_b _ us true H1.out _ HU.out).mono ?_
      rintro e w1 ⟨rfl, hb⟩
      have Hb := Lib.hid hb
      clear hb
      go_wp2_with fail
      refine (implIsPerm_b _ vs true H2.out _ (by have := HV.out.below Hb.out; exact this)).mono ?_
      rintro e w2 ⟨rfl, hb2⟩
      have Hb2 := Lib.hid (below_trans Hb.out hb2)
      clear hb2
      go_wp2_with fail
      refine (implAp_c _ _ ys false H4.out _ (HY.out.below Hb2.out)).mono ?_
      rintro e w3 ⟨rfl, hb3⟩
      have Hb3 := Lib.hid (below_trans Hb2.out hb3)
      clear hb3
      go_wp2_with fail
      go_ret2
      exact No.out _ (by unfold eqOk; rw [H4.out]; simp) Hb3.out
    | true =>
      have H4 := Lib.hid h4
      have hok : eqOk us vs ys = true := by unfold eqOk; rw [H1.out, H2.out, decide_eq_true H3.out, h4]; rfl
      have E := eqIs hok
      rw [eqL_yes hok]
      clear h4 hok No
      obtain ⟨n, hn⟩ : ∃ n, n = us.length := ⟨_, rfl⟩
      rw [← hn] at E H3 H4 hu1 hv1 HU HV ⊢
      have HE := Lib.hid E
      have Hn := Lib.hid hn
      obtain ⟨F, hF⟩ : ∃ F, F = fact n := ⟨_, rfl⟩
      have hf := fact4 E.y.one (show n ≤ 5 by have := E.y.four; omega)
      rw [← hF] at hf
      have HF := Lib.hid hF
      have hyl := E.y.len
      rw [hyl] at hy1 HY ⊢
      clear E hF hn hyl
      go_wp2_with fail
      refine (implIsPerm_b _ us true H1.out _ HU.out).mono ?_
      rintro e w1 ⟨rfl, hb⟩
      have Hb := Lib.hid hb
      clear hb
      go_wp2_with fail
      refine (implIsPerm_b _ vs true H2.out _ (HV.out.below Hb.out)).mono ?_
      rintro e w2 ⟨rfl, hb2⟩
      have Hb2 := Lib.hid (below_trans Hb.out hb2)
      clear hb2
      go_wp2_with fail
      refine (implAp_c _ _ ys true H4.out _ (HY.out.below Hb2.out)).mono ?_
      rintro e w3 ⟨rfl, hb3⟩
      have Hb3 := Lib.hid (below_trans Hb2.out hb3)
      clear hb3
      go_wp2_with fail
      refine (implTable_any n us ys _ _ w3 HE.out.u HE.out.y.one HE.out.y.four HE.out.y.len HE.out.y.nine (HU.out.below Hb3.out) (HY.out.below Hb3.out)).mono ?_
      rintro e w4 ⟨ua, rfl, hoa, hb4⟩
      have hla : (tabL us ys).length = F := by rw [tabL_length, HE.out.u.len, HF.out]
      have ha := hoa.fn
      obtain ⟨pa, ka, rfl, hka, hkam⟩ := hoa.shape
      unfold maxLen at hkam
      rw [hla] at ha hka ⊢
      have hs4 := hb4.size
      have HA := Lib.hid ha
      have Hb4 := Lib.hid (below_trans Hb3.out hb4)
      have hs3 := Hb3.out.size
      clear ha hb4 hoa hla
      go_wp2_with fail
      refine (implTable_any n vs ys _ _ w4 HE.out.v HE.out.y.one HE.out.y.four HE.out.y.len HE.out.y.nine (HV.out.below Hb4.out) (HY.out.below Hb4.out)).mono ?_
      rintro e w5 ⟨ub, rfl, hob, hb5⟩
      have hlb : (tabL vs ys).length = F := by rw [tabL_length, HE.out.v.len, HF.out]
      have hb' := hob.fn
      obtain ⟨pb, kb, rfl, hkb, hkbm⟩ := hob.shape
      unfold maxLen at hkbm
      rw [hlb] at hb' hkb ⊢
      have hs5 := hb5.size
      have ha5 := HA.out.below hb5
      obtain ⟨ga, rfl, hga1, hga2, hga3⟩ := ha5.at_ (by omega)
      obtain ⟨gb, rfl, hgb1, hgb2, hgb3⟩ := hb'.at_ (by omega)
      have HA5 := Lib.hid ha5
      have HB5 := Lib.hid (show ∀ j, j < F → w5.cell? ⟨gb, j, none⟩ = some (iv (tabL vs ys) j) from fun j hj => hb'.cell hj)
      have Hb5 := Lib.hid (below_trans Hb4.out hb5)
      have hgab : w4.heap.size ≤ gb := hgb1
      clear ha5 hb' hb5 hob hlb HA
      go_wp2_with fail
      go_loopg [12, 49] F (fun g s12 s49 wr => ∃ j : Nat, j ≤ F ∧ g = F - j ∧ s49 = .int .i64 (j : Int) ∧ Hid (Frm w3.heap.size w4.heap.size w5 wr) ∧ Hid (OwnF wr w3.heap.size w4.heap.size 3 (.slice (some ⟨ga, 0, none⟩) F ka) F (fun t => if t < j then iv (mulT n ys us vs) t else iv (tabL us ys) t)))
      case atStart => exact ⟨0, Nat.zero_le _, rfl, rfl, Lib.hid (Frm.refl _ _ _), Lib.hid (HA5.out.congr fun t _ => by rw [if_neg (Nat.not_lt_zero _)])⟩
      case round =>
        obtain ⟨j, hj, rfl, rfl, hfj, hoj⟩ := hrel
        obtain ⟨wz, rfl⟩ : ∃ x : World, x = wr := ⟨_, rfl⟩
        have Hfj := Lib.hid hfj.out
        have Hoj := Lib.hid hoj.out
        clear hfj hoj
        by_cases hjF : j < F
        · have hjFi : (j : Int) < (F : Int) := by omega
          obtain ⟨a, haa⟩ : ∃ a, a = (tabL us ys).getD j 0 := ⟨_, rfl⟩
          obtain ⟨b, hbb⟩ : ∃ b, b = (tabL vs ys).getD j 0 := ⟨_, rfl⟩
          have ca : wz.cell? ⟨ga, j, none⟩ = some (.int .i64 a) := by rw [Hoj.out.cell hjF, if_neg (Nat.lt_irrefl _), haa]; rfl
          have fa : wz.frozen? ⟨ga, j, none⟩ = false := Hoj.out.frozen j
          have cb : wz.cell? ⟨gb, j, none⟩ = some (.int .i64 b) := by
            have := HB5.out j hjF
            unfold World.cell? at this ⊢
            rw [Hfj.out.block gb hgb3 (.inr hgab), hbb]
            exact this
          obtain ⟨M, hM⟩ : ∃ M, M = a * b := ⟨_, rfl⟩
          have hMb : M.natAbs ≤ 1000000 * 1000000 := by rw [hM, haa, hbb]; exact abs_mul2 (tab_bound HE.out.y HE.out.u (by rw [← HF.out]; exact hjF)) (tab_bound HE.out.y HE.out.v (by rw [← HF.out]; exact hjF))
          have hwM : IntKind.i64.wrap (a * b) = M := by rw [← hM, IntKind.wrap_i64]; omega
          have Ha := Lib.hid haa
          have HB := Lib.hid hbb
          have HM := Lib.hid hM
          clear haa hbb hM hMb
          go_wp2_with fail
          go_region
          go_wp2_with fail
          go_roundg (F - (j + 1))
          case measure => omega
          case rel =>
            refine ⟨j + 1, by omega, rfl, by go_num, Lib.hid ?_, Lib.hid ?_⟩
            · exact (Hfj.out.setCell (p := ⟨ga, j, none⟩) hga1 hga2 _).drewN 1
            · have h1 := Hoj.out.set j (.int .i64 M)
              have h2 : OwnF (wz.setCell ⟨ga, j, none⟩ (.int .i64 M)).drew w3.heap.size w4.heap.size 3 (.slice (some ⟨ga, 0, none⟩) F ka) F _ := h1.below ((Below.refl _ _).drew)
              refine h2.congr fun t ht => ?_
              by_cases h3 : t = j
              · rw [if_pos h3, if_pos (by omega), h3]
                unfold iv
                rw [mulT_getD (by rw [← HF.out]; exact hjF), HM.out, Ha.out, HB.out]
              · rw [if_neg h3]
                by_cases h4 : t < j
                · rw [if_pos h4, if_pos (by omega)]
                · rw [if_neg h4, if_neg (by omega)]
        · have hjFi : ¬ (j : Int) < (F : Int) := by omega
          have hjE : j = F := by omega
          have hml : (mulT n ys us vs).length = F := by rw [mulT_length, HF.out]
          have Hmz := Lib.hid (show Ints wz (.slice (some ⟨ga, 0, none⟩) F ka) (mulT n ys us vs) from by
            refine OwnI.ints (T := 3) (lo := w3.heap.size) (hi := w4.heap.size) (OwnF.ints ?_)
            rw [hml]
            exact Hoj.out.congr fun t ht => by rw [if_pos (by omega)])
          have hbz : Below w.heap.size w wz := Hb5.out.trans (Hfj.out.below hs3 Hb5.out.size)
          have Hbz := Lib.hid hbz
          have Hyz := Lib.hid (HY.out.below hbz)
          have Hx := Lib.hid (implExpand_any n _ _ _ ys wz Hmz.out Hyz.out true (gk_mul HE.out.y HE.out.u HE.out.v))
          rw [show (if true = true then expE (n : Int).toNat (mulT n ys us vs) ys (ordL (n : Int).toNat) else ([], false)) = expE n (mulT n ys us vs) ys (ordL n) from rfl] at Hx
          obtain ⟨E', hE'⟩ : ∃ E', E' = expE n (mulT n ys us vs) ys (ordL n) := ⟨_, rfl⟩
          rw [← hE'] at Hx
          have HE' := Lib.hid hE'
          clear hml hbz hE'
          go_wp2_with fail
          refine Hx.out.mono ?_
          rintro e w9 ⟨r, rfl, hor, hbr⟩
          obtain ⟨pr, kr, rfl, _, _⟩ := hor.shape
          have Hor := Lib.hid hor
          have Hbr := Lib.hid hbr
          clear hor hbr Hx
          go_wp2_with fail
          go_ret2
          rw [← HE'.out]
          exact ⟨_, rfl, Hor.out.mono Hbz.out.size (Nat.le_refl _), Hbz.out.trans (Hbr.out.mono Hbz.out.size)⟩
  · have H3 := Lib.hid h3
    have hni : (((us.length : Int)) != (vs.length : Int)) = true := by simp; omega
    clear h3
    go_wp2_with fail
    refine (implIsPerm_b _ us true H1.out _ HU.out).mono ?_
    rintro e w1 ⟨rfl, hb⟩
    have Hb := Lib.hid hb
    clear hb
    go_wp2_with fail
    refine (implIsPerm_b _ vs true H2.out _ (HV.out.below Hb.out)).mono ?_
    rintro e w2 ⟨rfl, hb2⟩
    have Hb2 := Lib.hid (below_trans Hb.out hb2)
    clear hb2
    go_wp2_with fail
    go_ret2
    exact No.out _ (by unfold eqOk; rw [decide_eq_false H3.out]; simp) Hb2.out

set_option maxHeartbeats 16000000 in
theorem specEqui_any (pu pv py : Value) (us vs ys : List Int) (w : World) (hu : Ints w pu us) (hv : Ints w pv vs) (hy : Ints w py ys) :
    Calls Tryz.prog 14 #[pu, pv, py] w (RetCS w (eqL us vs ys)) := by
  have HU := Lib.hid hu
  have HV := Lib.hid hv
  have HY := Lib.hid hy
  obtain ⟨au, cu, rfl, ⟨hu1, hu2⟩, hux⟩ := hu
  obtain ⟨av, cv, rfl, ⟨hv1, hv2⟩, hvx⟩ := hv
  obtain ⟨ay, cy, rfl, ⟨hy1, hy2⟩, hyx⟩ := hy
  clear hux hvx hyx
  unfold maxLen at hu2 hv2 hy2
  have no : ∀ w', eqOk us vs ys = false → Below w.heap.size w w' → RetCS w (eqL us vs ys) (.returned (.tuple #[.slice none 0 0, .bool false])) w' := fun w' h hb => by rw [eqL_no h]; exact ⟨_, rfl, ownCl_nil _ _ _, hb⟩
  have No := Lib.hid no
  clear no
  go_enter Tryz.func14, Tryz.ntmps14
  cases h1 : permOk us with
  | false =>
    have H1 := Lib.hid h1
    clear h1
    go_wp2_with fail
    refine (specIsPerm_c _ us false H1.out _ HU.out).mono ?_
    rintro e w1 ⟨rfl, hb⟩
    have Hb := Lib.hid hb
    clear hb
    go_wp2_with fail
    go_ret2
    exact No.out _ (by unfold eqOk; rw [H1.out]; rfl) Hb.out
  | true =>
  cases h2 : permOk vs with
  | false =>
    have H1 := Lib.hid h1
    have H2 := Lib.hid h2
    clear h1 h2
    go_wp2_with fail
    refine (specIsPerm_c _ us true H1.out _ HU.out).mono ?_
    rintro e w1 ⟨rfl, hb⟩
    have Hb := Lib.hid hb
    clear hb
    go_wp2_with fail
    refine (specIsPerm_c _ vs false H2.out _ (HV.out.below Hb.out)).mono ?_
    rintro e w2 ⟨rfl, hb2⟩
    have Hb2 := Lib.hid (below_trans Hb.out hb2)
    clear hb2
    go_wp2_with fail
    go_ret2
    exact No.out _ (by unfold eqOk; rw [H2.out]; simp) Hb2.out
  | true =>
  have H1 := Lib.hid h1
  have H2 := Lib.hid h2
  clear h1 h2
  by_cases h3 : us.length = vs.length
  · have H3 := Lib.hid h3
    rw [← h3] at hv1 HV ⊢
    clear h3
    cases h4 : apOk us.length ys with
    | false =>
      have H4 := Lib.hid h4
      clear h4
      go_wp2_with fail
      refine (specIsPerm_c _ us true H1.out _ HU.out).mono ?_
      rintro e w1 ⟨rfl, hb⟩
      have Hb := Lib.hid hb
      clear hb
      go_wp2_with fail
      refine (specIsPerm_c _ vs true H2.out _ (by have := HV.out.below Hb.out; exact this)).mono ?_
      rintro e w2 ⟨rfl, hb2⟩
      have Hb2 := Lib.hid (below_trans Hb.out hb2)
      clear hb2
      go_wp2_with fail
      refine (specAp_c _ _ ys false H4.out _ (HY.out.below Hb2.out)).mono ?_
      rintro e w3 ⟨rfl, hb3⟩
      have Hb3 := Lib.hid (below_trans Hb2.out hb3)
      clear hb3
      go_wp2_with fail
      go_ret2
      exact No.out _ (by unfold eqOk; rw [H4.out]; simp) Hb3.out
    | true =>
      have H4 := Lib.hid h4
      have hok : eqOk us vs ys = true := by unfold eqOk; rw [H1.out, H2.out, decide_eq_true H3.out, h4]; rfl
      have E := eqIs hok
      rw [eqL_yes hok]
      clear h4 hok No
      obtain ⟨n, hn⟩ : ∃ n, n = us.length := ⟨_, rfl⟩
      rw [← hn] at E H3 H4 hu1 hv1 HU HV ⊢
      have HE := Lib.hid E
      have Hn := Lib.hid hn
      obtain ⟨F, hF⟩ : ∃ F, F = fact n := ⟨_, rfl⟩
      have hf := fact4 E.y.one (show n ≤ 5 by have := E.y.four; omega)
      rw [← hF] at hf
      have HF := Lib.hid hF
      have hyl := E.y.len
      rw [hyl] at hy1 HY ⊢
      clear E hF hn hyl
      go_wp2_with fail
      refine (specIsPerm_c _ us true H1.out _ HU.out).mono ?_
      rintro e w1 ⟨rfl, hb⟩
      have Hb := Lib.hid hb
      clear hb
      go_wp2_with fail
      refine (specIsPerm_c _ vs true H2.out _ (HV.out.below Hb.out)).mono ?_
      rintro e w2 ⟨rfl, hb2⟩
      have Hb2 := Lib.hid (below_trans Hb.out hb2)
      clear hb2
      go_wp2_with fail
      refine (specAp_c _ _ ys true H4.out _ (HY.out.below Hb2.out)).mono ?_
      rintro e w3 ⟨rfl, hb3⟩
      have Hb3 := Lib.hid (below_trans Hb2.out hb3)
      clear hb3
      go_wp2_with fail
      refine (l8Table_any n us ys _ _ w3 HE.out.u HE.out.y.one HE.out.y.len HE.out.y.nine (HU.out.below Hb3.out) (HY.out.below Hb3.out)).mono ?_
      rintro e w4 ⟨ua, rfl, hoa, hb4⟩
      have hla : (tabL us ys).length = F := by rw [tabL_length, HE.out.u.len, HF.out]
      have ha := hoa.fn
      obtain ⟨pa, ka, rfl, hka, hkam⟩ := hoa.shape
      unfold maxLen at hkam
      rw [hla] at ha hka ⊢
      have hs4 := hb4.size
      have HA := Lib.hid ha
      have Hb4 := Lib.hid (below_trans Hb3.out hb4)
      have hs3 := Hb3.out.size
      clear ha hb4 hoa hla
      go_wp2_with fail
      refine (l8Table_any n vs ys _ _ w4 HE.out.v HE.out.y.one HE.out.y.len HE.out.y.nine (HV.out.below Hb4.out) (HY.out.below Hb4.out)).mono ?_
      rintro e w5 ⟨ub, rfl, hob, hb5⟩
      have hlb : (tabL vs ys).length = F := by rw [tabL_length, HE.out.v.len, HF.out]
      have hb' := hob.fn
      obtain ⟨pb, kb, rfl, hkb, hkbm⟩ := hob.shape
      unfold maxLen at hkbm
      rw [hlb] at hb' hkb ⊢
      have hs5 := hb5.size
      have ha5 := HA.out.below hb5
      obtain ⟨ga, rfl, hga1, hga2, hga3⟩ := ha5.at_ (by omega)
      obtain ⟨gb, rfl, hgb1, hgb2, hgb3⟩ := hb'.at_ (by omega)
      have HA5 := Lib.hid ha5
      have HB5 := Lib.hid (show ∀ j, j < F → w5.cell? ⟨gb, j, none⟩ = some (iv (tabL vs ys) j) from fun j hj => hb'.cell hj)
      have Hb5 := Lib.hid (below_trans Hb4.out hb5)
      have hgab : w4.heap.size ≤ gb := hgb1
      clear ha5 hb' hb5 hob hlb HA
      go_wp2_with fail
      go_loopg [10] F (fun g s49 wr => ∃ j : Nat, j ≤ F ∧ g = F - j ∧ s49 = .int .i64 (j : Int) ∧ Hid (Frm w3.heap.size w4.heap.size w5 wr) ∧ Hid (OwnF wr w3.heap.size w4.heap.size 3 (.slice (some ⟨ga, 0, none⟩) F ka) F (fun t => if t < j then iv (mulT n ys us vs) t else iv (tabL us ys) t)))
      case atStart => exact ⟨0, Nat.zero_le _, rfl, rfl, Lib.hid (Frm.refl _ _ _), Lib.hid (HA5.out.congr fun t _ => by rw [if_neg (Nat.not_lt_zero _)])⟩
      case round =>
        obtain ⟨j, hj, rfl, rfl, hfj, hoj⟩ := hrel
        obtain ⟨wz, rfl⟩ : ∃ x : World, x = wr := ⟨_, rfl⟩
        have Hfj := Lib.hid hfj.out
        have Hoj := Lib.hid hoj.out
        clear hfj hoj
        by_cases hjF : j < F
        · have hjFi : (j : Int) < (F : Int) := by omega
          obtain ⟨a, haa⟩ : ∃ a, a = (tabL us ys).getD j 0 := ⟨_, rfl⟩
          obtain ⟨b, hbb⟩ : ∃ b, b = (tabL vs ys).getD j 0 := ⟨_, rfl⟩
          have ca : wz.cell? ⟨ga, j, none⟩ = some (.int .i64 a) := by rw [Hoj.out.cell hjF, if_neg (Nat.lt_irrefl _), haa]; rfl
          have fa : wz.frozen? ⟨ga, j, none⟩ = false := Hoj.out.frozen j
          have cb : wz.cell? ⟨gb, j, none⟩ = some (.int .i64 b) := by
            have := HB5.out j hjF
            unfold World.cell? at this ⊢
            rw [Hfj.out.block gb hgb3 (.inr hgab), hbb]
            exact this
          obtain ⟨M, hM⟩ : ∃ M, M = a * b := ⟨_, rfl⟩
          have hMb : M.natAbs ≤ 1000000 * 1000000 := by rw [hM, haa, hbb]; exact abs_mul2 (tab_bound HE.out.y HE.out.u (by rw [← HF.out]; exact hjF)) (tab_bound HE.out.y HE.out.v (by rw [← HF.out]; exact hjF))
          have hwM : IntKind.i64.wrap (a * b) = M := by rw [← hM, IntKind.wrap_i64]; omega
          have Ha := Lib.hid haa
          have HB := Lib.hid hbb
          have HM := Lib.hid hM
          clear haa hbb hM hMb
          go_wp2_with fail
          go_region
          go_wp2_with fail
          go_roundg (F - (j + 1))
          case measure => omega
          case rel =>
            refine ⟨j + 1, by omega, rfl, by go_num, Lib.hid ?_, Lib.hid ?_⟩
            · exact (Hfj.out.setCell (p := ⟨ga, j, none⟩) hga1 hga2 _).drewN 1
            · have h1 := Hoj.out.set j (.int .i64 M)
              have h2 : OwnF (wz.setCell ⟨ga, j, none⟩ (.int .i64 M)).drew w3.heap.size w4.heap.size 3 (.slice (some ⟨ga, 0, none⟩) F ka) F _ := h1.below ((Below.refl _ _).drew)
              refine h2.congr fun t ht => ?_
              by_cases h3 : t = j
              · rw [if_pos h3, if_pos (by omega), h3]
                unfold iv
                rw [mulT_getD (by rw [← HF.out]; exact hjF), HM.out, Ha.out, HB.out]
              · rw [if_neg h3]
                by_cases h4 : t < j
                · rw [if_pos h4, if_pos (by omega)]
                · rw [if_neg h4, if_neg (by omega)]
        · have hjFi : ¬ (j : Int) < (F : Int) := by omega
          have hjE : j = F := by omega
          have hml : (mulT n ys us vs).length = F := by rw [mulT_length, HF.out]
          have Hmz := Lib.hid (show Ints wz (.slice (some ⟨ga, 0, none⟩) F ka) (mulT n ys us vs) from by
            refine OwnI.ints (T := 3) (lo := w3.heap.size) (hi := w4.heap.size) (OwnF.ints ?_)
            rw [hml]
            exact Hoj.out.congr fun t ht => by rw [if_pos (by omega)])
          have hbz : Below w.heap.size w wz := Hb5.out.trans (Hfj.out.below hs3 Hb5.out.size)
          have Hbz := Lib.hid hbz
          have Hyz := Lib.hid (HY.out.below hbz)
          have Hx := Lib.hid (l8Expand_any n _ _ _ ys wz Hmz.out Hyz.out HE.out.y (mulT_rest HE.out.y HE.out.u HE.out.v))
          skip
          obtain ⟨E', hE'⟩ : ∃ E', E' = expE n (mulT n ys us vs) ys (ordL n) := ⟨_, rfl⟩
          rw [← hE'] at Hx
          have HE' := Lib.hid hE'
          clear hml hbz hE'
          go_wp2_with fail
          refine Hx.out.mono ?_
          rintro e w9 ⟨r, rfl, hor, hbr⟩
          obtain ⟨pr, kr, rfl, _, _⟩ := hor.shape
          have Hor := Lib.hid hor
          have Hbr := Lib.hid hbr
          clear hor hbr Hx
          go_wp2_with fail
          go_ret2
          rw [← HE'.out]
          exact ⟨_, rfl, Hor.out.mono Hbz.out.size (Nat.le_refl _), Hbz.out.trans (Hbr.out.mono Hbz.out.size)⟩
  · have H3 := Lib.hid h3
    have hni : (((us.length : Int)) != (vs.length : Int)) = true := by simp; omega
    clear h3
    go_wp2_with fail
    refine (specIsPerm_c _ us true H1.out _ HU.out).mono ?_
    rintro e w1 ⟨rfl, hb⟩
    have Hb := Lib.hid hb
    clear hb
    go_wp2_with fail
    refine (specIsPerm_c _ vs true H2.out _ (HV.out.below Hb.out)).mono ?_
    rintro e w2 ⟨rfl, hb2⟩
    have Hb2 := Lib.hid (below_trans Hb.out hb2)
    clear hb2
    go_wp2_with fail
    go_ret2
    exact No.out _ (by unfold eqOk; rw [decide_eq_false H3.out]; simp) Hb2.out

end Go.Proofs.YtlbflckoodjokaaGreat

namespace Go.Proofs.YtlbflckoodjokaaGreat
set_option linter.all false
set_option maxRecDepth 100000
open Go.RowKit

/-- classes that a call made -/
def OwnPl (w : World) (lo hi : Nat) (v : Value) (cs : List Cls) : Prop :=
  ∃ g, OwnS w lo hi 45 2 v cs.length (clF cs g) ∧ ∀ i, i < cs.length → OwnI 3 w lo hi (g i) (cs.getD i clD).1

theorem OwnPl.rd {w : World} {lo hi : Nat} {v : Value} {cs : List Cls} (h : OwnPl w lo hi v cs) : RdCl w v cs := by
  obtain ⟨g, h1, h2⟩ := h
  exact ⟨g, h1.rd, fun i hi => (h2 i hi).ints⟩

theorem OwnPl.below {w w' : World} {lo hi : Nat} {v : Value} {cs : List Cls} (h : OwnPl w lo hi v cs) (hb : Below w.heap.size w w') : OwnPl w' lo hi v cs := by
  obtain ⟨g, h1, h2⟩ := h
  exact ⟨g, h1.below hb, fun i hi => (h2 i hi).below hb⟩

theorem OwnPl.mono {w : World} {lo hi lo' hi' : Nat} {v : Value} {cs : List Cls} (h : OwnPl w lo hi v cs) (a : lo' ≤ lo) (b : hi ≤ hi') : OwnPl w lo' hi' v cs := by
  obtain ⟨g, h1, h2⟩ := h
  exact ⟨g, h1.mono a b, fun i hi => (h2 i hi).mono a b⟩

theorem OwnPl.setCell {w : World} {lo hi : Nat} {v : Value} {cs : List Cls} (h : OwnPl w lo hi v cs) {a : Addr} (ho : a.block < lo ∨ hi ≤ a.block) (u : Value) : OwnPl (w.setCell a u) lo hi v cs := by
  obtain ⟨g, h1, h2⟩ := h
  exact ⟨g, h1.setCell ho u, fun i hi => (h2 i hi).setCell ho u⟩

theorem OwnPl.shape {w : World} {lo hi : Nat} {v : Value} {cs : List Cls} (h : OwnPl w lo hi v cs) : ∃ p cap, v = .slice p cs.length cap ∧ cs.length ≤ cap ∧ cap ≤ maxLen := by
  obtain ⟨g, h1, _⟩ := h
  obtain ⟨p, cap, e, h2, h3, _⟩ := h1.shape
  exact ⟨p, cap, e, h2, h3⟩

def OwnPd (w : World) (lo hi : Nat) (v : Value) (cs : List Cls) : Prop :=
  ∃ f, OwnS w lo hi 45 2 v cs.length (clF cs f) ∧ (∀ i, i < cs.length → OwnI 3 w lo hi (f i) (cs.getD i clD).1) ∧
    ∀ i j, i < j → j < cs.length → ∀ k, (f i).ownBlock = some k → (f j).ownBlock ≠ some k
namespace OwnPd
variable {w w' : World} {lo hi : Nat} {v : Value} {cs : List Cls}
theorem cl (h : OwnPd w lo hi v cs) : OwnPl w lo hi v cs := by
  obtain ⟨f, h1, h2, _⟩ := h
  exact ⟨f, h1, h2⟩
theorem rd (h : OwnPd w lo hi v cs) : RdCl w v cs := h.cl.rd
theorem keep (h : OwnPd w lo hi v cs) (hb : ∀ k, lo ≤ k → k < hi → k < w.heap.size → w'.heap[k]? = w.heap[k]?) : OwnPd w' lo hi v cs := by
  obtain ⟨f, h1, h2, h3⟩ := h
  exact ⟨f, h1.keep hb, fun i hi => Own.keep (h2 i hi) hb, h3⟩
theorem below (h : OwnPd w lo hi v cs) (hb : Below w.heap.size w w') : OwnPd w' lo hi v cs := h.keep fun k _ _ h3 => hb.block k h3
theorem frm {lo' hi' : Nat} (h : OwnPd w lo hi v cs) (hb : Frm lo' hi' w w') (ho : hi ≤ lo' ∨ hi' ≤ lo) : OwnPd w' lo hi v cs := h.keep fun k h1 h2 h3 => hb.block k h3 (by omega)
theorem mono {lo' hi' : Nat} (h : OwnPd w lo hi v cs) (h1 : lo' ≤ lo) (h2 : hi ≤ hi') : OwnPd w lo' hi' v cs := by
  obtain ⟨f, g1, g2, g3⟩ := h
  exact ⟨f, g1.mono h1 h2, fun i hi => (g2 i hi).mono h1 h2, g3⟩
theorem shape (h : OwnPd w lo hi v cs) : ∃ p cap, v = .slice p cs.length cap ∧ cs.length ≤ cap ∧ cap ≤ maxLen := h.cl.shape
theorem nil (w : World) (lo hi : Nat) : OwnPd w lo hi (.slice none 0 0) [] := ⟨fun _ => undef, OwnS.nil _ _ _ _ _ _, fun i hi => absurd hi (Nat.not_lt_zero _), fun i j _ hj => absurd hj (Nat.not_lt_zero _)⟩
theorem made0 (w : World) : OwnPd (w.alloc (.cells #[] 45)) w.heap.size (w.heap.size + 1) (.slice (some ⟨w.heap.size, 0, none⟩) 0 0) [] :=
  ⟨fun _ => undef, OwnS.made0 _ _ _ _, fun i hi => absurd hi (Nat.not_lt_zero _), fun i j _ hj => absurd hj (Nat.not_lt_zero _)⟩
theorem getD_snoc {cs : List Cls} {m : Cls} {i : Nat} : (cs ++ [m]).getD i clD = if i < cs.length then cs.getD i clD else if i = cs.length then m else clD := by
  by_cases h : i < cs.length
  · rw [if_pos h]; simp [List.getD_eq_getElem?_getD, List.getElem?_append_left h]
  · rw [if_neg h]
    by_cases e : i = cs.length
    · subst e; simp [List.getD_eq_getElem?_getD]
    · rw [if_neg e]; simp [List.getD_eq_getElem?_getD]; rw [List.getElem?_eq_none (by simp; omega)]; rfl
/-- a class of its own is put behind the others -/
theorem snoc {v' x : Value} {m : Cls} {mid : Nat} {f : Nat → Value} (g1 : OwnS w lo mid 45 2 v cs.length (clF cs f)) (g2 : ∀ i, i < cs.length → OwnI 3 w lo mid (f i) (cs.getD i clD).1)
    (g3 : ∀ i j, i < j → j < cs.length → ∀ k, (f i).ownBlock = some k → (f j).ownBlock ≠ some k) (hx : OwnI 3 w mid hi x m.1) (hm : lo ≤ mid) (hmh : mid ≤ hi)
    (hg : w.grownBy w' v.ownBlock) (hsz : hi ≤ w'.heap.size)
    (hv : OwnS w' lo w'.heap.size 45 2 v' (cs.length + 1) (fun i => if i < cs.length then clF cs f i else fun j => match j with | 0 => x | _ => .int .i64 m.2)) : OwnPd w' lo w'.heap.size v' (cs ++ [m]) := by
  have hrow : ∀ (y : Value) (ys : List Int) (lo1 hi1 : Nat), OwnI 3 w lo1 hi1 y ys → OwnI 3 w' lo1 hi1 y ys := fun y ys lo1 hi1 hy =>
    ⟨ownsRow_of_block hy.1 fun k hk => hg.block k (Own.block hy hk).2.2 fun e => ne_of_kinds (g1.kind k e.symm) (OwnI.kind hy k hk) (by decide), hy.2⟩
  refine ⟨fun i => if i < cs.length then f i else x, by
    rw [List.length_append]
    refine hv.congr fun i hi j hj => ?_
    by_cases h : i < cs.length
    · rw [if_pos h]
      unfold clF
      rw [getD_snoc, if_pos h]
      have : j = 0 ∨ j = 1 := by omega
      rcases this with rfl | rfl
      · show f i = if i < cs.length then f i else x
        rw [if_pos h]
      · rfl
    · have e : i = cs.length := by omega
      rw [if_neg h]
      unfold clF
      rw [getD_snoc, if_neg h, if_pos e]
      have : j = 0 ∨ j = 1 := by omega
      rcases this with rfl | rfl
      · show x = if i < cs.length then f i else x
        rw [if_neg h]
      · rfl, fun i hi => ?_, fun i j hij hj k hk => ?_⟩
  · rw [List.length_append] at hi
    simp only [List.length_singleton] at hi
    rw [getD_snoc]
    by_cases h : i < cs.length
    · simp only [h, if_true]
      exact (hrow _ _ _ _ (g2 i h)).mono (Nat.le_refl _) (by omega)
    · have : i = cs.length := by omega
      simp only [h, if_false]
      rw [if_pos this]
      exact (hrow _ _ _ _ hx).mono hm hsz
  · rw [List.length_append] at hj
    simp only [List.length_singleton] at hj
    simp only [show i < cs.length by omega, if_true] at hk
    by_cases h : j < cs.length
    · simp only [h, if_true]
      exact g3 i j hij h k hk
    · simp only [h, if_false]
      intro e
      have h5 := (Own.block (g2 i (by omega)) hk).2.1
      have h6 := (Own.block hx e).1
      omega
end OwnPd

theorem info_prt : (Tryz.prog.info? 45).map (fun i => (i.zero, i.size, i.bytes)) = some (some (.agg #[.slice none 0 0, .int .i64 0]), 2, 32) := by kernel_rfl

set_option maxRecDepth 100000 in
set_option maxHeartbeats 1000000 in
theorem eqPart_same (d d' : Value) (xs : List Int) (c : Int) (w : World) (h : Ints w d xs) (h' : Ints w d' xs) :
    Calls Tryz.prog 26 #[.agg #[d, .int .i64 c], .agg #[d', .int .i64 c]] w fun e w' => e = .returned (.bool true) ∧ Below w.heap.size w w' := by
  have Hn := Lib.hid fun o o' => eqIntS_same d d' xs ((w.alloc o).alloc o') (h.below (below_alloc2 w o o')) (h'.below (below_alloc2 w o o'))
  have hz : (c != c) = false := by simp
  have Z0 := Lib.hid (fun o => heap_alloc_top w o)
  go_enter Tryz.func26, Tryz.ntmps26
  go_wp2_with fail
  refine (Hn.out _ _).mono ?_
  rintro e w1 ⟨rfl, hb⟩
  have b1 : w1.heap[w.heap.size]? = some (.cells #[d, .int .i64 c] 45) := by
    rw [hb.block _ (by simp; omega), heap_alloc_low _ _ (by simp)]; exact heap_alloc_top _ _
  have b2 : w1.heap[w.heap.size + 1]? = some (.cells #[d', .int .i64 c] 45) := by
    rw [hb.block _ (by simp)]; exact heap_alloc_at _ _ (by simp)
  obtain ⟨c10, c11, c1f, hz1⟩ := blk2 b1
  obtain ⟨c20, c21, c2f, hz2⟩ := blk2 b2
  have Hb := Lib.hid ((below_alloc2 w (.cells #[d, .int .i64 c] 45) (.cells #[d', .int .i64 c] 45)).trans (hb.mono (by simp; omega)))
  clear b1 b2 hb
  go_wp2_with fail
  go_ret
  exact ⟨rfl, Hb.out⟩

set_option maxRecDepth 100000 in
set_option maxHeartbeats 1000000 in
theorem eqPartS_same (v1 v2 : Value) (cs : List Cls) (w : World) (h1 : RdCl w v1 cs) (h2 : RdCl w v2 cs) :
    Calls Tryz.prog 7 #[v1, v2] w fun e w' => e = .returned (.bool true) ∧ Below w.heap.size w w' := by
  obtain ⟨f, hs1, hf⟩ := h1
  obtain ⟨g, hs2, hg⟩ := h2
  obtain ⟨p, cap, rfl, ⟨hx1, hx⟩, hxc⟩ := hs1.two
  obtain ⟨q, cap', rfl, ⟨hy1, hy⟩, hyc⟩ := hs2.two
  unfold maxLen at hx hy
  have Hf := Lib.hid hf
  have Hg := Lib.hid hg
  have Hxc := Lib.hid hxc
  have Hyc := Lib.hid hyc
  clear hf hg hs1 hs2 hxc hyc
  go_enter Tryz.func7, Tryz.ntmps7
  go_wp2
  go_loopg [5] cs.length (fun n i wr => ∃ k : Nat, k ≤ cs.length ∧ n = cs.length - k ∧ i = .int .i64 k ∧ Below w.heap.size w wr)
  case atStart => exact ⟨0, Nat.zero_le _, rfl, rfl, Below.refl _ _⟩
  case round =>
    obtain ⟨k, hk, rfl, rfl, hb⟩ := hrel
    by_cases hlt : k < cs.length
    · obtain ⟨b, rfl, hc⟩ := Hxc.out (by omega)
      obtain ⟨b', rfl, hc'⟩ := Hyc.out (by omega)
      obtain ⟨a0, a1⟩ := hc k hlt
      obtain ⟨b0, b1⟩ := hc' k hlt
      have c0 := cell_below hb a0
      have c1 := cell_below hb a1
      have d0 := cell_below hb b0
      have d1 := cell_below hb b1
      obtain ⟨p1, k1, e1, _, _⟩ := Hf.out k hlt
      obtain ⟨p2, k2, e2, _, _⟩ := Hg.out k hlt
      have I1 := Lib.hid ((Hf.out k hlt).below hb)
      have I2 := Lib.hid ((Hg.out k hlt).below hb)
      generalize cs.getD k clD = M at *
      obtain ⟨ys, c⟩ := M
      dsimp only at e1 e2 c1 d1 I1 I2
      rw [e1] at c0 I1
      rw [e2] at d0 I2
      clear hc hc' e1 e2 a0 a1 b0 b1
      go_wp2_with fail
      obtain ⟨wo, rfl⟩ : ∃ x : World, x = wr := ⟨_, rfl⟩
      go_region_held3 (fun w' => (w'.cell? ⟨b, k * 2, none⟩ = some (.slice p1 ys.length k1) ∧ w'.cell? ⟨b, k * 2 + 1, none⟩ = some (.int .i64 c) ∧ w'.cell? ⟨b', k * 2, none⟩ = some (.slice p2 ys.length k2) ∧ w'.cell? ⟨b', k * 2 + 1, none⟩ = some (.int .i64 c)) ∧ Below wo.heap.size wo w')
        (first | exact ⟨⟨c0, c1, d0, d1⟩, (Below.refl _ _).drew⟩ | exact keep4w hb1 (by assumption))
        (first
          | (go_at_call 26; refine (eqPart_same _ _ ys c _ (held_ints I1.out (by assumption)) (held_ints I2.out (by assumption))).mono ?_; rintro e w' ⟨rfl, hb1⟩))
      have hbw : Below wo.heap.size wo _ := held_below (by assumption)
      go_wp2_with fail
      go_roundg (cs.length - (k + 1))
      case measure => omega
      case rel => exact ⟨k + 1, by omega, rfl, by go_num, hb.trans (hbw.mono hb.size)⟩
    · go_wp2
      go_ret
      exact ⟨rfl, hb⟩

set_option maxHeartbeats 4000000 in
theorem markPartS_any (v : Value) (cs : List Cls) (lo hi : Nat) (m : Int) (w : World) (h : OwnPd w lo hi v cs) (h0 : 0 ≤ m) (h1 : m + preC cs cs.length ≤ 1000000000000) :
    Calls Tryz.prog 10 #[v, .int .i64 m] w fun e w' => e = .returned (.int .i64 (m + preC cs cs.length)) ∧ OwnPd w' lo hi v (runCs m cs) ∧ Frm lo hi w w' := by
  obtain ⟨f, g1, g2, g3⟩ := h
  obtain ⟨p, cap, rfl, hnc, hcm, hp⟩ := g1.shape
  unfold maxLen at hcm
  have G1 := Lib.hid g1
  have G2 := Lib.hid g2
  have G3 := Lib.hid g3
  have Hp := Lib.hid hp
  clear g1 g2 g3 hp
  go_enter Tryz.func10, Tryz.ntmps10
  go_wp2
  go_loopg [1, 5] cs.length (fun n s1 i wr => ∃ k : Nat, k ≤ cs.length ∧ n = cs.length - k ∧ i = .int .i64 k ∧ s1 = .int .i64 (m + preC cs k) ∧ Frm lo hi w wr ∧
    Hid (OwnS wr lo hi 45 2 (.slice p cs.length cap) cs.length (markC m cs f k) ∧ ∀ i, i < cs.length → OwnI 3 wr lo hi (f i) (if i < k then runs (m + preC cs i) (cs.getD i clD).1.length else (cs.getD i clD).1)))
  case atStart => exact ⟨0, Nat.zero_le _, rfl, rfl, by simp [preC_zero], Frm.refl _ _ _, ⟨G1.out.congr fun i hi j hj => by simp [markC], fun i hi => by simpa using G2.out i hi⟩⟩
  case round =>
    obtain ⟨k, hk, rfl, rfl, rfl, hb, hr⟩ := hrel
    by_cases hlt : k < cs.length
    · obtain ⟨g, rfl, hg1, hg2, hg3⟩ := Hp.out (by omega)
      have hS := hr.out.1
      have c0 := hS.cell hlt (show 0 < 2 by omega)
      rw [Nat.add_zero] at c0
      have ef : markC m cs f k k 0 = f k := by unfold markC; rw [if_neg (Nat.lt_irrefl k)]; rfl
      rw [ef] at c0
      have ho := hr.out.2 k hlt
      rw [if_neg (Nat.lt_irrefl k)] at ho
      obtain ⟨p1, k1, e1, _, _⟩ := ho.shape
      obtain ⟨lo', hi', ht, hin⟩ := ho.tight
      have Hb := Lib.hid fun b hb => Own.block ho (k := b) hb
      have He := Lib.hid e1
      have hne : ∀ b, lo' ≤ b → b < hi' → b ≠ g := fun b h1 h2 e => by
        have h3 := (hin b h1 h2).1
        subst e
        exact ne_of_kinds (OwnI.kind ho b h3) (hS.kind b rfl) (by decide)
      rw [e1] at ht
      have Hin := Lib.hid hin
      have Hpp := Lib.hid (preC_succ cs k hlt)
      have hle := preC_le cs (k + 1)
      rw [Hpp.out] at hle
      rw [e1] at c0
      have HS := Lib.hid hS
      have Ho := Lib.hid ho
      have Hr2 := Lib.hid hr.out.2
      have Hne := Lib.hid hne
      have Hbf := Lib.hid hb
      clear hS ho hin ef e1 hne hr hb
      obtain ⟨Dk, hLd⟩ : ∃ D, D = (cs.getD k clD).1 := ⟨_, rfl⟩
      rw [← hLd] at ht c0 hle
      obtain ⟨L, hLn⟩ : ∃ L, L = Dk.length := ⟨_, rfl⟩
      rw [← hLn] at c0 hle
      obtain ⟨R, hR⟩ : ∃ R, R = preC cs k := ⟨_, rfl⟩
      rw [← hR] at hle ⊢
      have hc := markIntS_any _ Dk lo' hi' (m + R) wr ht (by omega) (by rw [← hLn]; omega)
      rw [← hLn] at hc
      have Hc := Lib.hid hc
      have HLd := Lib.hid hLd
      have HLn := Lib.hid hLn
      have HR := Lib.hid hR
      clear hc ht hLd hLn hR
      go_wp2_with fail
      refine Hc.out.mono ?_
      rintro e w1 ⟨rfl, ho1, hf1⟩
      have hS1 := HS.out.besides hf1 fun b hb => by
        rcases Classical.em (b < lo' ∨ hi' ≤ b) with h | h
        · exact h
        · exact (ne_of_kinds (OwnI.kind Ho.out b (Hin.out b (by omega) (by omega)).1) (HS.out.kind b hb) (by decide)).elim
      have c1 := hS1.cell hlt (show 1 < 2 by omega)
      have z1 := hS1.frozen (k * 2 + 1)
      generalize markC m cs f k k 1 = y1 at c1
      have HS1 := Lib.hid hS1
      have Ho1 := Lib.hid ho1
      have Hf1 := Lib.hid hf1
      clear ho1 hf1 hS1
      go_wp2_with fail
      go_roundg (cs.length - (k + 1))
      case measure => omega
      case rel =>
        have hrng : ∀ b, ¬ (b < lo' ∨ hi' ≤ b) → (f k).ownBlock = some b ∧ lo ≤ b ∧ b < hi := fun b hb => Hin.out b (by omega) (by omega)
        have hfw : Frm lo hi wr w1 := ⟨Hf1.out.os, Hf1.out.tape, Hf1.out.output, Hf1.out.size, fun b hb ho => Hf1.out.block b hb (by
          rcases Classical.em (b < lo' ∨ hi' ≤ b) with h | h
          · exact h
          · have := hrng b h; omega)⟩
        refine ⟨k + 1, by omega, rfl, by go_num, by rw [Hpp.out, ← HR.out, ← HLd.out, ← HLn.out]; go_num, (Hbf.out.trans hfw).setCell (p := ⟨g, k * 2 + 1, none⟩) hg1 hg2 _, ⟨?_, fun i hil => ?_⟩⟩
        · have h2 := HS1.out.set hlt (show 1 < 2 by omega) (.int .i64 (m + R + L))
          refine h2.congr fun i hi j hj => ?_
          have := markC_next m cs f hlt i hi j hj
          rw [← HR.out, ← HLd.out, ← HLn.out] at this
          exact this
        · have key : OwnI 3 w1 lo hi (f i) (if i < k + 1 then runs (m + preC cs i) (cs.getD i clD).1.length else (cs.getD i clD).1) := by
            by_cases e : i = k
            · subst e
              have h5 : OwnI 3 w1 lo hi _ _ := Ho1.out.widen (lo := lo) (hi := hi) fun b hb => by
                have := Hb.out b (by rw [He.out, ← HLd.out, ← HLn.out]; exact hb)
                omega
              rw [if_pos (by omega), ← HR.out, He.out, ← HLd.out, ← HLn.out]
              exact h5
            · have e2 : (if i < k + 1 then runs (m + preC cs i) (cs.getD i clD).1.length else (cs.getD i clD).1) = (if i < k then runs (m + preC cs i) (cs.getD i clD).1.length else (cs.getD i clD).1) := by
                by_cases h1 : i < k
                · rw [if_pos h1, if_pos (by omega)]
                · rw [if_neg h1, if_neg (by omega)]
              rw [e2]
              refine (Hr2.out i hil).besides Hf1.out fun b hb => ?_
              rcases Classical.em (b < lo' ∨ hi' ≤ b) with h | h
              · exact h
              · have h3 := (hrng b h).1
                rcases Nat.lt_or_gt_of_ne e with h4 | h4
                · exact absurd h3 (G3.out i k h4 hlt b hb)
                · exact absurd hb (G3.out k i h4 hil b h3)
          refine ⟨ownsRow_of_block key.1 fun b hb => ?_, key.2⟩
          refine Below.heap_setCell _ _ _ _ (show b ≠ (⟨g, k * 2 + 1, none⟩ : Addr).block from fun e => ?_)
          subst e
          exact ne_of_kinds (OwnI.kind key _ hb) (HS1.out.kind _ rfl) (by decide)
    · obtain rfl : k = cs.length := by omega
      have Hr := Lib.hid hr.out
      have Hbf := Lib.hid hb
      clear hr hb
      go_wp2
      go_ret
      refine ⟨rfl, ⟨f, ?_, fun i hi => ?_, ?_⟩, Hbf.out⟩
      · rw [length_runCs]
        exact Hr.out.1.congr fun i hi j hj => by unfold markC; rw [if_pos hi]
      · rw [length_runCs] at hi
        have := Hr.out.2 i hi
        rw [if_pos hi] at this
        rw [getD_runCs m cs hi]
        exact this
      · rw [length_runCs]; exact G3.out

set_option maxHeartbeats 4000000 in
theorem heldPartS_runs (v : Value) (cs : List Cls) (m : Int) (w : World) (h : RdCl w v (runCs m cs)) (h0 : 0 ≤ m) (h1 : m + preC cs cs.length ≤ 1000000000000) :
    Calls Tryz.prog 11 #[v, .int .i64 m] w fun e w' => e = .returned (.int .i64 (m + preC cs cs.length)) ∧ Below w.heap.size w w' := by
  obtain ⟨f, hs, hf⟩ := h
  obtain ⟨p, cap, rfl, ⟨hx1, hx⟩, hxc⟩ := hs.two
  rw [length_runCs] at hx1 hxc hf ⊢
  unfold maxLen at hx
  have Hf := Lib.hid hf
  have Hxc := Lib.hid hxc
  clear hf hs hxc
  go_enter Tryz.func11, Tryz.ntmps11
  go_wp2
  go_loopg [1, 5] cs.length (fun n s1 i wr => ∃ k : Nat, k ≤ cs.length ∧ n = cs.length - k ∧ i = .int .i64 k ∧ s1 = .int .i64 (m + preC cs k) ∧ Hid (Below w.heap.size w wr))
  case atStart => exact ⟨0, Nat.zero_le _, rfl, rfl, by simp [preC_zero], Lib.hid (Below.refl _ _)⟩
  case round =>
    obtain ⟨k, hk, rfl, rfl, rfl, hb⟩ := hrel
    have Hb := Lib.hid hb.out
    clear hb
    by_cases hlt : k < cs.length
    · obtain ⟨b, rfl, hc⟩ := Hxc.out (by omega)
      obtain ⟨a0, a1⟩ := hc k hlt
      have c0 := cell_below Hb.out a0
      have c1 := cell_below Hb.out a1
      have hi := (Hf.out k hlt).below Hb.out
      rw [getD_runCs m cs hlt] at c1 hi
      dsimp only at c1 hi
      have Hpp := Lib.hid (preC_succ cs k hlt)
      have hle := preC_le cs (k + 1)
      rw [Hpp.out] at hle
      obtain ⟨L, hLn⟩ : ∃ L, L = (cs.getD k clD).1.length := ⟨_, rfl⟩
      rw [← hLn] at c1 hi hle
      obtain ⟨R, hR⟩ : ∃ R, R = preC cs k := ⟨_, rfl⟩
      rw [← hR] at c1 hi hle ⊢
      obtain ⟨y, hy⟩ : ∃ y, y = f k := ⟨_, rfl⟩
      rw [← hy] at c0 hi
      have Hq := Lib.hid (heldIntS_runs y L (m + R) wr hi (by omega) (by omega))
      have HLn := Lib.hid hLn
      have HR := Lib.hid hR
      have hml : ¬ m + (R : Int) + (L : Int) < 0 := by omega
      have hne : (m + (R : Int) + (L : Int) != m + (R : Int) + (L : Int)) = false := by simp
      clear a0 a1 hc hi hLn hR hy
      go_wp2_with fail
      refine Hq.out.mono ?_
      rintro e w1 ⟨rfl, hb1⟩
      have c1' := cell_below hb1 c1
      have Hb1 := Lib.hid hb1
      clear hb1 c0 c1 Hq
      go_wp2_with fail
      go_roundg (cs.length - (k + 1))
      case measure => omega
      case rel => exact ⟨k + 1, by omega, rfl, by go_num, by rw [Hpp.out, ← HR.out, ← HLn.out]; go_num, Lib.hid (Hb.out.trans (Hb1.out.mono Hb.out.size))⟩
    · obtain rfl : k = cs.length := by omega
      go_wp2
      go_ret
      exact ⟨rfl, Hb.out⟩

end Go.Proofs.YtlbflckoodjokaaGreat
