/-
  EquivariantProduct on both sides.
  The law FnExactEquivariantProduct, walked call by call: it returns true, and nothing that was there has changed. (Printed by gen_lawcls.py.)
-/
import Derived.Test.YtajmoclnmphmgaaJ17
namespace Go.Proofs.Ytajmoclnmphmgaa
set_option linter.all false
set_option maxRecDepth 100000
open Go.RowKit

theorem specIsPerm_c (v : Value) (xs : List Int) (b : Bool) (hb : permOk xs = b) (w : World) (h : Ints w v xs) : Calls Try.prog 38 #[v] w fun e w' => e = .returned (.bool b) ∧ Below w.heap.size w w' :=
  (specIsPerm_any v xs w h).mono fun e w' ⟨h1, h2⟩ => ⟨by rw [h1, hb], h2.below _⟩
theorem implAp_c (N : Int) (v : Value) (y : List Int) (b : Bool) (hb : apOk N y = b) (w : World) (h : Ints w v y) : Calls Try.prog 42 #[.int .i64 N, v] w fun e w' => e = .returned (.bool b) ∧ Below w.heap.size w w' :=
  (weightsOk_any N v y w h).mono fun e w' ⟨h1, h2⟩ => ⟨by rw [h1, hb], h2.below _⟩
theorem specAp_c (N : Int) (v : Value) (y : List Int) (b : Bool) (hb : apOk N y = b) (w : World) (h : Ints w v y) : Calls Try.prog 39 #[.int .i64 N, v] w fun e w' => e = .returned (.bool b) ∧ Below w.heap.size w w' :=
  (l8Apart_any N v y w h).mono fun e w' ⟨h1, h2⟩ => ⟨by rw [h1, hb], h2.below _⟩

set_option maxHeartbeats 16000000 in
theorem implEqui_any (pu pv py : Value) (us vs ys : List Int) (w : World) (hu : Ints w pu us) (hv : Ints w pv vs) (hy : Ints w py ys) :
    Calls Try.prog 16 #[pu, pv, py] w (RetCB w (eqL us vs ys)) := by
  have HU := Lib.hid hu
  have HV := Lib.hid hv
  have HY := Lib.hid hy
  obtain ⟨au, cu, rfl, ⟨hu1, hu2⟩, hux⟩ := hu
  obtain ⟨av, cv, rfl, ⟨hv1, hv2⟩, hvx⟩ := hv
  obtain ⟨ay, cy, rfl, ⟨hy1, hy2⟩, hyx⟩ := hy
  clear hux hvx hyx
  unfold maxLen at hu2 hv2 hy2
  have no : ∀ w', eqOk us vs ys = false → Below w.heap.size w w' → RetCB w (eqL us vs ys) (.returned (.tuple #[.slice none 0 0, .bool false])) w' := fun w' h hb => by rw [eqL_no h]; exact ⟨_, rfl, OwnCd.nil _ _ _, hb⟩
  have No := Lib.hid no
  clear no
  go_enter Try.func16, Try.ntmps16
  cases h1 : permOk us with
  | false =>
    have H1 := Lib.hid h1
    clear h1
    go_wp2_with fail
    refine (implIsPerm_b _ us false H1.out _ HU.out).mono ?_
    rintro e w1 ⟨rfl, hb⟩
    have Hb := Lib.hid hb
    clear hb
    go_wp2_with fail
    go_ret2
    exact No.out _ (by unfold eqOk; rw [H1.out]; rfl) Hb.out
  | true =>
  cases h2 : permOk vs with
  | false =>
    have H1 := Lib.hid h1
    have H2 := Lib.hid h2
    clear h1 h2
    go_wp2_with fail
    refine (implIsPerm_b _ us true H1.out _ HU.out).mono ?_
    rintro e w1 ⟨rfl, hb⟩
    have Hb := Lib.hid hb
    clear hb
    go_wp2_with fail
    refine (implIsPerm_b _ vs false H2.out _ (HV.out.below Hb.out)).mono ?_
    rintro e w2 ⟨rfl, hb2⟩
    have Hb2 := Lib.hid (below_trans Hb.out hb2)
    clear hb2
    go_wp2_with fail
    go_ret2
    exact No.out _ (by unfold eqOk; rw [H2.out]; simp) Hb2.out
  | true =>
  have H1 := Lib.hid h1
  have H2 := Lib.hid h2
  clear h1 h2
  by_cases h3 : us.length = vs.length
  · have H3 := Lib.hid h3
    rw [← h3] at hv1 HV ⊢
    clear h3
    cases h4 : apOk us.length ys with
    | false =>
      have H4 := Lib.hid h4
      clear h4
      go_wp2_with fail
      refine (implIsPerm_b _ us true H1.out _ HU.out).mono ?_
      rintro e w1 ⟨rfl, hb⟩
      have Hb := Lib.hid hb
      clear hb
      go_wp2_with fail
      refine (implIsPerm_b _ vs true H2.out _ (by have := HV.out.below Hb.out; exact this)).mono ?_
      rintro e w2 ⟨rfl, hb2⟩
      have Hb2 := Lib.hid (below_trans Hb.out hb2)
      clear hb2
      go_wp2_with fail
      refine (implAp_c _ _ ys false H4.out _ (HY.out.below Hb2.out)).mono ?_
      rintro e w3 ⟨rfl, hb3⟩
      have Hb3 := Lib.hid (below_trans Hb2.out hb3)
      clear hb3
      go_wp2_with fail
      go_ret2
      exact No.out _ (by unfold eqOk; rw [H4.out]; simp) Hb3.out
    | true =>
      have H4 := Lib.hid h4
      have hok : eqOk us vs ys = true := by unfold eqOk; rw [H1.out, H2.out, decide_eq_true H3.out, h4]; rfl
      have E := eqIs hok
      rw [eqL_yes hok]
      clear h4 hok No
      obtain ⟨n, hn⟩ : ∃ n, n = us.length := ⟨_, rfl⟩
      rw [← hn] at E H3 H4 hu1 hv1 HU HV ⊢
      have HE := Lib.hid E
      have Hn := Lib.hid hn
      obtain ⟨F, hF⟩ : ∃ F, F = fact n := ⟨_, rfl⟩
      have hf := fact4 E.y.one (show n ≤ 5 by have := E.y.four; omega)
      rw [← hF] at hf
      have HF := Lib.hid hF
      have hyl := E.y.len
      rw [hyl] at hy1 HY ⊢
      clear E hF hn hyl
      go_wp2_with fail
      refine (implIsPerm_b _ us true H1.out _ HU.out).mono ?_
      rintro e w1 ⟨rfl, hb⟩
      have Hb := Lib.hid hb
      clear hb
      go_wp2_with fail
      refine (implIsPerm_b _ vs true H2.out _ (HV.out.below Hb.out)).mono ?_
      rintro e w2 ⟨rfl, hb2⟩
      have Hb2 := Lib.hid (below_trans Hb.out hb2)
      clear hb2
      go_wp2_with fail
      refine (implAp_c _ _ ys true H4.out _ (HY.out.below Hb2.out)).mono ?_
      rintro e w3 ⟨rfl, hb3⟩
      have Hb3 := Lib.hid (below_trans Hb2.out hb3)
      clear hb3
      go_wp2_with fail
      refine (implTable_any n us ys _ _ w3 HE.out.u HE.out.y.one HE.out.y.four HE.out.y.len HE.out.y.nine (HU.out.below Hb3.out) (HY.out.below Hb3.out)).mono ?_
      rintro e w4 ⟨ua, rfl, hoa, hb4⟩
      have hla : (tabL us ys).length = F := by rw [tabL_length, HE.out.u.len, HF.out]
      have ha := hoa.fn
      obtain ⟨pa, ka, rfl, hka, hkam⟩ := hoa.shape
      unfold maxLen at hkam
      rw [hla] at ha hka ⊢
      have hs4 := hb4.size
      have HA := Lib.hid ha
      have Hb4 := Lib.hid (below_trans Hb3.out hb4)
      have hs3 := Hb3.out.size
      clear ha hb4 hoa hla
      go_wp2_with fail
      refine (implTable_any n vs ys _ _ w4 HE.out.v HE.out.y.one HE.out.y.four HE.out.y.len HE.out.y.nine (HV.out.below Hb4.out) (HY.out.below Hb4.out)).mono ?_
      rintro e w5 ⟨ub, rfl, hob, hb5⟩
      have hlb : (tabL vs ys).length = F := by rw [tabL_length, HE.out.v.len, HF.out]
      have hb' := hob.fn
      obtain ⟨pb, kb, rfl, hkb, hkbm⟩ := hob.shape
      unfold maxLen at hkbm
      rw [hlb] at hb' hkb ⊢
      have hs5 := hb5.size
      have ha5 := HA.out.below hb5
      obtain ⟨ga, rfl, hga1, hga2, hga3⟩ := ha5.at_ (by omega)
      obtain ⟨gb, rfl, hgb1, hgb2, hgb3⟩ := hb'.at_ (by omega)
      have HA5 := Lib.hid ha5
      have HB5 := Lib.hid (show ∀ j, j < F → w5.cell? ⟨gb, j, none⟩ = some (iv (tabL vs ys) j) from fun j hj => hb'.cell hj)
      have Hb5 := Lib.hid (below_trans Hb4.out hb5)
      have hgab : w4.heap.size ≤ gb := hgb1
      clear ha5 hb' hb5 hob hlb HA
      go_wp2_with fail
      go_loopg [12, 49] F (fun g s12 s49 wr => ∃ j : Nat, j ≤ F ∧ g = F - j ∧ s49 = .int .i64 (j : Int) ∧ Hid (Frm w3.heap.size w4.heap.size w5 wr) ∧ Hid (OwnF wr w3.heap.size w4.heap.size 3 (.slice (some ⟨ga, 0, none⟩) F ka) F (fun t => if t < j then iv (mulT n ys us vs) t else iv (tabL us ys) t)))
      case atStart => exact ⟨0, Nat.zero_le _, rfl, rfl, Lib.hid (Frm.refl _ _ _), Lib.hid (HA5.out.congr fun t _ => by rw [if_neg (Nat.not_lt_zero _)])⟩
      case round =>
        obtain ⟨j, hj, rfl, rfl, hfj, hoj⟩ := hrel
        obtain ⟨wz, rfl⟩ : ∃ x : World, x = wr := ⟨_, rfl⟩
        have Hfj := Lib.hid hfj.out
        have Hoj := Lib.hid hoj.out
        clear hfj hoj
        by_cases hjF : j < F
        · have hjFi : (j : Int) < (F : Int) := by omega
          obtain ⟨a, haa⟩ : ∃ a, a = (tabL us ys).getD j 0 := ⟨_, rfl⟩
          obtain ⟨b, hbb⟩ : ∃ b, b = (tabL vs ys).getD j 0 := ⟨_, rfl⟩
          have ca : wz.cell? ⟨ga, j, none⟩ = some (.int .i64 a) := by rw [Hoj.out.cell hjF, if_neg (Nat.lt_irrefl _), haa]; rfl
          have fa : wz.frozen? ⟨ga, j, none⟩ = false := Hoj.out.frozen j
          have cb : wz.cell? ⟨gb, j, none⟩ = some (.int .i64 b) := by
            have := HB5.out j hjF
            unfold World.cell? at this ⊢
            rw [Hfj.out.block gb hgb3 (.inr hgab), hbb]
            exact this
          obtain ⟨M, hM⟩ : ∃ M, M = a * b := ⟨_, rfl⟩
          have hMb : M.natAbs ≤ 1000000 * 1000000 := by rw [hM, haa, hbb]; exact abs_mul2 (tab_bound HE.out.y HE.out.u (by rw [← HF.out]; exact hjF)) (tab_bound HE.out.y HE.out.v (by rw [← HF.out]; exact hjF))
          have hwM : IntKind.i64.wrap (a * b) = M := by rw [← hM, IntKind.wrap_i64]; omega
          have Ha := Lib.hid haa
          have HB := Lib.hid hbb
          have HM := Lib.hid hM
          clear haa hbb hM hMb
          go_wp2_with fail
          go_region
          go_wp2_with fail
          go_roundg (F - (j + 1))
          case measure => omega
          case rel =>
            refine ⟨j + 1, by omega, rfl, by go_num, Lib.hid ?_, Lib.hid ?_⟩
            · exact (Hfj.out.setCell (p := ⟨ga, j, none⟩) hga1 hga2 _).drewN 1
            · have h1 := Hoj.out.set j (.int .i64 M)
              have h2 : OwnF (wz.setCell ⟨ga, j, none⟩ (.int .i64 M)).drew w3.heap.size w4.heap.size 3 (.slice (some ⟨ga, 0, none⟩) F ka) F _ := h1.below ((Below.refl _ _).drew)
              refine h2.congr fun t ht => ?_
              by_cases h3 : t = j
              · rw [if_pos h3, if_pos (by omega), h3]
                unfold iv
                rw [mulT_getD (by rw [← HF.out]; exact hjF), HM.out, Ha.out, HB.out]
              · rw [if_neg h3]
                by_cases h4 : t < j
                · rw [if_pos h4, if_pos (by omega)]
                · rw [if_neg h4, if_neg (by omega)]
        · have hjFi : ¬ (j : Int) < (F : Int) := by omega
          have hjE : j = F := by omega
          have hml : (mulT n ys us vs).length = F := by rw [mulT_length, HF.out]
          have Hmz := Lib.hid (show Ints wz (.slice (some ⟨ga, 0, none⟩) F ka) (mulT n ys us vs) from by
            refine OwnI.ints (T := 3) (lo := w3.heap.size) (hi := w4.heap.size) (OwnF.ints ?_)
            rw [hml]
            exact Hoj.out.congr fun t ht => by rw [if_pos (by omega)])
          have hbz : Below w.heap.size w wz := Hb5.out.trans (Hfj.out.below hs3 Hb5.out.size)
          have Hbz := Lib.hid hbz
          have Hyz := Lib.hid (HY.out.below hbz)
          have Hx := Lib.hid (implExpand_any n _ _ _ ys wz Hmz.out Hyz.out true (gk_mul HE.out.y HE.out.u HE.out.v))
          rw [show (if true = true then expE (n : Int).toNat (mulT n ys us vs) ys (ordL (n : Int).toNat) else ([], false)) = expE n (mulT n ys us vs) ys (ordL n) from rfl] at Hx
          obtain ⟨E', hE'⟩ : ∃ E', E' = expE n (mulT n ys us vs) ys (ordL n) := ⟨_, rfl⟩
          rw [← hE'] at Hx
          have HE' := Lib.hid hE'
          clear hml hbz hE'
          go_wp2_with fail
          refine Hx.out.mono ?_
          rintro e w9 ⟨r, rfl, hor, hbr⟩
          obtain ⟨pr, kr, rfl, _, _⟩ := hor.shape
          have Hor := Lib.hid hor
          have Hbr := Lib.hid hbr
          clear hor hbr Hx
          go_wp2_with fail
          go_ret2
          rw [← HE'.out]
          exact ⟨_, rfl, Hor.out.mono Hbz.out.size (Nat.le_refl _), Hbz.out.trans (Hbr.out.mono Hbz.out.size)⟩
  · have H3 := Lib.hid h3
    have hni : (((us.length : Int)) != (vs.length : Int)) = true := by simp; omega
    clear h3
    go_wp2_with fail
    refine (implIsPerm_b _ us true H1.out _ HU.out).mono ?_
    rintro e w1 ⟨rfl, hb⟩
    have Hb := Lib.hid hb
    clear hb
    go_wp2_with fail
    refine (implIsPerm_b _ vs true H2.out _ (HV.out.below Hb.out)).mono ?_
    rintro e w2 ⟨rfl, hb2⟩
    have Hb2 := Lib.hid (below_trans Hb.out hb2)
    clear hb2
    go_wp2_with fail
    go_ret2
    exact No.out _ (by unfold eqOk; rw [decide_eq_false H3.out]; simp) Hb2.out

set_option maxHeartbeats 16000000 in
theorem specEqui_any (pu pv py : Value) (us vs ys : List Int) (w : World) (hu : Ints w pu us) (hv : Ints w pv vs) (hy : Ints w py ys) :
    Calls Try.prog 15 #[pu, pv, py] w (RetCS w (eqL us vs ys)) := by
  have HU := Lib.hid hu
  have HV := Lib.hid hv
  have HY := Lib.hid hy
  obtain ⟨au, cu, rfl, ⟨hu1, hu2⟩, hux⟩ := hu
  obtain ⟨av, cv, rfl, ⟨hv1, hv2⟩, hvx⟩ := hv
  obtain ⟨ay, cy, rfl, ⟨hy1, hy2⟩, hyx⟩ := hy
  clear hux hvx hyx
  unfold maxLen at hu2 hv2 hy2
  have no : ∀ w', eqOk us vs ys = false → Below w.heap.size w w' → RetCS w (eqL us vs ys) (.returned (.tuple #[.slice none 0 0, .bool false])) w' := fun w' h hb => by rw [eqL_no h]; exact ⟨_, rfl, ownCl_nil _ _ _, hb⟩
  have No := Lib.hid no
  clear no
  go_enter Try.func15, Try.ntmps15
  cases h1 : permOk us with
  | false =>
    have H1 := Lib.hid h1
    clear h1
    go_wp2_with fail
    refine (specIsPerm_c _ us false H1.out _ HU.out).mono ?_
    rintro e w1 ⟨rfl, hb⟩
    have Hb := Lib.hid hb
    clear hb
    go_wp2_with fail
    go_ret2
    exact No.out _ (by unfold eqOk; rw [H1.out]; rfl) Hb.out
  | true =>
  cases h2 : permOk vs with
  | false =>
    have H1 := Lib.hid h1
    have H2 := Lib.hid h2
    clear h1 h2
    go_wp2_with fail
    refine (specIsPerm_c _ us true H1.out _ HU.out).mono ?_
    rintro e w1 ⟨rfl, hb⟩
    have Hb := Lib.hid hb
    clear hb
    go_wp2_with fail
    refine (specIsPerm_c _ vs false H2.out _ (HV.out.below Hb.out)).mono ?_
    rintro e w2 ⟨rfl, hb2⟩
    have Hb2 := Lib.hid (below_trans Hb.out hb2)
    clear hb2
    go_wp2_with fail
    go_ret2
    exact No.out _ (by unfold eqOk; rw [H2.out]; simp) Hb2.out
  | true =>
  have H1 := Lib.hid h1
  have H2 := Lib.hid h2
  clear h1 h2
  by_cases h3 : us.length = vs.length
  · have H3 := Lib.hid h3
    rw [← h3] at hv1 HV ⊢
    clear h3
    cases h4 : apOk us.length ys with
    | false =>
      have H4 := Lib.hid h4
      clear h4
      go_wp2_with fail
      refine (specIsPerm_c _ us true H1.out _ HU.out).mono ?_
      rintro e w1 ⟨rfl, hb⟩
      have Hb := Lib.hid hb
      clear hb
      go_wp2_with fail
      refine (specIsPerm_c _ vs true H2.out _ (by have := HV.out.below Hb.out; exact this)).mono ?_
      rintro e w2 ⟨rfl, hb2⟩
      have Hb2 := Lib.hid (below_trans Hb.out hb2)
      clear hb2
      go_wp2_with fail
      refine (specAp_c _ _ ys false H4.out _ (HY.out.below Hb2.out)).mono ?_
      rintro e w3 ⟨rfl, hb3⟩
      have Hb3 := Lib.hid (below_trans Hb2.out hb3)
      clear hb3
      go_wp2_with fail
      go_ret2
      exact No.out _ (by unfold eqOk; rw [H4.out]; simp) Hb3.out
    | true =>
      have H4 := Lib.hid h4
      have hok : eqOk us vs ys = true := by unfold eqOk; rw [H1.out, H2.out, decide_eq_true H3.out, h4]; rfl
      have E := eqIs hok
      rw [eqL_yes hok]
      clear h4 hok No
      obtain ⟨n, hn⟩ : ∃ n, n = us.length := ⟨_, rfl⟩
      rw [← hn] at E H3 H4 hu1 hv1 HU HV ⊢
      have HE := Lib.hid E
      have Hn := Lib.hid hn
      obtain ⟨F, hF⟩ : ∃ F, F = fact n := ⟨_, rfl⟩
      have hf := fact4 E.y.one (show n ≤ 5 by have := E.y.four; omega)
      rw [← hF] at hf
      have HF := Lib.hid hF
      have hyl := E.y.len
      rw [hyl] at hy1 HY ⊢
      clear E hF hn hyl
      go_wp2_with fail
      refine (specIsPerm_c _ us true H1.out _ HU.out).mono ?_
      rintro e w1 ⟨rfl, hb⟩
      have Hb := Lib.hid hb
      clear hb
      go_wp2_with fail
      refine (specIsPerm_c _ vs true H2.out _ (HV.out.below Hb.out)).mono ?_
      rintro e w2 ⟨rfl, hb2⟩
      have Hb2 := Lib.hid (below_trans Hb.out hb2)
      clear hb2
      go_wp2_with fail
      refine (specAp_c _ _ ys true H4.out _ (HY.out.below Hb2.out)).mono ?_
      rintro e w3 ⟨rfl, hb3⟩
      have Hb3 := Lib.hid (below_trans Hb2.out hb3)
      clear hb3
      go_wp2_with fail
      refine (l8Table_any n us ys _ _ w3 HE.out.u HE.out.y.one HE.out.y.len HE.out.y.nine (HU.out.below Hb3.out) (HY.out.below Hb3.out)).mono ?_
      rintro e w4 ⟨ua, rfl, hoa, hb4⟩
      have hla : (tabL us ys).length = F := by rw [tabL_length, HE.out.u.len, HF.out]
      have ha := hoa.fn
      obtain ⟨pa, ka, rfl, hka, hkam⟩ := hoa.shape
      unfold maxLen at hkam
      rw [hla] at ha hka ⊢
      have hs4 := hb4.size
      have HA := Lib.hid ha
      have Hb4 := Lib.hid (below_trans Hb3.out hb4)
      have hs3 := Hb3.out.size
      clear ha hb4 hoa hla
      go_wp2_with fail
      refine (l8Table_any n vs ys _ _ w4 HE.out.v HE.out.y.one HE.out.y.len HE.out.y.nine (HV.out.below Hb4.out) (HY.out.below Hb4.out)).mono ?_
      rintro e w5 ⟨ub, rfl, hob, hb5⟩
      have hlb : (tabL vs ys).length = F := by rw [tabL_length, HE.out.v.len, HF.out]
      have hb' := hob.fn
      obtain ⟨pb, kb, rfl, hkb, hkbm⟩ := hob.shape
      unfold maxLen at hkbm
      rw [hlb] at hb' hkb ⊢
      have hs5 := hb5.size
      have ha5 := HA.out.below hb5
      obtain ⟨ga, rfl, hga1, hga2, hga3⟩ := ha5.at_ (by omega)
      obtain ⟨gb, rfl, hgb1, hgb2, hgb3⟩ := hb'.at_ (by omega)
      have HA5 := Lib.hid ha5
      have HB5 := Lib.hid (show ∀ j, j < F → w5.cell? ⟨gb, j, none⟩ = some (iv (tabL vs ys) j) from fun j hj => hb'.cell hj)
      have Hb5 := Lib.hid (below_trans Hb4.out hb5)
      have hgab : w4.heap.size ≤ gb := hgb1
      clear ha5 hb' hb5 hob hlb HA
      go_wp2_with fail
      go_loopg [10] F (fun g s49 wr => ∃ j : Nat, j ≤ F ∧ g = F - j ∧ s49 = .int .i64 (j : Int) ∧ Hid (Frm w3.heap.size w4.heap.size w5 wr) ∧ Hid (OwnF wr w3.heap.size w4.heap.size 3 (.slice (some ⟨ga, 0, none⟩) F ka) F (fun t => if t < j then iv (mulT n ys us vs) t else iv (tabL us ys) t)))
      case atStart => exact ⟨0, Nat.zero_le _, rfl, rfl, Lib.hid (Frm.refl _ _ _), Lib.hid (HA5.out.congr fun t _ => by rw [if_neg (Nat.not_lt_zero _)])⟩
      case round =>
        obtain ⟨j, hj, rfl, rfl, hfj, hoj⟩ := hrel
        obtain ⟨wz, rfl⟩ : ∃ x : World, x = wr := ⟨_, rfl⟩
        have Hfj := Lib.hid hfj.out
        have Hoj := Lib.hid hoj.out
        clear hfj hoj
        by_cases hjF : j < F
        · have hjFi : (j : Int) < (F : Int) := by omega
          obtain ⟨a, haa⟩ : ∃ a, a = (tabL us ys).getD j 0 := ⟨_, rfl⟩
          obtain ⟨b, hbb⟩ : ∃ b, b = (tabL vs ys).getD j 0 := ⟨_, rfl⟩
          have ca : wz.cell? ⟨ga, j, none⟩ = some (.int .i64 a) := by rw [Hoj.out.cell hjF, if_neg (Nat.lt_irrefl _), haa]; rfl
          have fa : wz.frozen? ⟨ga, j, none⟩ = false := Hoj.out.frozen j
          have cb : wz.cell? ⟨gb, j, none⟩ = some (.int .i64 b) := by
            have := HB5.out j hjF
            unfold World.cell? at this ⊢
            rw [Hfj.out.block gb hgb3 (.inr hgab), hbb]
            exact this
          obtain ⟨M, hM⟩ : ∃ M, M = a * b := ⟨_, rfl⟩
          have hMb : M.natAbs ≤ 1000000 * 1000000 := by rw [hM, haa, hbb]; exact abs_mul2 (tab_bound HE.out.y HE.out.u (by rw [← HF.out]; exact hjF)) (tab_bound HE.out.y HE.out.v (by rw [← HF.out]; exact hjF))
          have hwM : IntKind.i64.wrap (a * b) = M := by rw [← hM, IntKind.wrap_i64]; omega
          have Ha := Lib.hid haa
          have HB := Lib.hid hbb
          have HM := Lib.hid hM
          clear haa hbb hM hMb
          go_wp2_with fail
          go_region
          go_wp2_with fail
          go_roundg (F - (j + 1))
          case measure => omega
          case rel =>
            refine ⟨j + 1, by omega, rfl, by go_num, Lib.hid ?_, Lib.hid ?_⟩
            · exact (Hfj.out.setCell (p := ⟨ga, j, none⟩) hga1 hga2 _).drewN 1
            · have h1 := Hoj.out.set j (.int .i64 M)
              have h2 : OwnF (wz.setCell ⟨ga, j, none⟩ (.int .i64 M)).drew w3.heap.size w4.heap.size 3 (.slice (some ⟨ga, 0, none⟩) F ka) F _ := h1.below ((Below.refl _ _).drew)
              refine h2.congr fun t ht => ?_
              by_cases h3 : t = j
              · rw [if_pos h3, if_pos (by omega), h3]
                unfold iv
                rw [mulT_getD (by rw [← HF.out]; exact hjF), HM.out, Ha.out, HB.out]
              · rw [if_neg h3]
                by_cases h4 : t < j
                · rw [if_pos h4, if_pos (by omega)]
                · rw [if_neg h4, if_neg (by omega)]
        · have hjFi : ¬ (j : Int) < (F : Int) := by omega
          have hjE : j = F := by omega
          have hml : (mulT n ys us vs).length = F := by rw [mulT_length, HF.out]
          have Hmz := Lib.hid (show Ints wz (.slice (some ⟨ga, 0, none⟩) F ka) (mulT n ys us vs) from by
            refine OwnI.ints (T := 3) (lo := w3.heap.size) (hi := w4.heap.size) (OwnF.ints ?_)
            rw [hml]
            exact Hoj.out.congr fun t ht => by rw [if_pos (by omega)])
          have hbz : Below w.heap.size w wz := Hb5.out.trans (Hfj.out.below hs3 Hb5.out.size)
          have Hbz := Lib.hid hbz
          have Hyz := Lib.hid (HY.out.below hbz)
          have Hx := Lib.hid (l8Expand_any n _ _ _ ys wz Hmz.out Hyz.out HE.out.y (mulT_rest HE.out.y HE.out.u HE.out.v))
          skip
          obtain ⟨E', hE'⟩ : ∃ E', E' = expE n (mulT n ys us vs) ys (ordL n) := ⟨_, rfl⟩
          rw [← hE'] at Hx
          have HE' := Lib.hid hE'
          clear hml hbz hE'
          go_wp2_with fail
          refine Hx.out.mono ?_
          rintro e w9 ⟨r, rfl, hor, hbr⟩
          obtain ⟨pr, kr, rfl, _, _⟩ := hor.shape
          have Hor := Lib.hid hor
          have Hbr := Lib.hid hbr
          clear hor hbr Hx
          go_wp2_with fail
          go_ret2
          rw [← HE'.out]
          exact ⟨_, rfl, Hor.out.mono Hbz.out.size (Nat.le_refl _), Hbz.out.trans (Hbr.out.mono Hbz.out.size)⟩
  · have H3 := Lib.hid h3
    have hni : (((us.length : Int)) != (vs.length : Int)) = true := by simp; omega
    clear h3
    go_wp2_with fail
    refine (specIsPerm_c _ us true H1.out _ HU.out).mono ?_
    rintro e w1 ⟨rfl, hb⟩
    have Hb := Lib.hid hb
    clear hb
    go_wp2_with fail
    refine (specIsPerm_c _ vs true H2.out _ (HV.out.below Hb.out)).mono ?_
    rintro e w2 ⟨rfl, hb2⟩
    have Hb2 := Lib.hid (below_trans Hb.out hb2)
    clear hb2
    go_wp2_with fail
    go_ret2
    exact No.out _ (by unfold eqOk; rw [decide_eq_false H3.out]; simp) Hb2.out

end Go.Proofs.Ytajmoclnmphmgaa

namespace Go.Proofs.Ytajmoclnmphmgaa
set_option linter.all false
open Go.RowKit

set_option maxRecDepth 100000 in
set_option maxHeartbeats 16000000 in
theorem lawEquivariantProduct (v0 : Value) (xs0 : List Int) (v1 : Value) (xs1 : List Int) (v2 : Value) (xs2 : List Int) (w0 : World) (h0 : Ints w0 v0 xs0) (h1 : Ints w0 v1 xs1) (h2 : Ints w0 v2 xs2) :
    Calls Try.prog 4 #[v0, v1, v2] w0 fun e w' => e = .returned (.bool true) ∧ Below w0.heap.size w0 w' := by
  have S := fun a b c w ha hb hc => specEqui_any a b c xs0 xs1 xs2 w ha hb hc
  have I := fun a b c w ha hb hc => implEqui_any a b c xs0 xs1 xs2 w ha hb hc
  have hlen := eqL_len xs0 xs1 xs2
  obtain ⟨⟨cs, b⟩, hr⟩ : ∃ r, r = eqL xs0 xs1 xs2 := ⟨_, rfl⟩
  rw [← hr] at S I hlen
  clear hr
  unfold RetCS at S
  unfold RetCB at I
  dsimp only at S I hlen
  have S := Lib.hid S
  have I := Lib.hid I
  have Hx0 := Lib.hid h0
  have Hx1 := Lib.hid h1
  have Hx2 := Lib.hid h2
  have B0 := Lib.hid (Below.refl w0.heap.size w0)
  obtain ⟨q0, cap0, rfl, ⟨hc0, hd0⟩, hcx0⟩ := h0
  clear hcx0
  obtain ⟨q1, cap1, rfl, ⟨hc1, hd1⟩, hcx1⟩ := h1
  clear hcx1
  obtain ⟨q2, cap2, rfl, ⟨hc2, hd2⟩, hcx2⟩ := h2
  clear hcx2
  unfold maxLen at hd0 hd1 hd2
  have hbb : (b != b) = false := by simp
  go_enter Try.func4, Try.ntmps4
  by_cases hbx0 : 1048576 < xs0.length
  · have hbz0 : (1048576 : Int) < (xs0.length : Int) := by omega
    go_wp2_with fail
    go_ret
    exact ⟨rfl, Below.refl _ _⟩
  by_cases hbx1 : 1048576 < xs1.length
  · have hbz0 : ¬ (1048576 : Int) < (xs0.length : Int) := by omega
    have hbz1 : (1048576 : Int) < (xs1.length : Int) := by omega
    go_wp2_with fail
    go_ret
    exact ⟨rfl, Below.refl _ _⟩
  by_cases hbx2 : 1048576 < xs2.length
  · have hbz0 : ¬ (1048576 : Int) < (xs0.length : Int) := by omega
    have hbz1 : ¬ (1048576 : Int) < (xs1.length : Int) := by omega
    have hbz2 : (1048576 : Int) < (xs2.length : Int) := by omega
    go_wp2_with fail
    go_ret
    exact ⟨rfl, Below.refl _ _⟩
  · have hbz0 : ¬ (1048576 : Int) < (xs0.length : Int) := by omega
    have hbz1 : ¬ (1048576 : Int) < (xs1.length : Int) := by omega
    have hbz2 : ¬ (1048576 : Int) < (xs2.length : Int) := by omega
    have Sm0 := Lib.hid (show xs0.length ≤ 1048576 by omega)
    have Sm1 := Lib.hid (show xs1.length ≤ 1048576 by omega)
    have Sm2 := Lib.hid (show xs2.length ≤ 1048576 by omega)
    go_wp2_with fail
    refine (toIntS_any _ xs0 _ (Hx0.out.below B0.out) Sm0.out).mono ?_
    rintro e w1 ⟨u, rfl, ho, hb⟩
    have sz1 : w0.heap.size ≤ w1.heap.size := hb.size
    have B1 := Lib.hid (B0.out.trans (hb.mono B0.out.size))
    clear B0 hb
    obtain ⟨pa0, ka0, rfl, la0, ma0⟩ := ho.shape
    have Ha0_1 := Lib.hid ho
    clear ho
    go_wp2_with fail
    refine (toIntS_any _ xs1 _ (Hx1.out.below B1.out) Sm1.out).mono ?_
    rintro e w2 ⟨u, rfl, ho, hb⟩
    have sz2 : w1.heap.size ≤ w2.heap.size := hb.size
    have B2 := Lib.hid (B1.out.trans (hb.mono B1.out.size))
    have Ha0_2 := Lib.hid (Ha0_1.out.below hb)
    clear Ha0_1 B1 hb
    obtain ⟨pa1, ka1, rfl, la1, ma1⟩ := ho.shape
    have Ha1_2 := Lib.hid ho
    clear ho
    go_wp2_with fail
    refine (toIntS_any _ xs2 _ (Hx2.out.below B2.out) Sm2.out).mono ?_
    rintro e w3 ⟨u, rfl, ho, hb⟩
    have sz3 : w2.heap.size ≤ w3.heap.size := hb.size
    have B3 := Lib.hid (B2.out.trans (hb.mono B2.out.size))
    have Ha0_3 := Lib.hid (Ha0_2.out.below hb)
    have Ha1_3 := Lib.hid (Ha1_2.out.below hb)
    clear Ha0_2 Ha1_2 B2 hb
    obtain ⟨pa2, ka2, rfl, la2, ma2⟩ := ho.shape
    have Ha2_3 := Lib.hid ho
    clear ho
    go_wp2_with fail
    refine (S.out _ _ _ _ Ha0_3.out.ints Ha1_3.out.ints Ha2_3.out.ints).mono ?_
    rintro e w4 ⟨u, rfl, ho, hb⟩
    have sz4 : w3.heap.size ≤ w4.heap.size := hb.size
    have B4 := Lib.hid (B3.out.trans (hb.mono B3.out.size))
    have Ha0_4 := Lib.hid (Ha0_3.out.below hb)
    have Ha1_4 := Lib.hid (Ha1_3.out.below hb)
    have Ha2_4 := Lib.hid (Ha2_3.out.below hb)
    clear Ha0_3 Ha1_3 Ha2_3 B3 hb
    obtain ⟨pW, kW, rfl, lW, mW⟩ := ho.shape
    have HW_4 := Lib.hid ho
    clear ho
    go_wp2_with fail
    refine (toIntS_any _ xs0 _ (Hx0.out.below B4.out) Sm0.out).mono ?_
    rintro e w5 ⟨u, rfl, ho, hb⟩
    have sz5 : w4.heap.size ≤ w5.heap.size := hb.size
    have B5 := Lib.hid (B4.out.trans (hb.mono B4.out.size))
    have HW_5 := Lib.hid (HW_4.out.below hb)
    clear HW_4 B4 hb
    obtain ⟨px0, kx0, rfl, lx0, mx0⟩ := ho.shape
    have Hx0_5 := Lib.hid ho
    clear ho
    go_wp2_with fail
    refine (toIntS_any _ xs1 _ (Hx1.out.below B5.out) Sm1.out).mono ?_
    rintro e w6 ⟨u, rfl, ho, hb⟩
    have sz6 : w5.heap.size ≤ w6.heap.size := hb.size
    have B6 := Lib.hid (B5.out.trans (hb.mono B5.out.size))
    have HW_6 := Lib.hid (HW_5.out.below hb)
    have Hx0_6 := Lib.hid (Hx0_5.out.below hb)
    clear HW_5 Hx0_5 B5 hb
    obtain ⟨px1, kx1, rfl, lx1, mx1⟩ := ho.shape
    have Hx1_6 := Lib.hid ho
    clear ho
    go_wp2_with fail
    refine (toIntS_any _ xs2 _ (Hx2.out.below B6.out) Sm2.out).mono ?_
    rintro e w7 ⟨u, rfl, ho, hb⟩
    have sz7 : w6.heap.size ≤ w7.heap.size := hb.size
    have B7 := Lib.hid (B6.out.trans (hb.mono B6.out.size))
    have HW_7 := Lib.hid (HW_6.out.below hb)
    have Hx0_7 := Lib.hid (Hx0_6.out.below hb)
    have Hx1_7 := Lib.hid (Hx1_6.out.below hb)
    clear HW_6 Hx0_6 Hx1_6 B6 hb
    obtain ⟨px2, kx2, rfl, lx2, mx2⟩ := ho.shape
    have Hx2_7 := Lib.hid ho
    clear ho
    go_wp2_with fail
    refine (I.out _ _ _ _ Hx0_7.out.ints Hx1_7.out.ints Hx2_7.out.ints).mono ?_
    rintro e w8 ⟨u, rfl, ho, hb⟩
    have sz8 : w7.heap.size ≤ w8.heap.size := hb.size
    have B8 := Lib.hid (B7.out.trans (hb.mono B7.out.size))
    have HW_8 := Lib.hid (HW_7.out.below hb)
    have Hx0_8 := Lib.hid (Hx0_7.out.below hb)
    have Hx1_8 := Lib.hid (Hx1_7.out.below hb)
    have Hx2_8 := Lib.hid (Hx2_7.out.below hb)
    clear HW_7 Hx0_7 Hx1_7 Hx2_7 B7 hb
    obtain ⟨pG, kG, rfl, lG, mG⟩ := ho.shape
    have HG_8 := Lib.hid ho
    clear ho
    go_wp2_with fail
    refine (eqClassS_same _ _ cs _ HG_8.out.rd HW_8.out.rd).mono ?_
    rintro e w9 ⟨rfl, hb⟩
    have sz9 : w8.heap.size ≤ w9.heap.size := hb.size
    have B9 := Lib.hid (B8.out.trans (hb.mono B8.out.size))
    have HW_9 := Lib.hid (HW_8.out.below hb)
    have Hx0_9 := Lib.hid (Hx0_8.out.below hb)
    have Hx1_9 := Lib.hid (Hx1_8.out.below hb)
    have Hx2_9 := Lib.hid (Hx2_8.out.below hb)
    have HG_9 := Lib.hid (HG_8.out.below hb)
    clear HW_8 Hx0_8 Hx1_8 Hx2_8 HG_8 B8 hb
    go_wp2_with fail
    refine (toIntS_any _ xs0 _ (Hx0.out.below B9.out) Sm0.out).mono ?_
    rintro e w10 ⟨u, rfl, ho, hb⟩
    have sz10 : w9.heap.size ≤ w10.heap.size := hb.size
    have B10 := Lib.hid (B9.out.trans (hb.mono B9.out.size))
    have HW_10 := Lib.hid (HW_9.out.below hb)
    have Hx0_10 := Lib.hid (Hx0_9.out.below hb)
    have Hx1_10 := Lib.hid (Hx1_9.out.below hb)
    have Hx2_10 := Lib.hid (Hx2_9.out.below hb)
    have HG_10 := Lib.hid (HG_9.out.below hb)
    clear HW_9 Hx0_9 Hx1_9 Hx2_9 HG_9 B9 hb
    obtain ⟨pc0, kc0, rfl, lc0, mc0⟩ := ho.shape
    have Hc0_10 := Lib.hid ho
    clear ho
    go_wp2_with fail
    refine (eqIntS_same _ _ xs0 _ Hx0_10.out.ints Hc0_10.out.ints).mono ?_
    rintro e w11 ⟨rfl, hb⟩
    have sz11 : w10.heap.size ≤ w11.heap.size := hb.size
    have B11 := Lib.hid (B10.out.trans (hb.mono B10.out.size))
    have HW_11 := Lib.hid (HW_10.out.below hb)
    have Hx0_11 := Lib.hid (Hx0_10.out.below hb)
    have Hx1_11 := Lib.hid (Hx1_10.out.below hb)
    have Hx2_11 := Lib.hid (Hx2_10.out.below hb)
    have HG_11 := Lib.hid (HG_10.out.below hb)
    have Hc0_11 := Lib.hid (Hc0_10.out.below hb)
    clear HW_10 Hx0_10 Hx1_10 Hx2_10 HG_10 Hc0_10 B10 hb
    go_wp2_with fail
    refine (toIntS_any _ xs1 _ (Hx1.out.below B11.out) Sm1.out).mono ?_
    rintro e w12 ⟨u, rfl, ho, hb⟩
    have sz12 : w11.heap.size ≤ w12.heap.size := hb.size
    have B12 := Lib.hid (B11.out.trans (hb.mono B11.out.size))
    have HW_12 := Lib.hid (HW_11.out.below hb)
    have Hx0_12 := Lib.hid (Hx0_11.out.below hb)
    have Hx1_12 := Lib.hid (Hx1_11.out.below hb)
    have Hx2_12 := Lib.hid (Hx2_11.out.below hb)
    have HG_12 := Lib.hid (HG_11.out.below hb)
    clear HW_11 Hx0_11 Hx1_11 Hx2_11 HG_11 B11 hb
    obtain ⟨pc1, kc1, rfl, lc1, mc1⟩ := ho.shape
    have Hc1_12 := Lib.hid ho
    clear ho
    go_wp2_with fail
    refine (eqIntS_same _ _ xs1 _ Hx1_12.out.ints Hc1_12.out.ints).mono ?_
    rintro e w13 ⟨rfl, hb⟩
    have sz13 : w12.heap.size ≤ w13.heap.size := hb.size
    have B13 := Lib.hid (B12.out.trans (hb.mono B12.out.size))
    have HW_13 := Lib.hid (HW_12.out.below hb)
    have Hx0_13 := Lib.hid (Hx0_12.out.below hb)
    have Hx1_13 := Lib.hid (Hx1_12.out.below hb)
    have Hx2_13 := Lib.hid (Hx2_12.out.below hb)
    have HG_13 := Lib.hid (HG_12.out.below hb)
    have Hc1_13 := Lib.hid (Hc1_12.out.below hb)
    clear HW_12 Hx0_12 Hx1_12 Hx2_12 HG_12 Hc1_12 B12 hb
    go_wp2_with fail
    refine (toIntS_any _ xs2 _ (Hx2.out.below B13.out) Sm2.out).mono ?_
    rintro e w14 ⟨u, rfl, ho, hb⟩
    have sz14 : w13.heap.size ≤ w14.heap.size := hb.size
    have B14 := Lib.hid (B13.out.trans (hb.mono B13.out.size))
    have HW_14 := Lib.hid (HW_13.out.below hb)
    have Hx0_14 := Lib.hid (Hx0_13.out.below hb)
    have Hx1_14 := Lib.hid (Hx1_13.out.below hb)
    have Hx2_14 := Lib.hid (Hx2_13.out.below hb)
    have HG_14 := Lib.hid (HG_13.out.below hb)
    clear HW_13 Hx0_13 Hx1_13 Hx2_13 HG_13 B13 hb
    obtain ⟨pc2, kc2, rfl, lc2, mc2⟩ := ho.shape
    have Hc2_14 := Lib.hid ho
    clear ho
    go_wp2_with fail
    refine (eqIntS_same _ _ xs2 _ Hx2_14.out.ints Hc2_14.out.ints).mono ?_
    rintro e w15 ⟨rfl, hb⟩
    have sz15 : w14.heap.size ≤ w15.heap.size := hb.size
    have B15 := Lib.hid (B14.out.trans (hb.mono B14.out.size))
    have HW_15 := Lib.hid (HW_14.out.below hb)
    have Hx0_15 := Lib.hid (Hx0_14.out.below hb)
    have Hx1_15 := Lib.hid (Hx1_14.out.below hb)
    have Hx2_15 := Lib.hid (Hx2_14.out.below hb)
    have HG_15 := Lib.hid (HG_14.out.below hb)
    have Hc2_15 := Lib.hid (Hc2_14.out.below hb)
    clear HW_14 Hx0_14 Hx1_14 Hx2_14 HG_14 Hc2_14 B14 hb
    go_wp2_with fail
    refine (markIntS_any _ xs0 _ _ (1) _ Hx0_15.out (by omega) (by omega)).mono ?_
    rintro e w16 ⟨rfl, ho, hf⟩
    have sz16 : w15.heap.size ≤ w16.heap.size := hf.size
    have B16 := Lib.hid (B15.out.trans (hf.below (by omega) B15.out.size))
    have HW_16 := Lib.hid (HW_15.out.frm hf (by omega))
    have Hx1_16 := Lib.hid (Hx1_15.out.frm hf (by omega))
    have Hx2_16 := Lib.hid (Hx2_15.out.frm hf (by omega))
    have HG_16 := Lib.hid (HG_15.out.frm hf (by omega))
    have Hx0_16 := Lib.hid ho
    clear HW_15 Hx1_15 Hx2_15 HG_15 Hx0_15 B15 hf ho
    go_wp2_with fail
    refine (markIntS_any _ xs1 _ _ (1 + (xs0.length : Int)) _ Hx1_16.out (by omega) (by omega)).mono ?_
    rintro e w17 ⟨rfl, ho, hf⟩
    have sz17 : w16.heap.size ≤ w17.heap.size := hf.size
    have B17 := Lib.hid (B16.out.trans (hf.below (by omega) B16.out.size))
    have HW_17 := Lib.hid (HW_16.out.frm hf (by omega))
    have Hx0_17 := Lib.hid (Hx0_16.out.frm hf (by omega))
    have Hx2_17 := Lib.hid (Hx2_16.out.frm hf (by omega))
    have HG_17 := Lib.hid (HG_16.out.frm hf (by omega))
    have Hx1_17 := Lib.hid ho
    clear HW_16 Hx0_16 Hx2_16 HG_16 Hx1_16 B16 hf ho
    go_wp2_with fail
    refine (markIntS_any _ xs2 _ _ (1 + (xs0.length : Int) + (xs1.length : Int)) _ Hx2_17.out (by omega) (by omega)).mono ?_
    rintro e w18 ⟨rfl, ho, hf⟩
    have sz18 : w17.heap.size ≤ w18.heap.size := hf.size
    have B18 := Lib.hid (B17.out.trans (hf.below (by omega) B17.out.size))
    have HW_18 := Lib.hid (HW_17.out.frm hf (by omega))
    have Hx0_18 := Lib.hid (Hx0_17.out.frm hf (by omega))
    have Hx1_18 := Lib.hid (Hx1_17.out.frm hf (by omega))
    have HG_18 := Lib.hid (HG_17.out.frm hf (by omega))
    have Hx2_18 := Lib.hid ho
    clear HW_17 Hx0_17 Hx1_17 HG_17 Hx2_17 B17 hf ho
    have hk1 : ¬ (1 + (xs0.length : Int) + (xs1.length : Int) + (xs2.length : Int)) < 0 := by omega
    go_wp2_with fail
    refine (eqClassS_same _ _ cs _ HG_18.out.rd HW_18.out.rd).mono ?_
    rintro e w19 ⟨rfl, hb⟩
    have sz19 : w18.heap.size ≤ w19.heap.size := hb.size
    have B19 := Lib.hid (B18.out.trans (hb.mono B18.out.size))
    have HW_19 := Lib.hid (HW_18.out.below hb)
    have Hx0_19 := Lib.hid (Hx0_18.out.below hb)
    have Hx1_19 := Lib.hid (Hx1_18.out.below hb)
    have Hx2_19 := Lib.hid (Hx2_18.out.below hb)
    have HG_19 := Lib.hid (HG_18.out.below hb)
    clear HW_18 Hx0_18 Hx1_18 Hx2_18 HG_18 B18 hb
    go_wp2_with fail
    refine (markClassS_any _ cs _ _ 1 _ HG_19.out (by omega) (by omega)).mono ?_
    rintro e w20 ⟨rfl, ho, hf⟩
    have sz20 : w19.heap.size ≤ w20.heap.size := hf.size
    have B20 := Lib.hid (B19.out.trans (hf.below (by omega) B19.out.size))
    have HW_20 := Lib.hid (HW_19.out.frm hf (by omega))
    have HG_20 := Lib.hid ho
    clear HW_19 HG_19 B19 hf ho
    have hk2 : ¬ (1 : Int) + (preC cs cs.length : Int) < 0 := by omega
    go_wp2_with fail
    refine (heldClassS_runs _ cs 1 _ HG_20.out.rd (by omega) (by omega)).mono ?_
    rintro e w21 ⟨rfl, hb⟩
    have sz21 : w20.heap.size ≤ w21.heap.size := hb.size
    have B21 := Lib.hid (B20.out.trans (hb.mono B20.out.size))
    have HW_21 := Lib.hid (HW_20.out.below hb)
    have HG_21 := Lib.hid (HG_20.out.below hb)
    clear HW_20 HG_20 B20 hb
    go_wp2_with fail
    refine (toIntS_any _ xs0 _ (Hx0.out.below B21.out) Sm0.out).mono ?_
    rintro e w22 ⟨u, rfl, ho, hb⟩
    have sz22 : w21.heap.size ≤ w22.heap.size := hb.size
    have B22 := Lib.hid (B21.out.trans (hb.mono B21.out.size))
    have HW_22 := Lib.hid (HW_21.out.below hb)
    have HG_22 := Lib.hid (HG_21.out.below hb)
    clear HW_21 HG_21 B21 hb
    obtain ⟨pd0, kd0, rfl, ld0, md0⟩ := ho.shape
    have Hd0_22 := Lib.hid ho
    clear ho
    go_wp2_with fail
    refine (toIntS_any _ xs1 _ (Hx1.out.below B22.out) Sm1.out).mono ?_
    rintro e w23 ⟨u, rfl, ho, hb⟩
    have sz23 : w22.heap.size ≤ w23.heap.size := hb.size
    have B23 := Lib.hid (B22.out.trans (hb.mono B22.out.size))
    have HW_23 := Lib.hid (HW_22.out.below hb)
    have HG_23 := Lib.hid (HG_22.out.below hb)
    have Hd0_23 := Lib.hid (Hd0_22.out.below hb)
    clear HW_22 HG_22 Hd0_22 B22 hb
    obtain ⟨pd1, kd1, rfl, ld1, md1⟩ := ho.shape
    have Hd1_23 := Lib.hid ho
    clear ho
    go_wp2_with fail
    refine (toIntS_any _ xs2 _ (Hx2.out.below B23.out) Sm2.out).mono ?_
    rintro e w24 ⟨u, rfl, ho, hb⟩
    have sz24 : w23.heap.size ≤ w24.heap.size := hb.size
    have B24 := Lib.hid (B23.out.trans (hb.mono B23.out.size))
    have HW_24 := Lib.hid (HW_23.out.below hb)
    have HG_24 := Lib.hid (HG_23.out.below hb)
    have Hd0_24 := Lib.hid (Hd0_23.out.below hb)
    have Hd1_24 := Lib.hid (Hd1_23.out.below hb)
    clear HW_23 HG_23 Hd0_23 Hd1_23 B23 hb
    obtain ⟨pd2, kd2, rfl, ld2, md2⟩ := ho.shape
    have Hd2_24 := Lib.hid ho
    clear ho
    go_wp2_with fail
    refine (I.out _ _ _ _ Hd0_24.out.ints Hd1_24.out.ints Hd2_24.out.ints).mono ?_
    rintro e w25 ⟨u, rfl, ho, hb⟩
    have sz25 : w24.heap.size ≤ w25.heap.size := hb.size
    have B25 := Lib.hid (B24.out.trans (hb.mono B24.out.size))
    have HW_25 := Lib.hid (HW_24.out.below hb)
    have HG_25 := Lib.hid (HG_24.out.below hb)
    have Hd0_25 := Lib.hid (Hd0_24.out.below hb)
    have Hd1_25 := Lib.hid (Hd1_24.out.below hb)
    have Hd2_25 := Lib.hid (Hd2_24.out.below hb)
    clear HW_24 HG_24 Hd0_24 Hd1_24 Hd2_24 B24 hb
    obtain ⟨pK, kK, rfl, lK, mK⟩ := ho.shape
    have HK_25 := Lib.hid ho
    clear ho
    go_wp2_with fail
    refine (eqClassS_same _ _ cs _ HK_25.out.rd HW_25.out.rd).mono ?_
    rintro e w26 ⟨rfl, hb⟩
    have sz26 : w25.heap.size ≤ w26.heap.size := hb.size
    have B26 := Lib.hid (B25.out.trans (hb.mono B25.out.size))
    have HW_26 := Lib.hid (HW_25.out.below hb)
    have HG_26 := Lib.hid (HG_25.out.below hb)
    have HK_26 := Lib.hid (HK_25.out.below hb)
    clear HW_25 HG_25 HK_25 B25 hb
    go_wp2_with fail
    refine (heldClassS_runs _ cs 1 _ HG_26.out.rd (by omega) (by omega)).mono ?_
    rintro e w27 ⟨rfl, hb⟩
    have sz27 : w26.heap.size ≤ w27.heap.size := hb.size
    have B27 := Lib.hid (B26.out.trans (hb.mono B26.out.size))
    have HW_27 := Lib.hid (HW_26.out.below hb)
    have HG_27 := Lib.hid (HG_26.out.below hb)
    have HK_27 := Lib.hid (HK_26.out.below hb)
    clear HW_26 HG_26 HK_26 B26 hb
    go_wp2_with fail
    go_ret
    exact ⟨rfl, B27.out⟩

end Go.Proofs.Ytajmoclnmphmgaa
