/-
  EquivariantProduct on both sides.
  What ExpandLocal says of values that are sums of values of permutations: their numbers. Plain.
  The product with an exchange of neighbours. Plain.
  Looking up a class among those of a sum, and how many there are. Plain.
  The draws: the cursor over the bytes, a number below another one.
  The laws' own comparisons: ints, matrices; how long the code is.
-/
import Derived.Test.YtajmoclnmphmgaaJ17
import Derived.Test.YtajmoclnmphmgaaJ4
import Derived.Test.YtajmoclnmphmgaaJ1
namespace Go.Proofs.Ytajmoclnmphmgaa
set_option linter.all false
set_option maxRecDepth 100000
open Go.RowKit

theorem specIsPerm_c (v : Value) (xs : List Int) (b : Bool) (hb : permOk xs = b) (w : World) (h : Ints w v xs) : Calls Try.prog 38 #[v] w fun e w' => e = .returned (.bool b) ∧ Below w.heap.size w w' :=
  (specIsPerm_any v xs w h).mono fun e w' ⟨h1, h2⟩ => ⟨by rw [h1, hb], h2.below _⟩
theorem implAp_c (N : Int) (v : Value) (y : List Int) (b : Bool) (hb : apOk N y = b) (w : World) (h : Ints w v y) : Calls Try.prog 42 #[.int .i64 N, v] w fun e w' => e = .returned (.bool b) ∧ Below w.heap.size w w' :=
  (weightsOk_any N v y w h).mono fun e w' ⟨h1, h2⟩ => ⟨by rw [h1, hb], h2.below _⟩
theorem specAp_c (N : Int) (v : Value) (y : List Int) (b : Bool) (hb : apOk N y = b) (w : World) (h : Ints w v y) : Calls Try.prog 39 #[.int .i64 N, v] w fun e w' => e = .returned (.bool b) ∧ Below w.heap.size w w' :=
  (l8Apart_any N v y w h).mono fun e w' ⟨h1, h2⟩ => ⟨by rw [h1, hb], h2.below _⟩

set_option maxHeartbeats 16000000 in
theorem implEqui_any (pu pv py : Value) (us vs ys : List Int) (w : World) (hu : Ints w pu us) (hv : Ints w pv vs) (hy : Ints w py ys) :
    Calls Try.prog 16 #[pu, pv, py] w (RetCB w (eqL us vs ys)) := by
  have HU := Lib.hid hu
  have HV := Lib.hid hv
  have HY := Lib.hid hy
  obtain ⟨au, cu, rfl, ⟨hu1, hu2⟩, hux⟩ := hu
  obtain ⟨av, cv, rfl, ⟨hv1, hv2⟩, hvx⟩ := hv
  obtain ⟨ay, cy, rfl, ⟨hy1, hy2⟩, hyx⟩ := hy
  clear hux hvx hyx
  unfold maxLen at hu2 hv2 hy2
  have no : ∀ w', eqOk us vs ys = false → Below w.heap.size w w' → RetCB w (eqL us vs ys) (.returned (.tuple #[.slice none 0 0, .bool false])) w' := fun w' h hb => by rw [eqL_no h]; exact ⟨_, rfl, OwnCd.nil _ _ _, hb⟩
  have No := Lib.hid no
  clear no
  go_enter Try.func16, Try.ntmps16
  cases h1 : permOk us with
  | false =>
    have H1 := Lib.hid h1
    clear h1
    go_wp2_with fail
    refine (implIsPerm_b _ us false H1.out _ HU.out).mono ?_
    rintro e w1 ⟨rfl, hb⟩
    have Hb := Lib.hid hb
    clear hb
    go_wp2_with fail
    go_ret2
    exact No.out _ (by unfold eqOk; rw [H1.out]; rfl) Hb.out
  | true =>
  cases h2 : permOk vs with
  | false =>
    have H1 := Lib.hid h1
    have H2 := Lib.hid h2
    clear h1 h2
    go_wp2_with fail
    refine (implIsPerm_b _ us true H1.out _ HU.out).mono ?_
    rintro e w1 ⟨rfl, hb⟩
    have Hb := Lib.hid hb
    clear hb
    go_wp2_with fail
    refine (implIsPerm_b _ vs false H2.out _ (HV.out.below Hb.out)).mono ?_
    rintro e w2 ⟨rfl, hb2⟩
    have Hb2 := Lib.hid (below_trans Hb.out hb2)
    clear hb2
    go_wp2_with fail
    go_ret2
    exact No.out _ (by unfold eqOk; rw [H2.out]; simp) Hb2.out
  | true =>
  have H1 := Lib.hid h1
  have H2 := Lib.hid h2
  clear h1 h2
  by_cases h3 : us.length = vs.length
  · have H3 := Lib.hid h3
    rw [← h3] at hv1 HV ⊢
    clear h3
    cases h4 : apOk us.length ys with
    | false =>
      have H4 := Lib.hid h4
      clear h4
      go_wp2_with fail
      refine (implIsPerm_b _ us true H1.out _ HU.out).mono ?_
      rintro e w1 ⟨rfl, hb⟩
      have Hb := Lib.hid hb
      clear hb
      go_wp2_with fail
      refine (implIsPerm_b _ vs true H2.out _ (by have := HV.out.below Hb.out; exact this)).mono ?_
      rintro e w2 ⟨rfl, hb2⟩
      have Hb2 := Lib.hid (below_trans Hb.out hb2)
      clear hb2
      go_wp2_with fail
      refine (implAp_c _ _ ys false H4.out _ (HY.out.below Hb2.out)).mono ?_
      rintro e w3 ⟨rfl, hb3⟩
      have Hb3 := Lib.hid (below_trans Hb2.out hb3)
      clear hb3
      go_wp2_with fail
      go_ret2
      exact No.out _ (by unfold eqOk; rw [H4.out]; simp) Hb3.out
    | true =>
      have H4 := Lib.hid h4
      have hok : eqOk us vs ys = true := by unfold eqOk; rw [H1.out, H2.out, decide_eq_true H3.out, h4]; rfl
      have E := eqIs hok
      rw [eqL_yes hok]
      clear h4 hok No
      obtain ⟨n, hn⟩ : ∃ n, n = us.length := ⟨_, rfl⟩
      rw [← hn] at E H3 H4 hu1 hv1 HU HV ⊢
      have HE := Lib.hid E
      have Hn := Lib.hid hn
      obtain ⟨F, hF⟩ : ∃ F, F = fact n := ⟨_, rfl⟩
      have hf := fact4 E.y.one (show n ≤ 5 by have := E.y.four; omega)
      rw [← hF] at hf
      have HF := Lib.hid hF
      have hyl := E.y.len
      rw [hyl] at hy1 HY ⊢
      clear E hF hn hyl
      go_wp2_with fail
      refine (implIsPerm_b _ us true H1.out _ HU.out).mono ?_
      rintro e w1 ⟨rfl, hb⟩
      have Hb := Lib.hid hb
      clear hb
      go_wp2_with fail
      refine (implIsPerm_b _ vs true H2.out _ (HV.out.below Hb.out)).mono ?_
      rintro e w2 ⟨rfl, hb2⟩
      have Hb2 := Lib.hid (below_trans Hb.out hb2)
      clear hb2
      go_wp2_with fail
      refine (implAp_c _ _ ys true H4.out _ (HY.out.below Hb2.out)).mono ?_
      rintro e w3 ⟨rfl, hb3⟩
      have Hb3 := Lib.hid (below_trans Hb2.out hb3)
      clear hb3
      go_wp2_with fail
      refine (implTable_any n us ys _ _ w3 HE.out.u HE.out.y.one HE.out.y.four HE.out.y.len HE.out.y.nine (HU.out.below Hb3.out) (HY.out.below Hb3.out)).mono ?_
      rintro e w4 ⟨ua, rfl, hoa, hb4⟩
      have hla : (tabL us ys).length = F := by rw [tabL_length, HE.out.u.len, HF.out]
      have ha := hoa.fn
      obtain ⟨pa, ka, rfl, hka, hkam⟩ := hoa.shape
      unfold maxLen at hkam
      rw [hla] at ha hka ⊢
      have hs4 := hb4.size
      have HA := Lib.hid ha
      have Hb4 := Lib.hid (below_trans Hb3.out hb4)
      have hs3 := Hb3.out.size
      clear ha hb4 hoa hla
      go_wp2_with fail
      refine (implTable_any n vs ys _ _ w4 HE.out.v HE.out.y.one HE.out.y.four HE.out.y.len HE.out.y.nine (HV.out.below Hb4.out) (HY.out.below Hb4.out)).mono ?_
      rintro e w5 ⟨ub, rfl, hob, hb5⟩
      have hlb : (tabL vs ys).length = F := by rw [tabL_length, HE.out.v.len, HF.out]
      have hb' := hob.fn
      obtain ⟨pb, kb, rfl, hkb, hkbm⟩ := hob.shape
      unfold maxLen at hkbm
      rw [hlb] at hb' hkb ⊢
      have hs5 := hb5.size
      have ha5 := HA.out.below hb5
      obtain ⟨ga, rfl, hga1, hga2, hga3⟩ := ha5.at_ (by omega)
      obtain ⟨gb, rfl, hgb1, hgb2, hgb3⟩ := hb'.at_ (by omega)
      have HA5 := Lib.hid ha5
      have HB5 := Lib.hid (show ∀ j, j < F → w5.cell? ⟨gb, j, none⟩ = some (iv (tabL vs ys) j) from fun j hj => hb'.cell hj)
      have Hb5 := Lib.hid (below_trans Hb4.out hb5)
      have hgab : w4.heap.size ≤ gb := hgb1
      clear ha5 hb' hb5 hob hlb HA
      go_wp2_with fail
      go_loopg [12, 49] F (fun g s12 s49 wr => ∃ j : Nat, j ≤ F ∧ g = F - j ∧ s49 = .int .i64 (j : Int) ∧ Hid (Frm w3.heap.size w4.heap.size w5 wr) ∧ Hid (OwnF wr w3.heap.size w4.heap.size 3 (.slice (some ⟨ga, 0, none⟩) F ka) F (fun t => if t < j then iv (mulT n ys us vs) t else iv (tabL us ys) t)))
      case atStart => exact ⟨0, Nat.zero_le _, rfl, rfl, Lib.hid (Frm.refl _ _ _), Lib.hid (HA5.out.congr fun t _ => by rw [if_neg (Nat.not_lt_zero _)])⟩
      case round =>
        obtain ⟨j, hj, rfl, rfl, hfj, hoj⟩ := hrel
        obtain ⟨wz, rfl⟩ : ∃ x : World, x = wr := ⟨_, rfl⟩
        have Hfj := Lib.hid hfj.out
        have Hoj := Lib.hid hoj.out
        clear hfj hoj
        by_cases hjF : j < F
        · have hjFi : (j : Int) < (F : Int) := by omega
          obtain ⟨a, haa⟩ : ∃ a, a = (tabL us ys).getD j 0 := ⟨_, rfl⟩
          obtain ⟨b, hbb⟩ : ∃ b, b = (tabL vs ys).getD j 0 := ⟨_, rfl⟩
          have ca : wz.cell? ⟨ga, j, none⟩ = some (.int .i64 a) := by rw [Hoj.out.cell hjF, if_neg (Nat.lt_irrefl _), haa]; rfl
          have fa : wz.frozen? ⟨ga, j, none⟩ = false := Hoj.out.frozen j
          have cb : wz.cell? ⟨gb, j, none⟩ = some (.int .i64 b) := by
            have := HB5.out j hjF
            unfold World.cell? at this ⊢
            rw [Hfj.out.block gb hgb3 (.inr hgab), hbb]
            exact this
          obtain ⟨M, hM⟩ : ∃ M, M = a * b := ⟨_, rfl⟩
          have hMb : M.natAbs ≤ 1000000 * 1000000 := by rw [hM, haa, hbb]; exact abs_mul2 (tab_bound HE.out.y HE.out.u (by rw [← HF.out]; exact hjF)) (tab_bound HE.out.y HE.out.v (by rw [← HF.out]; exact hjF))
          have hwM : IntKind.i64.wrap (a * b) = M := by rw [← hM, IntKind.wrap_i64]; omega
          have Ha := Lib.hid haa
          have HB := Lib.hid hbb
          have HM := Lib.hid hM
          clear haa hbb hM hMb
          go_wp2_with fail
          go_region
          go_wp2_with fail
          go_roundg (F - (j + 1))
          case measure => omega
          case rel =>
            refine ⟨j + 1, by omega, rfl, by go_num, Lib.hid ?_, Lib.hid ?_⟩
            · exact (Hfj.out.setCell (p := ⟨ga, j, none⟩) hga1 hga2 _).drewN 1
            · have h1 := Hoj.out.set j (.int .i64 M)
              have h2 : OwnF (wz.setCell ⟨ga, j, none⟩ (.int .i64 M)).drew w3.heap.size w4.heap.size 3 (.slice (some ⟨ga, 0, none⟩) F ka) F _ := h1.below ((Below.refl _ _).drew)
              refine h2.congr fun t ht => ?_
              by_cases h3 : t = j
              · rw [if_pos h3, if_pos (by omega), h3]
                unfold iv
                rw [mulT_getD (by rw [← HF.out]; exact hjF), HM.out, Ha.out, HB.out]
              · rw [if_neg h3]
                by_cases h4 : t < j
                · rw [if_pos h4, if_pos (by omega)]
                · rw [if_neg h4, if_neg (by omega)]
        · have hjFi : ¬ (j : Int) < (F : Int) := by omega
          have hjE : j = F := by omega
          have hml : (mulT n ys us vs).length = F := by rw [mulT_length, HF.out]
          have Hmz := Lib.hid (show Ints wz (.slice (some ⟨ga, 0, none⟩) F ka) (mulT n ys us vs) from by
            refine OwnI.ints (T := 3) (lo := w3.heap.size) (hi := w4.heap.size) (OwnF.ints ?_)
            rw [hml]
            exact Hoj.out.congr fun t ht => by rw [if_pos (by omega)])
          have hbz : Below w.heap.size w wz := Hb5.out.trans (Hfj.out.below hs3 Hb5.out.size)
          have Hbz := Lib.hid hbz
          have Hyz := Lib.hid (HY.out.below hbz)
          have Hx := Lib.hid (implExpand_any n _ _ _ ys wz Hmz.out Hyz.out true (gk_mul HE.out.y HE.out.u HE.out.v))
          rw [show (if true = true then expE (n : Int).toNat (mulT n ys us vs) ys (ordL (n : Int).toNat) else ([], false)) = expE n (mulT n ys us vs) ys (ordL n) from rfl] at Hx
          obtain ⟨E', hE'⟩ : ∃ E', E' = expE n (mulT n ys us vs) ys (ordL n) := ⟨_, rfl⟩
          rw [← hE'] at Hx
          have HE' := Lib.hid hE'
          clear hml hbz hE'
          go_wp2_with fail
          refine Hx.out.mono ?_
          rintro e w9 ⟨r, rfl, hor, hbr⟩
          obtain ⟨pr, kr, rfl, _, _⟩ := hor.shape
          have Hor := Lib.hid hor
          have Hbr := Lib.hid hbr
          clear hor hbr Hx
          go_wp2_with fail
          go_ret2
          rw [← HE'.out]
          exact ⟨_, rfl, Hor.out.mono Hbz.out.size (Nat.le_refl _), Hbz.out.trans (Hbr.out.mono Hbz.out.size)⟩
  · have H3 := Lib.hid h3
    have hni : (((us.length : Int)) != (vs.length : Int)) = true := by simp; omega
    clear h3
    go_wp2_with fail
    refine (implIsPerm_b _ us true H1.out _ HU.out).mono ?_
    rintro e w1 ⟨rfl, hb⟩
    have Hb := Lib.hid hb
    clear hb
    go_wp2_with fail
    refine (implIsPerm_b _ vs true H2.out _ (HV.out.below Hb.out)).mono ?_
    rintro e w2 ⟨rfl, hb2⟩
    have Hb2 := Lib.hid (below_trans Hb.out hb2)
    clear hb2
    go_wp2_with fail
    go_ret2
    exact No.out _ (by unfold eqOk; rw [decide_eq_false H3.out]; simp) Hb2.out

set_option maxHeartbeats 16000000 in
theorem specEqui_any (pu pv py : Value) (us vs ys : List Int) (w : World) (hu : Ints w pu us) (hv : Ints w pv vs) (hy : Ints w py ys) :
    Calls Try.prog 15 #[pu, pv, py] w (RetCS w (eqL us vs ys)) := by
  have HU := Lib.hid hu
  have HV := Lib.hid hv
  have HY := Lib.hid hy
  obtain ⟨au, cu, rfl, ⟨hu1, hu2⟩, hux⟩ := hu
  obtain ⟨av, cv, rfl, ⟨hv1, hv2⟩, hvx⟩ := hv
  obtain ⟨ay, cy, rfl, ⟨hy1, hy2⟩, hyx⟩ := hy
  clear hux hvx hyx
  unfold maxLen at hu2 hv2 hy2
  have no : ∀ w', eqOk us vs ys = false → Below w.heap.size w w' → RetCS w (eqL us vs ys) (.returned (.tuple #[.slice none 0 0, .bool false])) w' := fun w' h hb => by rw [eqL_no h]; exact ⟨_, rfl, ownCl_nil _ _ _, hb⟩
  have No := Lib.hid no
  clear no
  go_enter Try.func15, Try.ntmps15
  cases h1 : permOk us with
  | false =>
    have H1 := Lib.hid h1
    clear h1
    go_wp2_with fail
    refine (specIsPerm_c _ us false H1.out _ HU.out).mono ?_
    rintro e w1 ⟨rfl, hb⟩
    have Hb := Lib.hid hb
    clear hb
    go_wp2_with fail
    go_ret2
    exact No.out _ (by unfold eqOk; rw [H1.out]; rfl) Hb.out
  | true =>
  cases h2 : permOk vs with
  | false =>
    have H1 := Lib.hid h1
    have H2 := Lib.hid h2
    clear h1 h2
    go_wp2_with fail
    refine (specIsPerm_c _ us true H1.out _ HU.out).mono ?_
    rintro e w1 ⟨rfl, hb⟩
    have Hb := Lib.hid hb
    clear hb
    go_wp2_with fail
    refine (specIsPerm_c _ vs false H2.out _ (HV.out.below Hb.out)).mono ?_
    rintro e w2 ⟨rfl, hb2⟩
    have Hb2 := Lib.hid (below_trans Hb.out hb2)
    clear hb2
    go_wp2_with fail
    go_ret2
    exact No.out _ (by unfold eqOk; rw [H2.out]; simp) Hb2.out
  | true =>
  have H1 := Lib.hid h1
  have H2 := Lib.hid h2
  clear h1 h2
  by_cases h3 : us.length = vs.length
  · have H3 := Lib.hid h3
    rw [← h3] at hv1 HV ⊢
    clear h3
    cases h4 : apOk us.length ys with
    | false =>
      have H4 := Lib.hid h4
      clear h4
      go_wp2_with fail
      refine (specIsPerm_c _ us true H1.out _ HU.out).mono ?_
      rintro e w1 ⟨rfl, hb⟩
      have Hb := Lib.hid hb
      clear hb
      go_wp2_with fail
      refine (specIsPerm_c _ vs true H2.out _ (by have := HV.out.below Hb.out; exact this)).mono ?_
      rintro e w2 ⟨rfl, hb2⟩
      have Hb2 := Lib.hid (below_trans Hb.out hb2)
      clear hb2
      go_wp2_with fail
      refine (specAp_c _ _ ys false H4.out _ (HY.out.below Hb2.out)).mono ?_
      rintro e w3 ⟨rfl, hb3⟩
      have Hb3 := Lib.hid (below_trans Hb2.out hb3)
      clear hb3
      go_wp2_with fail
      go_ret2
      exact No.out _ (by unfold eqOk; rw [H4.out]; simp) Hb3.out
    | true =>
      have H4 := Lib.hid h4
      have hok : eqOk us vs ys = true := by unfold eqOk; rw [H1.out, H2.out, decide_eq_true H3.out, h4]; rfl
      have E := eqIs hok
      rw [eqL_yes hok]
      clear h4 hok No
      obtain ⟨n, hn⟩ : ∃ n, n = us.length := ⟨_, rfl⟩
      rw [← hn] at E H3 H4 hu1 hv1 HU HV ⊢
      have HE := Lib.hid E
      have Hn := Lib.hid hn
      obtain ⟨F, hF⟩ : ∃ F, F = fact n := ⟨_, rfl⟩
      have hf := fact4 E.y.one (show n ≤ 5 by have := E.y.four; omega)
      rw [← hF] at hf
      have HF := Lib.hid hF
      have hyl := E.y.len
      rw [hyl] at hy1 HY ⊢
      clear E hF hn hyl
      go_wp2_with fail
      refine (specIsPerm_c _ us true H1.out _ HU.out).mono ?_
      rintro e w1 ⟨rfl, hb⟩
      have Hb := Lib.hid hb
      clear hb
      go_wp2_with fail
      refine (specIsPerm_c _ vs true H2.out _ (HV.out.below Hb.out)).mono ?_
      rintro e w2 ⟨rfl, hb2⟩
      have Hb2 := Lib.hid (below_trans Hb.out hb2)
      clear hb2
      go_wp2_with fail
      refine (specAp_c _ _ ys true H4.out _ (HY.out.below Hb2.out)).mono ?_
      rintro e w3 ⟨rfl, hb3⟩
      have Hb3 := Lib.hid (below_trans Hb2.out hb3)
      clear hb3
      go_wp2_with fail
      refine (l8Table_any n us ys _ _ w3 HE.out.u HE.out.y.one HE.out.y.len HE.out.y.nine (HU.out.below Hb3.out) (HY.out.below Hb3.out)).mono ?_
      rintro e w4 ⟨ua, rfl, hoa, hb4⟩
      have hla : (tabL us ys).length = F := by rw [tabL_length, HE.out.u.len, HF.out]
      have ha := hoa.fn
      obtain ⟨pa, ka, rfl, hka, hkam⟩ := hoa.shape
      unfold maxLen at hkam
      rw [hla] at ha hka ⊢
      have hs4 := hb4.size
      have HA := Lib.hid ha
      have Hb4 := Lib.hid (below_trans Hb3.out hb4)
      have hs3 := Hb3.out.size
      clear ha hb4 hoa hla
      go_wp2_with fail
      refine (l8Table_any n vs ys _ _ w4 HE.out.v HE.out.y.one HE.out.y.len HE.out.y.nine (HV.out.below Hb4.out) (HY.out.below Hb4.out)).mono ?_
      rintro e w5 ⟨ub, rfl, hob, hb5⟩
      have hlb : (tabL vs ys).length = F := by rw [tabL_length, HE.out.v.len, HF.out]
      have hb' := hob.fn
      obtain ⟨pb, kb, rfl, hkb, hkbm⟩ := hob.shape
      unfold maxLen at hkbm
      rw [hlb] at hb' hkb ⊢
      have hs5 := hb5.size
      have ha5 := HA.out.below hb5
      obtain ⟨ga, rfl, hga1, hga2, hga3⟩ := ha5.at_ (by omega)
      obtain ⟨gb, rfl, hgb1, hgb2, hgb3⟩ := hb'.at_ (by omega)
      have HA5 := Lib.hid ha5
      have HB5 := Lib.hid (show ∀ j, j < F → w5.cell? ⟨gb, j, none⟩ = some (iv (tabL vs ys) j) from fun j hj => hb'.cell hj)
      have Hb5 := Lib.hid (below_trans Hb4.out hb5)
      have hgab : w4.heap.size ≤ gb := hgb1
      clear ha5 hb' hb5 hob hlb HA
      go_wp2_with fail
      go_loopg [10] F (fun g s49 wr => ∃ j : Nat, j ≤ F ∧ g = F - j ∧ s49 = .int .i64 (j : Int) ∧ Hid (Frm w3.heap.size w4.heap.size w5 wr) ∧ Hid (OwnF wr w3.heap.size w4.heap.size 3 (.slice (some ⟨ga, 0, none⟩) F ka) F (fun t => if t < j then iv (mulT n ys us vs) t else iv (tabL us ys) t)))
      case atStart => exact ⟨0, Nat.zero_le _, rfl, rfl, Lib.hid (Frm.refl _ _ _), Lib.hid (HA5.out.congr fun t _ => by rw [if_neg (Nat.not_lt_zero _)])⟩
      case round =>
        obtain ⟨j, hj, rfl, rfl, hfj, hoj⟩ := hrel
        obtain ⟨wz, rfl⟩ : ∃ x : World, x = wr := ⟨_, rfl⟩
        have Hfj := Lib.hid hfj.out
        have Hoj := Lib.hid hoj.out
        clear hfj hoj
        by_cases hjF : j < F
        · have hjFi : (j : Int) < (F : Int) := by omega
          obtain ⟨a, haa⟩ : ∃ a, a = (tabL us ys).getD j 0 := ⟨_, rfl⟩
          obtain ⟨b, hbb⟩ : ∃ b, b = (tabL vs ys).getD j 0 := ⟨_, rfl⟩
          have ca : wz.cell? ⟨ga, j, none⟩ = some (.int .i64 a) := by rw [Hoj.out.cell hjF, if_neg (Nat.lt_irrefl _), haa]; rfl
          have fa : wz.frozen? ⟨ga, j, none⟩ = false := Hoj.out.frozen j
          have cb : wz.cell? ⟨gb, j, none⟩ = some (.int .i64 b) := by
            have := HB5.out j hjF
            unfold World.cell? at this ⊢
            rw [Hfj.out.block gb hgb3 (.inr hgab), hbb]
            exact this
          obtain ⟨M, hM⟩ : ∃ M, M = a * b := ⟨_, rfl⟩
          have hMb : M.natAbs ≤ 1000000 * 1000000 := by rw [hM, haa, hbb]; exact abs_mul2 (tab_bound HE.out.y HE.out.u (by rw [← HF.out]; exact hjF)) (tab_bound HE.out.y HE.out.v (by rw [← HF.out]; exact hjF))
          have hwM : IntKind.i64.wrap (a * b) = M := by rw [← hM, IntKind.wrap_i64]; omega
          have Ha := Lib.hid haa
          have HB := Lib.hid hbb
          have HM := Lib.hid hM
          clear haa hbb hM hMb
          go_wp2_with fail
          go_region
          go_wp2_with fail
          go_roundg (F - (j + 1))
          case measure => omega
          case rel =>
            refine ⟨j + 1, by omega, rfl, by go_num, Lib.hid ?_, Lib.hid ?_⟩
            · exact (Hfj.out.setCell (p := ⟨ga, j, none⟩) hga1 hga2 _).drewN 1
            · have h1 := Hoj.out.set j (.int .i64 M)
              have h2 : OwnF (wz.setCell ⟨ga, j, none⟩ (.int .i64 M)).drew w3.heap.size w4.heap.size 3 (.slice (some ⟨ga, 0, none⟩) F ka) F _ := h1.below ((Below.refl _ _).drew)
              refine h2.congr fun t ht => ?_
              by_cases h3 : t = j
              · rw [if_pos h3, if_pos (by omega), h3]
                unfold iv
                rw [mulT_getD (by rw [← HF.out]; exact hjF), HM.out, Ha.out, HB.out]
              · rw [if_neg h3]
                by_cases h4 : t < j
                · rw [if_pos h4, if_pos (by omega)]
                · rw [if_neg h4, if_neg (by omega)]
        · have hjFi : ¬ (j : Int) < (F : Int) := by omega
          have hjE : j = F := by omega
          have hml : (mulT n ys us vs).length = F := by rw [mulT_length, HF.out]
          have Hmz := Lib.hid (show Ints wz (.slice (some ⟨ga, 0, none⟩) F ka) (mulT n ys us vs) from by
            refine OwnI.ints (T := 3) (lo := w3.heap.size) (hi := w4.heap.size) (OwnF.ints ?_)
            rw [hml]
            exact Hoj.out.congr fun t ht => by rw [if_pos (by omega)])
          have hbz : Below w.heap.size w wz := Hb5.out.trans (Hfj.out.below hs3 Hb5.out.size)
          have Hbz := Lib.hid hbz
          have Hyz := Lib.hid (HY.out.below hbz)
          have Hx := Lib.hid (l8Expand_any n _ _ _ ys wz Hmz.out Hyz.out HE.out.y (mulT_rest HE.out.y HE.out.u HE.out.v))
          skip
          obtain ⟨E', hE'⟩ : ∃ E', E' = expE n (mulT n ys us vs) ys (ordL n) := ⟨_, rfl⟩
          rw [← hE'] at Hx
          have HE' := Lib.hid hE'
          clear hml hbz hE'
          go_wp2_with fail
          refine Hx.out.mono ?_
          rintro e w9 ⟨r, rfl, hor, hbr⟩
          obtain ⟨pr, kr, rfl, _, _⟩ := hor.shape
          have Hor := Lib.hid hor
          have Hbr := Lib.hid hbr
          clear hor hbr Hx
          go_wp2_with fail
          go_ret2
          rw [← HE'.out]
          exact ⟨_, rfl, Hor.out.mono Hbz.out.size (Nat.le_refl _), Hbz.out.trans (Hbr.out.mono Hbz.out.size)⟩
  · have H3 := Lib.hid h3
    have hni : (((us.length : Int)) != (vs.length : Int)) = true := by simp; omega
    clear h3
    go_wp2_with fail
    refine (specIsPerm_c _ us true H1.out _ HU.out).mono ?_
    rintro e w1 ⟨rfl, hb⟩
    have Hb := Lib.hid hb
    clear hb
    go_wp2_with fail
    refine (specIsPerm_c _ vs true H2.out _ (HV.out.below Hb.out)).mono ?_
    rintro e w2 ⟨rfl, hb2⟩
    have Hb2 := Lib.hid (below_trans Hb.out hb2)
    clear hb2
    go_wp2_with fail
    go_ret2
    exact No.out _ (by unfold eqOk; rw [decide_eq_false H3.out]; simp) Hb2.out

end Go.Proofs.Ytajmoclnmphmgaa

namespace Go.Proofs.Ytajmoclnmphmgaa
set_option linter.all false
set_option maxRecDepth 100000
open Go.RowKit

section
variable {n : Nat} {ys : List Int}
theorem pm_mem (h1 : 1 ≤ n) (h4 : n ≤ 4) {u : List Int} (hu : P5 n u) : ∃ x, x < fact n ∧ pmA n x = u := by
  obtain ⟨x, hx, e⟩ := List.mem_iff_getElem.1 (((aL h1 h4).mem u).2 hu)
  rw [permsL_length] at hx
  refine ⟨x, hx, ?_⟩
  unfold pmA
  rw [List.getD_eq_getElem?_getD, List.getElem?_eq_getElem (by rw [permsL_length]; exact hx)]
  exact e
theorem pm_inj (h1 : 1 ≤ n) (h4 : n ≤ 4) {x y : Nat} (hx : x < fact n) (hy : y < fact n) (e : pmA n x = pmA n y) : x = y := by
  have hn := List.pairwise_iff_getElem.1 (aL h1 h4).nodup
  have g : ∀ x (h : x < fact n), pmA n x = (permsL n)[x]'(by rw [permsL_length]; exact h) := fun x h => by
    unfold pmA
    rw [List.getD_eq_getElem?_getD, List.getElem?_eq_getElem (by rw [permsL_length]; exact h)]; rfl
  rw [g x hx, g y hy] at e
  rcases Nat.lt_trichotomy x y with h | h | h
  · exact absurd e (hn x y _ _ h)
  · exact h
  · exact absurd e.symm (hn y x _ _ h)
/-- the numbers of those that are left -/
def lftC (n : Nat) (c : List Int → Int) (done : List Nat) (w : List Int) : Int := if w ∈ done.map (pmA n) then 0 else c w
theorem lftC_snoc (c : List Int → Int) (done : List Nat) (x : Nat) (w : List Int) : lftC n c (done ++ [x]) w = if w = pmA n x then 0 else lftC n c done w := by
  unfold lftC
  by_cases e : w = pmA n x
  · rw [if_pos e, if_pos (by rw [List.map_append, List.mem_append, e]; exact .inr List.mem_cons_self)]
  · rw [if_neg e]
    by_cases h : w ∈ done.map (pmA n)
    · rw [if_pos h, if_pos (by rw [List.map_append, List.mem_append]; exact .inl h)]
    · rw [if_neg h, if_neg (by
        rw [List.map_append, List.mem_append]
        rintro (h' | h')
        · exact h h'
        · exact e (by simpa using h'))]
theorem exGo_exp (hy : YOk n ys) {c : List Int → Int} (hc : ∀ x, x < fact n → (c (pmA n x)).natAbs ≤ 1000000000) : ∀ (l done : List Nat) (rest : List Int) (out : List Cls), done ++ l = ordL n → rest.length = fact n →
    (∀ i, i < fact n → rest.getD i 0 = sumF (fun w => lftC n c done w * FW n ys w (pmA n i)) (permsL n)) →
    exGo n ys l rest out = some (out ++ (l.filter fun x => !decide (c (pmA n x) = 0)).map fun x => (trimL (pmA n x), c (pmA n x)))
  | [], done, rest, out, _, _, _ => by rw [exGo]; simp
  | x :: l, done, rest, out, hd, hl, hr => by
    have OI := ordIs hy.one hy.four
    have A := aL hy.one hy.four
    have hp : (done ++ x :: l).Perm (List.range (fact n)) := by rw [hd]; exact OI.perm
    have hnd : (done ++ x :: l).Nodup := (List.Perm.nodup_iff hp).2 List.nodup_range
    have hx : x < fact n := by simpa using hp.mem_iff.1 (List.mem_append_right _ List.mem_cons_self)
    have hlt : ∀ y ∈ done, y < fact n := fun y hy => by simpa using hp.mem_iff.1 (List.mem_append_left _ hy)
    have hpx := pm_p5 hy hx
    have hxd : pmA n x ∉ done.map (pmA n) := fun h => by
      obtain ⟨y, hyd, e⟩ := List.mem_map.1 h
      have := pm_inj hy.one hy.four (hlt y hyd) hx e
      subst this
      exact (List.nodup_append.1 hnd).2.2 _ hyd _ List.mem_cons_self rfl
    have hasc : ∀ u, P5 n u → lnN u < lnN (pmA n x) → lftC n c done u = 0 := fun u hu hlen => by
      obtain ⟨y, hyF, e⟩ := pm_mem hy.one hy.four hu
      have hyo : y ∈ done ++ x :: l := hp.mem_iff.2 (by simpa using hyF)
      rcases List.mem_append.1 hyo with h | h
      · unfold lftC
        rw [if_pos (List.mem_map.2 ⟨y, h, e⟩)]
      · exfalso
        have hpw := OI.asc
        rw [← hd] at hpw
        have h2 := (List.pairwise_append.1 hpw).2.1
        rw [List.pairwise_cons] at h2
        rw [← e] at hlen
        rcases List.mem_cons.1 h with rfl | h
        · exact absurd hlen (Nat.lt_irrefl _)
        · have := h2.1 y h
          exact absurd hlen (Nat.not_lt.2 this)
    have hcx : lftC n c done (pmA n x) = c (pmA n x) := by unfold lftC; rw [if_neg hxd]
    have hrx : rest.getD x 0 = c (pmA n x) * (tbA n ys x).getD x 0 := by
      rw [hr x hx, sum_at hy.len hy.one hy.four hpx hasc, hcx, tb_at hy hx hx]
    have hT := tb_ne hy hx
    have hq : qoA n ys rest x = c (pmA n x) := by
      unfold qoA
      rw [hrx]
      exact Int.mul_tdiv_cancel _ hT
    have hb := hc x hx
    have hgood : ¬ badA n ys rest x := by
      unfold badA
      rw [hq, hrx]
      omega
    have hd' : (done ++ [x]) ++ l = ordL n := by rw [← hd]; simp
    have hsum : ∀ i, i < fact n → sumF (fun w => lftC n c (done ++ [x]) w * FW n ys w (pmA n i)) (permsL n) = rest.getD i 0 - c (pmA n x) * FW n ys (pmA n x) (pmA n i) := fun i hi => by
      rw [hr i hi, ← sumF_delta (v := pmA n x) (fun w => c w * FW n ys w (pmA n i)) A.nodup ((A.mem _).2 hpx), ← sumF_sub]
      refine sumF_congr fun w _ => ?_
      rw [lftC_snoc]
      by_cases e : w = pmA n x
      · rw [if_pos e, if_pos e, e, hcx]; omega
      · rw [if_neg e, if_neg e]; omega
    rw [exGo, if_neg hgood, hq]
    by_cases h0 : c (pmA n x) = 0
    · rw [if_pos h0, List.filter_cons_of_neg (by simp [h0])]
      exact exGo_exp hy hc l (done ++ [x]) rest out hd' hl fun i hi => by rw [hsum i hi, h0]; omega
    · rw [if_neg h0, List.filter_cons_of_pos (by simp [h0]), List.map_cons]
      rw [exGo_exp hy hc l (done ++ [x]) _ _ hd' (by rw [subL_length]; exact hl) fun i hi => by rw [subL_getD (by rw [hl]; exact hi), hsum i hi, tb_at hy hx hi]]
      simp
theorem lftC_nil (c : List Int → Int) (w : List Int) : lftC n c [] w = c w := by unfold lftC; simp
/-- the classes of a sum, and that it is taken apart whole -/
def sumC (n : Nat) (c : List Int → Int) : List Cls := srtC (((ordL n).filter fun x => !decide (c (pmA n x) = 0)).map fun x => (trimL (pmA n x), c (pmA n x)))
theorem expE_sum (hy : YOk n ys) {c f : List Int → Int} (h : Ex n ys f c) (hc : ∀ w, P5 n w → (c w).natAbs ≤ 1000000000) {vs : List Int} (hl : vs.length = fact n) (hf : ∀ i, i < fact n → vs.getD i 0 = f (pmA n i)) :
    expE n vs ys (ordL n) = (sumC n c, true) := by
  unfold expE
  rw [exGo_exp hy (fun x hx => hc _ (pm_p5 hy hx)) (ordL n) [] vs [] rfl hl fun i hi => by
    rw [hf i hi, h _ (pm_p5 hy hi)]
    exact sumF_congr fun w _ => by rw [lftC_nil]]
  rfl
theorem filter_one : ∀ (l : List Nat) (x : Nat), l.Nodup → x ∈ l → (l.filter fun y => decide (y = x)) = [x]
  | [], _, _, h => by cases h
  | y :: l, x, hn, h => by
    rw [List.nodup_cons] at hn
    by_cases e : y = x
    · rw [List.filter_cons_of_pos (by simpa using e), e]
      congr 1
      rw [List.filter_eq_nil_iff]
      intro z hz
      simp only [decide_eq_true_eq]
      exact fun e2 => hn.1 (by rw [e, ← e2]; exact hz)
    · rw [List.filter_cons_of_neg (by simpa using e)]
      exact filter_one l x hn.2 ((List.mem_cons.1 h).resolve_left fun e2 => e e2.symm)
/-- a permutation's own values are taken apart as itself -/
theorem expE_self (hy : YOk n ys) {u : List Int} (hu : P5 n u) : expE n (tabL u ys) ys (ordL n) = ([(trimL u, 1)], true) := by
  rw [expE_sum hy (Ex.one hy.one hy.four hu) (fun w _ => by split <;> decide) (by rw [tabL_length, hu.len]) fun i hi => tab_at hy hu hi]
  obtain ⟨x, hx, e⟩ := pm_mem hy.one hy.four hu
  have OI := ordIs hy.one hy.four
  have hf : ((ordL n).filter fun y => !decide ((if pmA n y = u then (1 : Int) else 0) = 0)) = [x] := by
    rw [← filter_one (ordL n) x ((List.Perm.nodup_iff OI.perm).2 List.nodup_range) (OI.perm.mem_iff.2 (by simpa using hx))]
    refine List.filter_congr fun y hyo => ?_
    have hyF : y < fact n := by simpa using OI.perm.mem_iff.1 hyo
    by_cases h : y = x
    · rw [h, if_pos e]; simp
    · rw [if_neg fun h' => h (pm_inj hy.one hy.four hyF hx (by rw [h', e]))]; simp [h]
  unfold sumC
  rw [hf]
  simp only [List.map_cons, List.map_nil, e, if_true]
  rfl
/-- products are taken apart whole -/
theorem expE_prod (hy : YOk n ys) {u v : List Int} (hu : P5 n u) (hv : P5 n v) : ∃ c, Ex n ys (fun p => FW n ys u p * FW n ys v p) c ∧ (∀ w, P5 n w → (c w).natAbs ≤ 28 ^ lnN w) ∧ expE n (mulT n ys u v) ys (ordL n) = (sumC n c, true) := by
  obtain ⟨c, hc⟩ := Ex.prod hy.len hy.one hy.four u hv
  have hb : ∀ w, P5 n w → (c w).natAbs ≤ 28 ^ lnN w := fun w hw => prod_bound hy.len hy.one hy.four hy.dst hy.nine _ w u v c rfl hw hu hv hc
  refine ⟨c, hc, hb, expE_sum hy hc (fun w hw => ?_) (mulT_length n ys u v) fun i hi => by rw [mulT_getD hi, tab_at hy hu hi, tab_at hy hv hi]⟩
  have h6 : lnN w ≤ 6 := by
    have h1 := (wrd_at hw).2.2.2
    have h4 := hy.four
    have h2 : n * (n - 1) ≤ 4 * 3 := Nat.mul_le_mul h4 (by omega)
    omega
  exact Nat.le_trans (hb w hw) (Nat.le_trans (Nat.pow_le_pow_right (by omega) h6) (by decide))
end

end Go.Proofs.Ytajmoclnmphmgaa

namespace Go.Proofs.Ytajmoclnmphmgaa
set_option linter.all false
set_option maxRecDepth 100000
open Go.RowKit

/-- the permutations one longer, by an exchange of a place up to k with one behind it -/
def cvK (v : List Int) (k : Nat) : List (List Int) := (List.range (k + 1)).flatMap fun a => ((List.range v.length).filter fun b => decide (k < b) && decide (lnN (swapL v a b) = lnN v + 1)).map fun b => swapL v a b
def upK (v : List Int) (k : Nat) : List (List Int) := (List.range (k + 1)).flatMap fun i => cvUp v i
def dnK (v : List Int) (k : Nat) : List (List Int) := (List.range (k + 1)).flatMap fun i => cvDn v i
def cvB (v : List Int) : Bool := (List.range (v.length - 1)).all fun k => (upK v k).isPerm (dnK v k ++ cvK v k) && decide (cvK v k).Nodup && (cvK v k).all (fun u => permOk u && decide (u.length = v.length) && decide (u ≠ v)) && decide (cvK (idL v.length) k = [sw k (idL v.length)])
set_option maxRecDepth 100000 in
theorem cv_all : all5 cvB = true := by decide +kernel
structure CvIs (n : Nat) (v : List Int) (k : Nat) : Prop where
  perm : (upK v k).Perm (dnK v k ++ cvK v k)
  nodup : (cvK v k).Nodup
  p5 : ∀ u ∈ cvK v k, P5 n u ∧ u ≠ v
  id : cvK (idL n) k = [Go.Proofs.Ytajmoclnmphmgaa.sw k (idL n)]
theorem cv_at {n : Nat} {v : List Int} (hv : P5 n v) {k : Nat} (hk : k + 1 < n) : CvIs n v k := by
  have := all5_at cv_all hv.ok (by have := hv.len; have := hv.le; omega)
  simp only [cvB, List.all_eq_true, List.mem_range, Bool.and_eq_true, decide_eq_true_eq] at this
  obtain ⟨⟨⟨a, b⟩, c⟩, d⟩ := this k (by rw [hv.len]; omega)
  rw [hv.len] at d
  exact ⟨List.isPerm_iff.1 a, b, fun u hu => ⟨⟨(c u hu).1.1, by rw [(c u hu).1.2, hv.len], hv.le⟩, (c u hu).2⟩, d⟩

section
variable {n : Nat} {ys : List Int}
/-- the sum of the numbers up to k, as a permutation has them, less the numbers themselves -/
def xK (ys v : List Int) : Nat → Int
  | 0 => 0
  | i + 1 => xK ys v i + (yAt ys v i - ys.getD i 0)
theorem sumF_flat (F : List Int → Int) (g : Nat → List (List Int)) : ∀ m, sumF F ((List.range (m + 1)).flatMap g) = sumF F ((List.range m).flatMap g) + sumF F (g m) := fun m => by
  rw [List.range_succ, List.flatMap_append, sumF_append]
  simp
theorem chevK (hy : ys.length = n) (h1 : 1 ≤ n) {p v : List Int} (hp : P5 n p) (hv : P5 n v) : ∀ k, k < n →
    xK ys p (k + 1) * FW n ys v p = xK ys v (k + 1) * FW n ys v p + sumF (fun u => FW n ys u p) (upK v k) - sumF (fun u => FW n ys u p) (dnK v k)
  | 0, hk => by
    have h := chev hy h1 _ p rfl hp v 0 hv hk
    have e1 : upK v 0 = cvUp v 0 := by unfold upK; simp
    have e2 : dnK v 0 = cvDn v 0 := by unfold dnK; simp
    rw [e1, e2]
    simp only [xK]
    rw [show (0 + (yAt ys p 0 - ys.getD 0 0)) * FW n ys v p = yAt ys p 0 * FW n ys v p - ys.getD 0 0 * FW n ys v p by grind, h]
    grind
  | k + 1, hk => by
    have ih := chevK hy h1 hp hv k (by omega)
    have h := chev hy h1 _ p rfl hp v (k + 1) hv hk
    have e1 : sumF (fun u => FW n ys u p) (upK v (k + 1)) = sumF (fun u => FW n ys u p) (upK v k) + sumF (fun u => FW n ys u p) (cvUp v (k + 1)) := sumF_flat _ _ _
    have e2 : sumF (fun u => FW n ys u p) (dnK v (k + 1)) = sumF (fun u => FW n ys u p) (dnK v k) + sumF (fun u => FW n ys u p) (cvDn v (k + 1)) := sumF_flat _ _ _
    rw [e1, e2]
    show (xK ys p (k + 1) + (yAt ys p (k + 1) - ys.getD (k + 1) 0)) * FW n ys v p = (xK ys v (k + 1) + (yAt ys v (k + 1) - ys.getD (k + 1) 0)) * FW n ys v p + _ - _
    rw [show (xK ys p (k + 1) + (yAt ys p (k + 1) - ys.getD (k + 1) 0)) * FW n ys v p = xK ys p (k + 1) * FW n ys v p + (yAt ys p (k + 1) * FW n ys v p - ys.getD (k + 1) 0 * FW n ys v p) by grind, ih, h]
    grind
/-- the rule for the sums -/
theorem chevC (hy : ys.length = n) (h1 : 1 ≤ n) {p v : List Int} (hp : P5 n p) (hv : P5 n v) {k : Nat} (hk : k + 1 < n) :
    xK ys p (k + 1) * FW n ys v p = xK ys v (k + 1) * FW n ys v p + sumF (fun u => FW n ys u p) (cvK v k) := by
  have h := chevK hy h1 hp hv k (by omega)
  have hs := sumF_perm (fun u => FW n ys u p) (cv_at hv hk).perm
  rw [sumF_append] at hs
  omega
theorem FW_idL (hy : ys.length = n) (h1 : 1 ≤ n) (h5 : n ≤ 5) : ∀ (t : Nat) (p : List Int), lnN p = t → P5 n p → FW n ys (idL n) p = 1 := by
  have hi := P5.id h1 h5
  intro t
  induction t with
  | zero =>
    intro p ht hp
    rw [id_of_len hp ht, FW_id hy h1 hi, if_pos rfl]
  | succ t ih =>
    intro p ht hp
    obtain ⟨k, hk, hd⟩ : ∃ k, k + 1 < n ∧ ascB k p = false := ((blid_at hp).2).resolve_left (by omega)
    have hl := len_desc hp hk hd
    have ss : sw k (sw k p) = p := sw_sw (by have := hp.len; omega)
    have hr := FW_rec (ys := ys) hi (hp.sw hk) hk
    rw [ss] at hr
    have ha : ascB k (idL n) = true := by
      unfold ascB
      rw [idL_getD (by omega), idL_getD hk]
      exact decide_eq_true (by omega)
    rw [hr, ha, if_pos rfl, ih _ (by omega) (hp.sw hk)]; omega
theorem xK_id (ys : List Int) {n : Nat} : ∀ k, k ≤ n → xK ys (idL n) k = 0
  | 0, _ => rfl
  | k + 1, h => by
    rw [xK, xK_id ys k (by omega)]
    unfold yAt
    rw [idL_getD (by omega), Int.toNat_natCast]; omega
/-- the values of an exchange of neighbours -/
theorem FW_s (hy : ys.length = n) (h1 : 1 ≤ n) (h5 : n ≤ 5) {p : List Int} (hp : P5 n p) {k : Nat} (hk : k + 1 < n) : FW n ys (sw k (idL n)) p = xK ys p (k + 1) := by
  have hi := P5.id h1 h5
  have h := chevC hy h1 hp hi hk
  rw [(cv_at hi hk).id, FW_idL hy h1 h5 _ p rfl hp, xK_id ys (k + 1) (by omega), sumF_cons, sumF_nil] at h
  omega
/-- the numbers of the product -/
def chC (ys v : List Int) (k : Nat) (w : List Int) : Int := (if w = v then xK ys v (k + 1) else 0) + (((cvK v k).count w : Nat) : Int)
theorem chC_ex (hy : ys.length = n) (h1 : 1 ≤ n) (h4 : n ≤ 4) {v : List Int} (hv : P5 n v) {k : Nat} (hk : k + 1 < n) : Ex n ys (fun p => FW n ys (sw k (idL n)) p * FW n ys v p) (chC ys v k) := fun p hp => by
  have A := aL h1 h4
  have C := cv_at hv hk
  dsimp only
  rw [FW_s hy h1 (by omega) hp hk, chevC hy h1 hp hv hk, sumF_count _ A.nodup fun u hu => (A.mem u).2 (C.p5 u hu).1, ← sumF_delta (v := v) (fun w => xK ys v (k + 1) * FW n ys w p) A.nodup ((A.mem v).2 hv), ← sumF_add]
  refine sumF_congr fun w _ => ?_
  unfold chC
  by_cases e : w = v
  · rw [if_pos e, if_pos e, Int.add_mul]
  · rw [if_neg e, if_neg e, Int.zero_add, Int.zero_add]
theorem count_one : ∀ {l : List (List Int)} {a : List Int}, l.Nodup → a ∈ l → l.count a = 1
  | [], _, _, h => by cases h
  | x :: l, a, hn, h => by
    rw [List.nodup_cons] at hn
    rw [List.count_cons]
    by_cases e : x = a
    · rw [List.count_eq_zero_of_not_mem (by rw [← e]; exact hn.1), if_pos (by simpa using e)]
    · rw [count_one hn.2 ((List.mem_cons.1 h).resolve_left fun e2 => e e2.symm), if_neg (by simpa using e)]
theorem chC_at {v : List Int} (hv : P5 n v) {k : Nat} (hk : k + 1 < n) : chC ys v k v = xK ys v (k + 1) ∧ ∀ w ∈ cvK v k, chC ys v k w = 1 := by
  have C := cv_at hv hk
  refine ⟨?_, fun w hw => ?_⟩
  · unfold chC
    rw [if_pos rfl, List.count_eq_zero_of_not_mem fun h => (C.p5 v h).2 rfl]; simp
  · unfold chC
    rw [if_neg (C.p5 w hw).2, count_one C.nodup hw]; rfl
end

end Go.Proofs.Ytajmoclnmphmgaa

namespace Go.Proofs.Ytajmoclnmphmgaa
set_option linter.all false
set_option maxRecDepth 100000
open Go.RowKit

/-- the number of a class, 0 where there is none -/
def inC : List Cls → List Int → Int
  | [], _ => 0
  | c :: cs, t => if c.1 = t then c.2 else inC cs t
theorem inC_not : ∀ {cs : List Cls} {t : List Int}, t ∉ cs.map (·.1) → inC cs t = 0
  | [], _, _ => rfl
  | c :: cs, t, h => by
    rw [List.map_cons, List.mem_cons] at h
    rw [inC, if_neg fun e => h (.inl e.symm)]
    exact inC_not fun e => h (.inr e)
theorem inC_mem : ∀ {cs : List Cls} {t : List Int} {m : Int}, (cs.map (·.1)).Nodup → (t, m) ∈ cs → inC cs t = m
  | [], _, _, _, h => by cases h
  | c :: cs, t, m, hn, h => by
    rw [List.map_cons, List.nodup_cons] at hn
    rw [inC]
    rcases List.mem_cons.1 h with h | h
    · rw [← h, if_pos rfl]
    · rw [if_neg fun e => hn.1 (by rw [e]; exact List.mem_map.2 ⟨_, h, rfl⟩)]
      exact inC_mem hn.2 h
section
variable {n : Nat} {ys : List Int}
theorem sumC_nodup (h1 : 1 ≤ n) (h4 : n ≤ 4) (c : List Int → Int) : ((sumC n c).map (·.1)).Nodup := by
  have OI := ordIs h1 h4
  unfold sumC
  refine (List.Perm.nodup_iff ((srtC_perm _).map _)).2 ?_
  rw [List.map_map]
  have hs : ((ordL n).map fun x => trimL (pmA n x)).Nodup := (List.Perm.nodup_iff (OI.perm.map _)).2 (trim_nodup h1 h4)
  exact List.Nodup.sublist (List.Sublist.map _ List.filter_sublist) hs
theorem trim_inj (h1 : 1 ≤ n) (h4 : n ≤ 4) {u w : List Int} (hu : P5 n u) (hw : P5 n w) (h : trimL u = trimL w) : u = w := by
  obtain ⟨x, hx, ex⟩ := pm_mem h1 h4 hu
  obtain ⟨y, hy, ey⟩ := pm_mem h1 h4 hw
  have hn := List.pairwise_iff_getElem.1 (trim_nodup h1 h4)
  have key : ∀ a b, a < b → b < fact n → trimL (pmA n a) ≠ trimL (pmA n b) := fun a b hab hb => by
    have := hn a b (by simp; omega) (by simp; omega) hab
    simpa using this
  rw [← ex, ← ey] at h ⊢
  rcases Nat.lt_trichotomy x y with hxy | hxy | hxy
  · exact absurd h (key x y hxy hy)
  · rw [hxy]
  · exact absurd h.symm (key y x hxy hx)
/-- the number behind a permutation is found -/
theorem sumC_in (h1 : 1 ≤ n) (h4 : n ≤ 4) (c : List Int → Int) {w : List Int} (hw : P5 n w) : inC (sumC n c) (trimL w) = c w := by
  have OI := ordIs h1 h4
  obtain ⟨x, hx, e⟩ := pm_mem h1 h4 hw
  by_cases h0 : c w = 0
  · rw [h0]
    refine inC_not fun hm => ?_
    obtain ⟨q, hq, e1⟩ := List.mem_map.1 hm
    have hq' := (srtC_perm _).mem_iff.1 hq
    obtain ⟨y, hy, e2⟩ := List.mem_map.1 hq'
    obtain ⟨hyo, hyc⟩ := List.mem_filter.1 hy
    have hyF : y < fact n := by simpa using OI.perm.mem_iff.1 hyo
    rw [← e2] at e1
    have := trim_inj h1 h4 (prm_p5 h1 (by omega) hyF) hw e1
    rw [show pmA n y = w from this, h0] at hyc
    simp at hyc
  · refine inC_mem (sumC_nodup h1 h4 c) ((srtC_perm _).mem_iff.2 (List.mem_map.2 ⟨x, List.mem_filter.2 ⟨OI.perm.mem_iff.2 (by simpa using hx), by rw [e]; simpa using h0⟩, by rw [e]⟩))
theorem len_filter : ∀ (L : List (List Int)) (q : List Int → Bool), ((L.filter q).length : Int) = sumF (fun w => if q w then 1 else 0) L
  | [], _ => rfl
  | x :: L, q => by
    rw [sumF_cons, ← len_filter L q]
    cases h : q x with
    | true => rw [List.filter_cons_of_pos h]; simp; omega
    | false => rw [List.filter_cons_of_neg (by rw [h]; decide)]; simp
theorem sumF_ones : ∀ L : List (List Int), sumF (fun _ => 1) L = (L.length : Int)
  | [] => rfl
  | x :: L => by rw [sumF_cons, sumF_ones L]; simp; omega
theorem perms_map (n : Nat) : (List.range (fact n)).map (pmA n) = permsL n := by
  apply List.ext_getElem?
  intro i
  rw [List.getElem?_map]
  by_cases hi : i < fact n
  · rw [List.getElem?_range hi, Option.map_some]
    unfold pmA
    rw [List.getD_eq_getElem?_getD, List.getElem?_eq_getElem (by rw [permsL_length]; exact hi)]; rfl
  · rw [List.getElem?_eq_none (by simp; omega), List.getElem?_eq_none (by rw [permsL_length]; omega)]; rfl
theorem sumC_len (h1 : 1 ≤ n) (h4 : n ≤ 4) (c : List Int → Int) : ((sumC n c).length : Int) = sumF (fun w => if c w = 0 then 0 else 1) (permsL n) := by
  have OI := ordIs h1 h4
  unfold sumC
  rw [(srtC_perm _).length_eq, List.length_map, (OI.perm.filter _).length_eq]
  have e : ((List.range (fact n)).filter fun x => !decide (c (pmA n x) = 0)).length = ((permsL n).filter fun w => !decide (c w = 0)).length := by
    rw [← perms_map n, List.filter_map, List.length_map]; rfl
  rw [e, len_filter]
  refine sumF_congr fun w _ => ?_
  by_cases h : c w = 0 <;> simp [h]
/-- how many classes the product with an exchange has -/
theorem chC_len (h1 : 1 ≤ n) (h4 : n ≤ 4) {v : List Int} (hv : P5 n v) {k : Nat} (hk : k + 1 < n) : ((sumC n (chC ys v k)).length : Int) = (if xK ys v (k + 1) = 0 then 0 else 1) + ((cvK v k).length : Int) := by
  have A := aL h1 h4
  have C := cv_at hv hk
  rw [sumC_len h1 h4, ← sumF_ones (cvK v k), sumF_count (fun _ => 1) A.nodup fun u hu => (A.mem u).2 (C.p5 u hu).1,
    ← sumF_delta (v := v) (fun _ => if xK ys v (k + 1) = 0 then (0 : Int) else 1) A.nodup ((A.mem v).2 hv), ← sumF_add]
  refine sumF_congr fun w _ => ?_
  by_cases e : w = v
  · have hc0 : (cvK v k).count w = 0 := by rw [e]; exact List.count_eq_zero_of_not_mem fun h => (C.p5 v h).2 rfl
    rw [if_pos e, hc0]
    rw [e, (chC_at (ys := ys) hv hk).1]
    simp
  · rw [if_neg e]
    by_cases hm : w ∈ cvK v k
    · rw [count_one C.nodup hm, (chC_at (ys := ys) hv hk).2 w hm]; simp
    · rw [List.count_eq_zero_of_not_mem hm]
      have : chC ys v k w = 0 := by unfold chC; rw [if_neg e, List.count_eq_zero_of_not_mem hm]; rfl
      rw [this]; simp
end

end Go.Proofs.Ytajmoclnmphmgaa

namespace Go.Proofs.Ytajmoclnmphmgaa
set_option linter.all false
open Go.RowKit

theorem blk3 {w : World} {b : Nat} {x0 x1 x2 : Value} {T : TypeId} (h : w.heap[b]? = some (.cells #[x0, x1, x2] T (0, 0))) :
    w.cell? ⟨b, 0, none⟩ = some x0 ∧ w.cell? ⟨b, 1, none⟩ = some x1 ∧ w.cell? ⟨b, 2, none⟩ = some x2 ∧ (∀ j, w.frozen? ⟨b, j, none⟩ = false) ∧ b < w.heap.size :=
  ⟨cell_of_blk h rfl, cell_of_blk h rfl, cell_of_blk h rfl, free_of_blk h, (Array.getElem?_eq_some_iff.1 h).1⟩

theorem and255 (x : Int) : 0 ≤ bits .and .i64 x 255 ∧ bits .and .i64 x 255 ≤ 255 := by
  have h1 : (BitVec.ofInt 64 x).toNat &&& 255 < 2 ^ 8 := Nat.and_lt_two_pow _ (by decide)
  have e : bits .and .i64 x 255 = IntKind.i64.wrap (((BitVec.ofInt 64 x).toNat &&& 255 : Nat) : Int) := by
    simp only [bits, BitVec.toNat_and]
    rfl
  have e2 : IntKind.i64.wrap (((BitVec.ofInt 64 x).toNat &&& 255 : Nat) : Int) = (((BitVec.ofInt 64 x).toNat &&& 255 : Nat) : Int) := k64 (by omega) (by omega)
  rw [e, e2]
  omega

/-- bytes that can be read -/
def Byts (w : World) (v : Value) (n : Nat) : Prop := ∃ f : Nat → Int, Rd w v n fun j => .int .u8 (f j)
theorem Byts.below {w w' : World} {v : Value} {n : Nat} (h : Byts w v n) (hb : Below w.heap.size w w') : Byts w' v n := by
  obtain ⟨f, h⟩ := h
  exact ⟨f, h.below hb⟩

theorem Byts.frm {w w' : World} {p : Option Addr} {n cap k : Nat} (h : Byts w (.slice p n cap) n) (hf : Frm k (k + 1) w w') (hne : 0 < n → ∀ a, p = some a → a.block < k) : Byts w' (.slice p n cap) n := by
  obtain ⟨f, p', cap', e, hm, hx⟩ := h
  injection e with e1 _ e3
  subst e1 e3
  refine ⟨f, p, cap, rfl, hm, fun h0 => ?_⟩
  obtain ⟨b, off, hp, hc⟩ := hx h0
  refine ⟨b, off, hp, fun j hj => ?_⟩
  have hb := World.block_lt_of_cell? w _ (hc j hj)
  have h1 := hne h0 _ hp
  rw [World.cell?_of_block (w := w) (hf.block b hb (by dsimp only at h1; omega))]
  exact hc j hj

/-- the cursor in block k -/
def Cur (w : World) (k : Nat) : Prop :=
  ∃ (p : Option Addr) (n cap i : Nat) (h : Int), w.heap[k]? = some (.cells #[.slice p n cap, .int .i64 (i : Int), .int .i64 h] 79 (0, 0)) ∧ i ≤ n ∧ Byts w (.slice p n cap) n ∧ (0 < n → ∀ a, p = some a → a.block < k)
theorem Cur.lt {w : World} {k : Nat} (h : Cur w k) : k < w.heap.size := by
  obtain ⟨_, _, _, _, _, h, _⟩ := h
  exact blk_lt h
theorem Cur.keepB {w w' : World} {k B : Nat} (h : Cur w k) (hb : Below B w w') (hB : k < B) : Cur w' k := by
  have hk := h.lt
  obtain ⟨p, n, cap, i, x, h1, h2, ⟨f, p', cap', e, hm, h3⟩, h4⟩ := h
  injection e with e1 _ e3
  subst e1 e3
  refine ⟨p, n, cap, i, x, by rw [hb.block k hB]; exact h1, h2, ⟨f, p, cap, rfl, hm, fun h0 => ?_⟩, h4⟩
  obtain ⟨b, off, hp, hc⟩ := h3 h0
  have hlt := h4 h0 _ hp
  dsimp only at hlt
  exact ⟨b, off, hp, fun j hj => by rw [World.cell?_of_block (w := w) (hb.block b (by omega))]; exact hc j hj⟩
theorem Frm.thenB {lo hi B : Nat} {a b c : World} (h : Frm lo hi a b) (hb : Below B b c) (hB : a.heap.size ≤ B) : Frm lo hi a c :=
  ⟨hb.os.trans h.os, hb.tape.trans h.tape, hb.output.trans h.output, Nat.le_trans h.size hb.size, fun k hk ho => (hb.block k (by omega)).trans (h.block k hk ho)⟩
theorem OwnI.setOther {T : TypeId} {w : World} {lo hi : Nat} {v : Value} {xs : List Int} (h : OwnI T w lo hi v xs) {a : Addr} (hne : v.ownBlock ≠ some a.block) (u : Value) : OwnI T (w.setCell a u) lo hi v xs :=
  ⟨ownsRow_of_block h.1 fun b hb => Below.heap_setCell _ _ _ _ fun e => hne (by rw [hb, e]), h.2⟩
theorem Cur.below {w w' : World} {k : Nat} (h : Cur w k) (hb : Below w.heap.size w w') : Cur w' k := by
  obtain ⟨p, n, cap, i, x, h1, h2, h3, h4⟩ := h
  exact ⟨p, n, cap, i, x, blk_later h1 hb, h2, h3.below hb, h4⟩

set_option maxRecDepth 100000 in
set_option maxHeartbeats 2000000 in
theorem l1Byte_any (k : Nat) (w : World) (h : Cur w k) :
    Calls Try.prog 75 #[.pointer (some ⟨k, 0, none⟩)] w fun e w' => ∃ x : Int, e = .returned (.int .i64 x) ∧ 0 ≤ x ∧ x ≤ 255 ∧ Cur w' k ∧ Frm k (k + 1) w w' := by
  obtain ⟨p, n, cap, i, x, h1, h2, ⟨f, h3⟩, h4⟩ := h
  obtain ⟨c0, c1, c2, cf, cz⟩ := blk3 h1
  obtain ⟨_, _, e, ⟨hx1, hx2⟩, hxc⟩ := h3
  injection e with e1 e2 e3
  subst e1 e3
  unfold maxLen at hx2
  have Hxc := Lib.hid hxc
  clear hxc e2
  go_enter Try.func75, Try.ntmps75
  go_wp2_with fail
  go_quiet (fail)
  obtain ⟨X, hX⟩ : ∃ X, X = wrap64 (wrap64 (x * 6364136223846793005) + 1442695040888963407) := ⟨_, rfl⟩
  rw [← hX]
  obtain ⟨Y, hY⟩ : ∃ Y, Y = bits BinOp.and IntKind.i64 (bits BinOp.xor IntKind.i64 (X / 8589934592) (X / 35184372088832)) 255 := ⟨_, rfl⟩
  rw [← hY]
  have hY2 := and255 (bits BinOp.xor IntKind.i64 (X / 8589934592) (X / 35184372088832))
  rw [← hY] at hY2
  clear hX hY
  have hf2 : Frm k (k + 1) w ((w.setCell ⟨k, 2, none⟩ (.int .i64 X)).drewN nq) := ((Frm.refl k (k + 1) w).setCell (Nat.le_refl _) (Nat.lt_succ_self _) _).drewN nq
  have hh2 : ((w.setCell ⟨k, 2, none⟩ (.int .i64 X)).drewN nq).heap[k]? = some (.cells #[.slice p n cap, .int .i64 (i : Int), .int .i64 X] 79 (0, 0)) := heap_setCell_at h1 2 _
  have hB2 : Byts ((w.setCell ⟨k, 2, none⟩ (.int .i64 X)).drewN nq) (.slice p n cap) n := Byts.frm ⟨f, _, _, rfl, ⟨hx1, by unfold maxLen; omega⟩, Hxc.out⟩ hf2 h4
  generalize (w.setCell ⟨k, 2, none⟩ (.int .i64 X)).drewN nq = w2 at *
  clear c0 c1 c2 cf cz Hxc f
  obtain ⟨c0, c1, c2, cf, cz⟩ := blk3 hh2
  have HB2 := Lib.hid hB2
  have Hf2 := Lib.hid hf2
  obtain ⟨f, p', cap', e, _, hxc⟩ := hB2
  injection e with e1 _ e3
  subst e1 e3
  clear hf2
  by_cases hlt : i < n
  · obtain ⟨b, off, rfl, hc⟩ := hxc (by omega)
    have cb := hc i hlt
    have hlt2 : (i : Int) < (n : Int) := by omega
    clear hxc hc
    go_wp2_with fail
    go_quiet (fail)
    go_wp2_with fail
    go_quiet (fail)
    obtain ⟨Z, hZ⟩ : ∃ Z, Z = bits BinOp.and IntKind.i64 (wrap64 (Y + wrap64 (f i))) 255 := ⟨_, rfl⟩
    rw [← hZ]
    have hZ2 := and255 (wrap64 (Y + wrap64 (f i)))
    rw [← hZ] at hZ2
    clear hZ
    have hcast : (i : Int) + 1 = ((i + 1 : Nat) : Int) := by omega
    have Hcast := Lib.hid hcast
    clear hcast
    go_wp2_with fail
    go_ret
    rw [Hcast.out]
    refine ⟨Z, rfl, hZ2.1, hZ2.2, ⟨_, n, cap, i + 1, X, by exact heap_setCell_at hh2 1 _, by omega, ?_, h4⟩, ?_⟩
    · exact HB2.out.frm (k := k) (Frm.setCell ((Frm.refl k (k + 1) w2).drewN _) (Nat.le_refl k) (Nat.lt_succ_self k) _) h4
    · exact Frm.setCell (Hf2.out.drewN _) (Nat.le_refl k) (Nat.lt_succ_self k) _
  · have hlt2 : ¬ (i : Int) < (n : Int) := by omega
    clear hxc
    go_wp2_with fail
    go_quiet (fail)
    go_wp2_with fail
    go_ret
    exact ⟨Y, rfl, hY2.1, hY2.2, ⟨p, n, cap, i, X, hh2, h2, HB2.out.frm (k := k) ((Frm.refl k (k + 1) w2).drewN _) h4, h4⟩, Hf2.out.drewN _⟩

set_option maxRecDepth 100000 in
set_option maxHeartbeats 2000000 in
/-- a number from 0 to m - 1, where m is not great -/
theorem l1Below_any (k m : Nat) (w : World) (h : Cur w k) (h0 : 1 ≤ m) (hm : m ≤ 256) :
    Calls Try.prog 44 #[.pointer (some ⟨k, 0, none⟩), .int .i64 (m : Int)] w fun e w' => ∃ x : Nat, e = .returned (.int .i64 (x : Int)) ∧ x < m ∧ Cur w' k ∧ Frm k (k + 1) w w' := by
  have Hc := Lib.hid h
  clear h
  go_enter Try.func44, Try.ntmps44
  go_wp2_with fail
  refine (l1Byte_any k _ Hc.out).mono ?_
  rintro e w1 ⟨x, rfl, hx0, hx1, hc1, hf1⟩
  obtain ⟨X, rfl⟩ := Int.eq_ofNat_of_zero_le hx0
  have Hc1 := Lib.hid hc1
  have Hf1 := Lib.hid hf1
  clear hc1 hf1
  go_wp2_with fail
  go_ret
  exact ⟨X % m, ret_int (Int.natCast_emod X m).symm, Nat.mod_lt _ (by omega), Hc1.out, Hf1.out⟩

set_option maxRecDepth 100000 in
set_option maxHeartbeats 2000000 in
theorem l1Once_any (k m : Nat) (w : World) (h : Cur w k) (h0 : 1 ≤ m) (hm : m ≤ 256) :
    Calls Try.prog 46 #[.pointer (some ⟨k, 0, none⟩), .int .i64 (m : Int)] w fun e w' => ∃ b : Bool, e = .returned (.bool b) ∧ Cur w' k ∧ Frm k (k + 1) w w' := by
  have Hc := Lib.hid h
  clear h
  go_enter Try.func46, Try.ntmps46
  go_wp2_with fail
  refine (l1Below_any k m _ Hc.out h0 hm).mono ?_
  rintro e w1 ⟨x, rfl, hx, hc1, hf1⟩
  go_wp2_with fail
  go_ret
  exact ⟨_, rfl, hc1, hf1⟩

end Go.Proofs.Ytajmoclnmphmgaa

namespace Go.Proofs.Ytajmoclnmphmgaa
set_option linter.all false
open Go.RowKit

set_option maxRecDepth 100000 in
set_option maxHeartbeats 400000 in
theorem lawInts_any (v1 v2 : Value) (xs ys : List Int) (w : World) (h1 : Ints w v1 xs) (h2 : Ints w v2 ys) :
    Calls Try.prog 55 #[v1, v2] w fun e w' => e = .returned (.bool (decide (xs = ys))) ∧ Qt w w' := by
  obtain ⟨p, cap, rfl, ⟨hx1, hx⟩, hxc⟩ := h1
  obtain ⟨q, cap', rfl, ⟨hy1, hy⟩, hyc⟩ := h2
  unfold maxLen at hx hy
  by_cases hl : xs.length = ys.length
  · have e1 : ((xs.length : Int) != (ys.length : Int)) = false := by simp [hl]
    have Hl := Lib.hid hl
    clear hl
    go_enter Try.func55, Try.ntmps55
    go_wp2
    clear e1
    go_loopg [5] xs.length (fun g i wr => ∃ k : Nat, k ≤ xs.length ∧ g = xs.length - k ∧ i = .int .i64 k ∧ Qt w wr ∧ Hid (∀ j, j < k → xs.getD j 0 = ys.getD j 0))
    case atStart => exact ⟨0, Nat.zero_le _, rfl, rfl, Qt.refl _, fun j hj => absurd hj (Nat.not_lt_zero _)⟩
    case round =>
      obtain ⟨k, hk, rfl, rfl, hq, hp⟩ := hrel
      by_cases hlt : k < xs.length
      · obtain ⟨b, off, rfl, hc⟩ := hxc (by omega)
        have hl := Hl.out
        obtain ⟨b', off', rfl, hc'⟩ := hyc (by omega)
        have c1 := hq.cell (hc k hlt)
        have c2 := hq.cell (hc' k (by omega))
        have hk2 : k < ys.length := by omega
        unfold iv at c1 c2
        clear hl hxc hyc hc hc'
        go_wp2
        go_quiet (fail)
        go_wp2
        · have ht : (xs[k] != ys[k]) = true := by assumption
          go_ret
          refine ⟨ret_bool ?_, hq.drewN _⟩
          symm
          simp only [decide_eq_false_iff_not]
          intro e
          subst e
          simp at ht
        · have ht : (xs[k] != ys[k]) = false := by assumption
          go_roundg (xs.length - (k + 1))
          case measure => omega
          case rel =>
            refine ⟨k + 1, by omega, rfl, by go_num, hq.drewN _, eq_snoc hp.out ?_⟩
            have := by simpa using ht
            simpa [List.getD_eq_getElem?_getD, hlt, hk2] using this
      · go_wp2
        go_ret
        refine ⟨ret_bool ?_, hq⟩
        symm
        simp only [decide_eq_true_eq]
        exact getD_eq_list Hl.out fun j hj => hp.out j (by omega)
  · have e1 : ((xs.length : Int) != (ys.length : Int)) = true := by simp; omega
    go_enter Try.func55, Try.ntmps55
    go_wp2
    go_ret
    refine ⟨ret_bool ?_, Qt.refl _⟩
    symm
    simp only [decide_eq_false_iff_not]
    intro e
    exact hl (by rw [e])

set_option maxRecDepth 100000 in
set_option maxHeartbeats 400000 in
theorem big_any (p : Option Addr) (n cap : Nat) (w : World) (hn : n ≤ maxLen) :
    Calls Try.prog 17 #[.slice p n cap] w fun e w' => e = .returned (.bool (decide (1048576 < n))) ∧ w = w' := by
  unfold maxLen at hn
  go_enter Try.func17, Try.ntmps17
  by_cases h : 1048576 < n
  · have h2 : (1048576 : Int) < (n : Int) := by omega
    go_wp2
    go_ret
    exact ⟨ret_bool (by simp [h]), rfl⟩
  · have h2 : ¬ (1048576 : Int) < (n : Int) := by omega
    go_wp2
    go_ret
    exact ⟨ret_bool (by simp [h]), rfl⟩

section
open Go.ChangeShapes Go.WideShapes Go.RowKit Go.Deep Go.WideElems Go.Maps
/-- bytes that came in -/
theorem trod_byts {H : Type} {enc : TypeId × Value → H} {P : Program} {W : World} {m : Nat} {t e : TypeId} {a : Option Addr} {l c : Nat} {y : DataW H × List MemPlace}
    (ht : P.underlying t = some (.slice e)) (he : P.underlying e = some (.int .u8)) (hc : P.cellsOf e = 1)
    (h : DataW.trod enc P W 0 (fun _ => true) true m t [.slice a l c] = some y) : l ≤ maxLen ∧ Byts W (.slice a l c) l := by
  rcases open_ints ht he hc h with ⟨hcs, _⟩ | ⟨x, l', c', zs, hcs, _, hl, hm, hz, _, hcell, _⟩
  · injection hcs with hcs
    injection hcs with h1 h2 h3
    subst h1 h2 h3
    exact ⟨Nat.zero_le _, fun _ => 0, none, 0, rfl, ⟨Nat.le_refl _, Nat.zero_le _⟩, fun h => absurd h (Nat.lt_irrefl _)⟩
  · injection hcs with hcs
    injection hcs with h1 h2 h3
    subst h1 h2 h3
    refine ⟨by omega, fun j => zs.getD j 0, some x, c, rfl, ⟨hl, hm⟩, fun h0 => ?_⟩
    have hz' : zs.length = c := by simpa using hz
    have h0' := hcell 0 (by omega)
    obtain ⟨b, off, spot⟩ := x
    have hs : spot = none := by
      cases spot with
      | none => rfl
      | some s => simp [Addr.add, World.cell?] at h0'; split at h0' <;> simp_all
    subst hs
    refine ⟨b, off, rfl, fun j hj => ?_⟩
    have hadd : (⟨b, off, none⟩ : Addr).add j = ⟨b, off + j, none⟩ := by unfold Addr.add; split <;> simp_all
    rw [← hadd]
    exact hcell j (by omega)
end

end Go.Proofs.Ytajmoclnmphmgaa
