/-
  The reference's l8Expand and ExpandLocal.
  The law's own marks on classes, and the look for them.
  ExpandLocal on both sides, in one word; how great the result is.
  Products of tables pass the test of IsGkm, and are not great. Plain.
-/
import Derived.Test.YtajmoclnmphmgaaJ15
import Derived.Test.YtajmoclnmphmgaaJ16
import Derived.Test.YtajmoclnmphmgaaJ9
import Derived.BigRegion
import Derived.Test.YtajmoclnmphmgaaJ14
import Derived.Test.YtajmoclnmphmgaaJ4
namespace Go.Proofs.Ytajmoclnmphmgaa
set_option linter.all false
set_option maxRecDepth 100000
open Go.RowKit

/-- a call returned these classes in new memory, and this bool -/
def RetCS (w : World) (r : List Cls × Bool) (e : Ending) (w' : World) : Prop :=
  ∃ u, e = .returned (.tuple #[u, .bool r.2]) ∧ OwnCl w' w.heap.size w'.heap.size u r.1 ∧ Below w.heap.size w w'
theorem OwnCl.frm {w w' : World} {lo hi lo' hi' : Nat} {v : Value} {cs : List Cls} (h : OwnCl w lo hi v cs) (hb : Frm lo' hi' w w') (ho : hi ≤ lo' ∨ hi' ≤ lo) : OwnCl w' lo hi v cs := by
  obtain ⟨g, h1, h2⟩ := h
  exact ⟨g, h1.frm hb ho, fun i hi => (h2 i hi).frm hb ho⟩
theorem ownCl_nil (w : World) (lo hi : Nat) : OwnCl w lo hi (.slice none 0 0) [] := ⟨fun _ => undef, OwnS.nil _ _ _ _ _ _, fun i hi => absurd hi (Nat.not_lt_zero _)⟩

theorem l1In_c (a b c : Int) (w : World) (r : Bool) (h : decide (b ≤ a ∧ a ≤ c) = r) : Calls Try.prog 65 #[.int .i64 a, .int .i64 b, .int .i64 c] w fun e w' => e = .returned (.bool r) ∧ w = w' := h ▸ l1In_any a b c w

set_option maxHeartbeats 16000000 in
theorem l8Expand_any (n : Nat) (v u : Value) (vs ys : List Int) (w : World) (hv : Ints w v vs) (hy : Ints w u ys) (YO : YOk n ys) (hr0 : RestOk n 0 vs) :
    Calls Try.prog 29 #[.int .i64 (n : Int), v, u] w (RetCS w (expE n vs ys (ordL n))) := by
  have OI := ordIs YO.one YO.four
  obtain ⟨F, hF⟩ : ∃ F, F = fact n := ⟨_, rfl⟩
  have hf := fact4 YO.one (show n ≤ 5 by have := YO.four; omega)
  rw [← hF] at hf
  have hf24 : F ≤ 24 := by
    have h1 := YO.one
    have h2 := YO.four
    have : n = 1 ∨ n = 2 ∨ n = 3 ∨ n = 4 := by omega
    rw [hF]
    rcases this with rfl | rfl | rfl | rfl <;> decide
  have HF := Lib.hid hF
  have HYO := Lib.hid YO
  have HOI := Lib.hid OI
  have hvl := hr0.1
  have Hvl := Lib.hid hvl
  have Hr0 := Lib.hid hr0
  have HV := Lib.hid hv
  have HY := Lib.hid hy
  have hn1 := YO.one
  have hn4 := YO.four
  obtain ⟨Q, hQ⟩ : ∃ Q : Nat, Q = n * (n - 1) := ⟨_, rfl⟩
  obtain ⟨L, hL⟩ : ∃ L : Nat, L = n * (n - 1) / 2 := ⟨_, rfl⟩
  have hQ12 : Q ≤ 12 := by
    rw [hQ]
    have := Nat.mul_le_mul hn4 (show n - 1 ≤ 3 by omega)
    omega
  have hLQ : L = Q / 2 := by rw [hL, hQ]
  have hL6 : L ≤ 6 := by omega
  have hqz : (n : Int) * ((n : Int) - 1) = (Q : Int) := by
    rw [hQ, Int.natCast_mul, Int.natCast_sub hn1]; rfl
  have hlz : (Q : Int).tdiv 2 = (L : Int) := by rw [hLQ]; rw [Int.tdiv_eq_ediv_of_nonneg (by omega)]; omega
  have hlz2 : (Q : Int) / 2 = (L : Int) := by omega
  have HL := Lib.hid hL
  obtain ⟨pv, kv, rfl, ⟨hv1, hv2⟩, hvx⟩ := hv
  obtain ⟨py, ky, rfl, ⟨hy1, hy2⟩, hyx⟩ := hy
  clear hvx hyx
  unfold maxLen at hv2 hy2
  rw [hvl, ← hF] at HV hv1 ⊢
  rw [YO.len] at HY hy1 ⊢
  clear YO OI hvl hr0 hF hQ hL hLQ
  obtain ⟨B0, hB0⟩ : ∃ B, B = w.heap.size := ⟨_, rfl⟩
  have HB0 := Lib.hid hB0
  clear hB0
  go_enter Try.func29, Try.ntmps29
  go_wp2_with fail
  refine (specPerms_any n hn1 (by omega) _).mono ?_
  rintro e w1 ⟨u1, rfl, ho1, hb1⟩
  have hRl : (permsL n).length = F := by rw [permsL_length, HF.out]
  have hrd1 := ho1.rd
  obtain ⟨p1, k1, rfl, hk1, hk12⟩ := ho1.shape
  unfold maxLen at hk12
  rw [hRl] at hk1 hrd1 ⊢
  obtain ⟨fr, ⟨pp, cc, epp, _, hxc⟩, hfr⟩ := hrd1
  rw [hRl] at epp hxc hfr
  injection epp with e1 e2 e3
  subst e1
  obtain ⟨gb, ob, rfl, hcr⟩ := hxc (by omega)
  obtain ⟨A1, hA1⟩ : ∃ A, A = w1.heap.size := ⟨_, rfl⟩
  have hs1 := hb1.size
  rw [← hA1] at hs1
  have HA1 := Lib.hid hA1
  have Hcr := Lib.hid hcr
  have Hfr := Lib.hid (show ∀ x, x < F → Ints w1 (fr x) (pmA n x) from hfr)
  have HV1 := Lib.hid (HV.out.below hb1)
  have HY1 := Lib.hid (HY.out.below hb1)
  have Hb1 := Lib.hid hb1
  have HRl := Lib.hid hRl
  clear hxc hfr hcr e3 ho1 hb1 hA1 HV HY hRl
  go_wp2_with fail
  refine (l1Ints_any _ vs _ HV1.out (by rw [Hvl.out, ← HF.out]; omega)).mono ?_
  rintro e w6 ⟨u6, rfl, ho6, hb6⟩
  rw [← HA1.out] at ho6 hb6
  obtain ⟨A6, hA6⟩ : ∃ A, A = w6.heap.size := ⟨_, rfl⟩
  have hs6 := hb6.size
  rw [← hA6] at ho6 hs6
  rw [← HA1.out] at hs6
  obtain ⟨p6, k6, rfl, hk6, hk66⟩ := ho6.shape
  unfold maxLen at hk66
  rw [Hvl.out, ← HF.out] at hk6 ho6 ⊢
  have HA6 := Lib.hid hA6
  obtain ⟨g6, rfl, hg61, hg62, _⟩ := (show OwnF w6 A1 A6 3 (.slice p6 F k6) F (iv vs) from by have := ho6.fn; rw [Hvl.out, ← HF.out] at this; exact this).at_ (by omega)
  have Ho6 := Lib.hid ho6
  have Hb6 := Lib.hid hb6
  clear hA6 ho6 hb6
  go_wp2_with fail
  go_loopg [10, 11, 12, 13, 14, 15] (L + 1) (fun g s10 s11 s12 s13 s14 s15 wr => ∃ (s : Nat) (rest : List Int) (outs : List Cls) (done : List Nat), s ≤ L + 1 ∧ g = L + 1 - s ∧ s11 = .int .i64 (s : Int) ∧ Hid (Below A1 w1 wr) ∧ Hid (A6 ≤ wr.heap.size) ∧
    Hid (OwnI 3 wr A1 A6 (.slice (some ⟨g6, 0, none⟩) F k6) rest) ∧ Hid (OwnCl wr A6 wr.heap.size s10 (srtC outs)) ∧ Hid (RestOk n (s * F) rest) ∧ Hid (OutOk n done outs) ∧ Hid (done ++ rowsS n s = ordL n) ∧ Hid (exGo n ys (rowsS n s) rest outs = exGo n ys (ordL n) vs []))
  case atStart =>
    refine ⟨0, vs, [], [], Nat.zero_le _, rfl, rfl, Lib.hid ?_, Lib.hid ?_, Lib.hid ?_, Lib.hid ?_, Lib.hid ?_, Lib.hid ?_, Lib.hid ?_, Lib.hid ?_⟩
    · exact Hb6.out.trans ((below_alloc w6 _).mono (by rw [← HA6.out]; omega))
    · rw [size_alloc, ← HA6.out]; omega
    · exact Ho6.out.below (below_alloc w6 _)
    · have := (OwnCd.made0 w6).cl
      rw [← HA6.out] at this ⊢
      exact this.mono (Nat.le_refl _) (by rw [size_alloc, ← HA6.out]; omega)
    · rw [Nat.zero_mul]; exact Hr0.out
    · exact List.Sublist.refl _
    · rw [rowsS_zero]; rfl
    · rw [rowsS_zero]
  case round =>
    obtain ⟨s, rest, outs, done, hs, rfl, rfl, hb, hsz, ho, hoc, hr, hot, hdn, hgo⟩ := hrel
    obtain ⟨wx, rfl⟩ : ∃ x : World, x = wr := ⟨_, rfl⟩
    have Hb := Lib.hid hb.out
    have Hsz := Lib.hid hsz.out
    have Ho := Lib.hid ho.out
    have Hoc := Lib.hid hoc.out
    have Hr := Lib.hid hr.out
    have Hot := Lib.hid hot.out
    have Hdn := Lib.hid hdn.out
    have Hgo := Lib.hid hgo.out
    obtain ⟨pc, kc, rfl, hkc, hkcm⟩ := hoc.out.shape
    clear hb hsz ho hoc hr hot hdn hgo
    unfold maxLen at hkcm
    obtain ⟨no, hno⟩ : ∃ no, no = (srtC outs).length := ⟨_, rfl⟩
    have Hno := Lib.hid hno
    rw [← hno] at hkc Hoc ⊢
    clear hno
    by_cases hsL : s ≤ L
    · have hsLi : (s : Int) ≤ (L : Int) := by omega
      go_wp2_with fail
      go_loopg [10, 12, 13, 14, 15] F (fun g s10 s12 s13 s14 s15 wr => ∃ (x : Nat) (rs : List Int) (os : List Cls) (dn : List Nat), x ≤ F ∧ g = F - x ∧ s12 = .int .i64 (x : Int) ∧ Hid (Below A1 w1 wr) ∧ Hid (A6 ≤ wr.heap.size) ∧
        Hid (OwnI 3 wr A1 A6 (.slice (some ⟨g6, 0, none⟩) F k6) rs) ∧ Hid (OwnCl wr A6 wr.heap.size s10 (srtC os)) ∧ Hid (RestOk n (s * F + x) rs) ∧ Hid (OutOk n dn os) ∧ Hid (dn ++ (rowS n s x ++ rowsS n (s + 1)) = ordL n) ∧
        Hid (exGo n ys (rowS n s x ++ rowsS n (s + 1)) rs os = exGo n ys (ordL n) vs []))
      case atStart =>
        have hsu := rowsS_succ (n := n) (s := s) (by rw [← HL.out]; exact hsL)
        exact ⟨0, rest, outs, done, Nat.zero_le _, rfl, rfl, Hb, Hsz, Ho, Hoc, Hr, Hot, Lib.hid (by rw [← hsu]; exact Hdn.out), Lib.hid (by rw [← hsu]; exact Hgo.out)⟩
      case round =>
        clear Hb Hsz Ho Hoc Hr Hot Hdn Hgo Hno hkc hkcm
        obtain ⟨x, rs, os, dn, hx, rfl, rfl, hb, hsz, ho, hoc, hr, hot, hdn, hgo⟩ := hrel
        obtain ⟨wy, rfl⟩ : ∃ x : World, x = wr := ⟨_, rfl⟩
        have Hb := Lib.hid hb.out
        have Hsz := Lib.hid hsz.out
        have Ho := Lib.hid ho.out
        have Hoc := Lib.hid hoc.out
        have Hr := Lib.hid hr.out
        have Hot := Lib.hid hot.out
        have Hdn := Lib.hid hdn.out
        have Hgo := Lib.hid hgo.out
        obtain ⟨pd, kd, rfl, hkd, hkdm⟩ := hoc.out.shape
        clear hb hsz ho hoc hr hot hdn hgo
        unfold maxLen at hkdm
        obtain ⟨nd, hnd⟩ : ∃ nd, nd = (srtC os).length := ⟨_, rfl⟩
        have Hnd := Lib.hid hnd
        rw [← hnd] at hkd Hoc ⊢
        clear hnd
        have hA1y : A1 ≤ wy.heap.size := by have := Hsz.out; omega
        by_cases hxF : x < F
        · have hxi : (x : Int) < (F : Int) := by omega
          have hbx : Below w1.heap.size w1 wy := by rw [← HA1.out]; exact Hb.out
          obtain ⟨vx, hvx⟩ : ∃ z, z = fr x := ⟨_, rfl⟩
          have cr := cell_below hbx (Hcr.out x hxF)
          rw [← hvx] at cr
          have Hvx := Lib.hid hvx
          have Hbx := Lib.hid hbx
          have hxn : x < fact n := by rw [← HF.out]; exact hxF
          have Hxn := Lib.hid hxn
          have Hp5 := Lib.hid (pm_p5 HYO.out hxn)
          have Hl := Lib.hid (l1Length_any vx (pmA n x) wy (by rw [hvx]; exact (Hfr.out x hxF).below hbx) (by have := (pm_p5 HYO.out hxn).len; omega))
          obtain ⟨lx, hlx⟩ : ∃ lx, lx = lenS n x := ⟨_, rfl⟩
          have Hlx := Lib.hid hlx
          have hl' : lnN (pmA n x) = lx := hlx.symm
          rw [hl'] at Hl
          have hrl : rs.length = F := by rw [Hr.out.1, HF.out]
          clear hvx hbx hxn hlx hl'
          go_wp2_with fail
          refine Hl.out.mono ?_
          rintro e w7 ⟨rfl, hb7⟩
          have Hb7 := Lib.hid hb7
          have hs7 := hb7.size
          have h6 : OwnF w7 A1 A6 3 (.slice (some ⟨g6, 0, none⟩) F k6) F (iv rs) := by
            have := (Ho.out.below hb7).fn
            rw [hrl] at this
            exact this
          have Hrl := Lib.hid hrl
          have H67 := Lib.hid h6
          have HbA := Lib.hid (show Below A1 w1 w7 from Hb.out.trans (hb7.mono hA1y))
          have cr7 : w7.cell? ⟨gb, ob + x, none⟩ = some vx := cell_below hb7 cr
          obtain ⟨R, hR⟩ : ∃ R, R = rs.getD x 0 := ⟨_, rfl⟩
          have c6 : w7.cell? ⟨g6, x, none⟩ = some (.int .i64 R) := by rw [h6.cell hxF, hR]; rfl
          have HR := Lib.hid hR
          clear hb7 hrl h6 hR cr Hl
          have hnext : ∀ W, Below wy.heap.size wy W → rowS n s x = rowS n s (x + 1) ∨ (rowS n s x = x :: rowS n s (x + 1) ∧ R = 0) →
              ∃ (x_1 : Nat) (rs : List Int) (os : List Cls) (dn : List Nat), x_1 ≤ F ∧ F - (x + 1) = F - x_1 ∧ Value.int .i64 ((x : Int) + 1) = .int .i64 (x_1 : Int) ∧ Hid (Below A1 w1 W) ∧ Hid (A6 ≤ W.heap.size) ∧
        Hid (OwnI 3 W A1 A6 (.slice (some ⟨g6, 0, none⟩) F k6) rs) ∧ Hid (OwnCl W A6 W.heap.size (.slice pd nd kd) (srtC os)) ∧ Hid (RestOk n (s * F + x_1) rs) ∧ Hid (OutOk n dn os) ∧ Hid (dn ++ (rowS n s x_1 ++ rowsS n (s + 1)) = ordL n) ∧
        Hid (exGo n ys (rowS n s x_1 ++ rowsS n (s + 1)) rs os = exGo n ys (ordL n) vs []) := by
            intro W hW hc
            refine ⟨x + 1, rs, os, if rowS n s x = rowS n s (x + 1) then dn else dn ++ [x], by omega, rfl, by go_num, Lib.hid (Hb.out.trans (hW.mono hA1y)), Lib.hid (Nat.le_trans Hsz.out hW.size), Lib.hid (Ho.out.below hW), Lib.hid ((Hoc.out.below hW).mono (Nat.le_refl _) hW.size), Lib.hid Hr.out.mono, Lib.hid ?_, Lib.hid ?_, Lib.hid ?_⟩
            · split
              · exact Hot.out
              · exact Hot.out.skip x
            · rcases hc with h | ⟨h, _⟩
              · rw [if_pos h, ← h]; exact Hdn.out
              · rw [if_neg (by rw [h]; exact fun e => by have := congrArg List.length e; simp at this), ← Hdn.out, h]; simp
            · rcases hc with h | ⟨h, h0⟩
              · rw [← h]; exact Hgo.out
              · rw [← Hgo.out, h, List.cons_append, exGo]
                have hq : qoA n ys rs x = 0 := by unfold qoA; rw [← HR.out, h0]; exact Int.zero_tdiv _
                rw [if_neg (by unfold badA; rw [hq, ← HR.out, h0]; omega), if_pos hq]
          have Hnext := Lib.hid hnext
          clear hnext
          by_cases el : lx = s
          · have d0 : ((lx : Int) != (s : Int)) = false := by simp [el]
            have Hel := Lib.hid (show rowS n s x = x :: rowS n s (x + 1) from rowS_in Hxn.out (by rw [← Hlx.out]; exact el))
            by_cases eR : R = 0
            · have d1 : (R == 0) = true := by simp [eR]
              have HeR := Lib.hid eR
              clear eR el
              go_wp2_with fail
              go_roundg (F - (x + 1))
              case measure => omega
              case rel => exact Hnext.out _ Hb7.out (.inr ⟨Hel.out, HeR.out⟩)
            · have d1 : (R == 0) = false := by simp [eR]
              have HeR := Lib.hid eR
              clear eR el
              go_wp2_with fail
              have hb17 : Below w1.heap.size w1 w7 := by rw [← HA1.out]; exact HbA.out
              refine (l8Table_any n (pmA n x) ys vx (.slice py n ky) w7 Hp5.out hn1 HYO.out.len HYO.out.nine (by rw [Hvx.out]; exact (Hfr.out x hxF).below hb17) (by exact HY1.out.below hb17)).mono ?_
              rintro e w8 ⟨u8, rfl, ho8, hb8⟩
              have hl8 : (tabL (pmA n x) ys).length = F := by rw [HF.out]; exact tb_length HYO.out Hxn.out
              have h8 := ho8.fn
              obtain ⟨p8, k8, rfl, hk8, hk88⟩ := ho8.shape
              unfold maxLen at hk88
              rw [hl8] at h8 hk8 ⊢
              obtain ⟨g8, rfl, hg81, hg82, hg83⟩ := h8.at_ (by omega)
              have h6 : OwnF w8 A1 A6 3 (.slice (some ⟨g6, 0, none⟩) F k6) F (iv rs) := H67.out.below hb8
              obtain ⟨T, hT⟩ : ∃ T, T = (tbA n ys x).getD x 0 := ⟨_, rfl⟩
              obtain ⟨C, hC⟩ : ∃ C, C = qoA n ys rs x := ⟨_, rfl⟩
              have c8 : w8.cell? ⟨g8, x, none⟩ = some (.int .i64 T) := by rw [h8.cell hxF, hT]; rfl
              have c68 : w8.cell? ⟨g6, x, none⟩ = some (.int .i64 R) := cell_below hb8 c6
              have cr8 : w8.cell? ⟨gb, ob + x, none⟩ = some vx := cell_below hb8 cr7
              have hT0 : ¬ T = 0 := by rw [hT]; exact tb_ne HYO.out Hxn.out
              have hRb : R.natAbs ≤ 1000000000000 + (s * F + x) * 1000000000000000 := by rw [HR.out]; exact Hr.out.2 x Hxn.out
              have hsF : s * F ≤ 6 * 24 := Nat.mul_le_mul (by omega) hf24
              have hR17 : R.natAbs ≤ 200000000000000000 := by
                have : (s * F + x) * 1000000000000000 ≤ 168 * 1000000000000000 := Nat.mul_le_mul_right _ (by omega)
                omega
              have hCd : C = R.tdiv T := by rw [hC, HR.out, hT]; rfl
              have hCa : C.natAbs ≤ R.natAbs := by rw [hCd]; exact tdiv_abs _ _
              have hbad : badA n ys rs x ↔ (C * T ≠ R ∨ C < -1000000000 ∨ 1000000000 < C) := by unfold badA; rw [← hC, ← hT, ← HR.out]
              have hmod : C * T = R ↔ R.tmod T = 0 := by rw [hCd]; exact qo_mod
              obtain ⟨M, hM⟩ : ∃ M, R.tmod T = M := ⟨_, rfl⟩
              have hMa : M.natAbs ≤ R.natAbs := by rw [← hM, Int.natAbs_tmod]; exact Nat.mod_le _ _
              have hwM : IntKind.i64.wrap M = M := by rw [IntKind.wrap_i64]; omega
              have hwq : IntKind.i64.wrap (R.tdiv T) = C := by rw [← hCd, IntKind.wrap_i64]; omega
              have hC0 : C = 0 → C * T = R → False := fun e e2 => HeR.out (by rw [← e2, e, Int.zero_mul])
              have hbw8 : Below w.heap.size w w8 := Hb1.out.trans ((HbA.out.mono hs1).trans (hb8.mono (by have := HbA.out.size; have := HA1.out; omega)))
              have hnone : badA n ys rs x → expE n vs ys (ordL n) = ([], false) := fun hb => by
                unfold expE
                rw [← Hgo.out, Hel.out, List.cons_append, exGo, if_pos hb]; rfl
              have HC := Lib.hid hC
              have HT := Lib.hid hT
              have Hbad := Lib.hid hbad
              have Hmod := Lib.hid hmod
              have H8 := Lib.hid h8
              have H6 := Lib.hid h6
              have Hb8 := Lib.hid hb8
              have Hbw8 := Lib.hid hbw8
              have Hnone := Lib.hid hnone
              have Hwq := Lib.hid hwq
              have HC0 := Lib.hid hC0
              have HR17 := Lib.hid hR17
              have HM := Lib.hid hM
              have hrw : ∀ W, Below w8.heap.size w8 W → OwnF W A1 A6 3 (.slice (some ⟨g6, 0, none⟩) F k6) F (iv rs) := fun W hW => H6.out.below hW
              have Hrw := Lib.hid hrw
              clear hC hT hbad hmod h8 h6 hb8 hbw8 hnone ho8 hl8 hCd hCa hR17 hRb hsF hMa hwq hC0 hb17 hrw hM
              have hM := HM.out
              have hmw : IntKind.i64.wrap (R.tmod T) = M := by rw [hM]; exact hwM
              by_cases eM : M = 0
              · have d2 : (M != 0) = false := by simp [eM]
                have HeM := Lib.hid eM
                clear eM
                go_wp2_with fail
                go_quiet (fail)
                obtain ⟨q1, rfl⟩ : ∃ q : Nat, q = nq := ⟨_, rfl⟩
                have hwq := Hwq.out
                clear hM hwM hmw
                go_wp2_with fail
                go_quiet (fail)
                obtain ⟨q2, rfl⟩ : ∃ q : Nat, q = nq := ⟨_, rfl⟩
                go_wp2_with fail
                obtain ⟨W9, hW9⟩ : ∃ W, W = w8.drewN (q1 + q2) := ⟨_, rfl⟩
                rw [← hW9]
                have Hq9 := Lib.hid (show Qt w8 W9 from ⟨_, hW9⟩)
                clear hW9
                have hCT : C * T = R := Hmod.out.2 (by rw [HM.out]; exact HeM.out)
                have HCT := Lib.hid hCT
                clear hCT
                by_cases eC : (-1000000000 ≤ C ∧ C ≤ 1000000000)
                · refine (l1In_c C (-1000000000) 1000000000 W9 true (decide_eq_true eC)).mono ?_
                  rintro e w' ⟨rfl, rfl⟩
                  have hnb : ¬ badA n ys rs x := fun hb => by
                    rcases Hbad.out.1 hb with h | h | h
                    · exact h HCT.out
                    · omega
                    · omega
                  have Hnb := Lib.hid hnb
                  have HeC := Lib.hid eC
                  have Hc0 := Lib.hid (show ¬ C = 0 from fun e => HC0.out e HCT.out)
                  have h6' : OwnF W9 A1 A6 3 (.slice (some ⟨g6, 0, none⟩) F k6) F (iv rs) := H6.out.below (Hq9.out.below _)
                  have Hc8 := Lib.hid (show ∀ j, j < F → W9.cell? ⟨g8, j, none⟩ = some (.int .i64 ((tbA n ys x).getD j 0)) from fun j hj => Hq9.out.cell (H8.out.cell hj))
                  have hg8s : g8 < W9.heap.size := by rw [Hq9.out.size]; exact hg83
                  have hg8o : A6 ≤ g8 := Nat.le_trans (Nat.le_trans Hsz.out hs7) hg81
                  have H6' := Lib.hid h6'
                  have hr17 : ∀ j, j < F → (rs.getD j 0).natAbs ≤ 200000000000000000 := fun j hj => by
                    refine Nat.le_trans (Hr.out.2 j (by rw [← HF.out]; exact hj)) ?_
                    have hsF : s * F ≤ 6 * 24 := Nat.mul_le_mul (by omega) hf24
                    have : (s * F + x) * 1000000000000000 ≤ 168 * 1000000000000000 := Nat.mul_le_mul_right _ (by omega)
                    omega
                  have Hr17 := Lib.hid hr17
                  clear h6' c6 c8 hnb eC cr7 c68 hr17
                  go_wp2_with fail
                  go_loopg [15] F (fun g s15 wr2 => ∃ j : Nat, j ≤ F ∧ g = F - j ∧ s15 = .int .i64 (j : Int) ∧ Hid (Frm A1 A6 W9 wr2) ∧ Hid (OwnF wr2 A1 A6 3 (.slice (some ⟨g6, 0, none⟩) F k6) F (fun t => if t < j then iv (subL rs C (tbA n ys x)) t else iv rs t)))
                  case atStart => exact ⟨0, Nat.zero_le _, rfl, rfl, Lib.hid (Frm.refl _ _ _), Lib.hid (H6'.out.congr fun t _ => by rw [if_neg (Nat.not_lt_zero _)])⟩
                  case round =>
                    obtain ⟨j, hj, rfl, rfl, hfj, hoj⟩ := hrel
                    obtain ⟨wz, rfl⟩ : ∃ x : World, x = wr := ⟨_, rfl⟩
                    have Hfj := Lib.hid hfj.out
                    have Hoj := Lib.hid hoj.out
                    clear hfj hoj
                    by_cases hjF : j < F
                    · have hjFi : (j : Int) < (F : Int) := by omega
                      obtain ⟨a, ha⟩ : ∃ a, a = rs.getD j 0 := ⟨_, rfl⟩
                      obtain ⟨b, hb⟩ : ∃ b, b = (tbA n ys x).getD j 0 := ⟨_, rfl⟩
                      have ca : wz.cell? ⟨g6, j, none⟩ = some (.int .i64 a) := by rw [Hoj.out.cell hjF, if_neg (Nat.lt_irrefl _), ha]; rfl
                      have fa : wz.frozen? ⟨g6, j, none⟩ = false := Hoj.out.frozen j
                      have cb : wz.cell? ⟨g8, j, none⟩ = some (.int .i64 b) := by
                        rw [hb, ← Hc8.out j hjF]
                        unfold World.cell?
                        rw [Hfj.out.block g8 hg8s (.inr hg8o)]
                      obtain ⟨N, hN⟩ : ∃ N, N = C * b := ⟨_, rfl⟩
                      obtain ⟨S, hS⟩ : ∃ S, S = a - N := ⟨_, rfl⟩
                      have hab : a.natAbs ≤ 200000000000000000 := by rw [ha]; exact Hr17.out j hjF
                      have hMb : N.natAbs ≤ 1000000000 * 1000000 := by rw [hN, hb]; exact abs_mul2 (by have := HeC.out; omega) (tb_bound HYO.out Hxn.out (by rw [← HF.out]; exact hjF))
                      have hwN : IntKind.i64.wrap (C * b) = N := by rw [← hN, IntKind.wrap_i64]; omega
                      have hwS : IntKind.i64.wrap (a - N) = S := by rw [hS, IntKind.wrap_i64]; omega
                      have Ha := Lib.hid ha
                      have HB := Lib.hid hb
                      have HN := Lib.hid hN
                      have HS := Lib.hid hS
                      clear ha hb hN hS hab hMb
                      go_wp2_with fail
                      go_region
                      go_wp2_with fail
                      go_roundg (F - (j + 1))
                      case measure => omega
                      case rel =>
                        refine ⟨j + 1, by omega, rfl, by go_num, Lib.hid ?_, Lib.hid ?_⟩
                        · exact (Hfj.out.setCell (p := ⟨g6, j, none⟩) hg61 hg62 _).drewN 1
                        · have h1 := Hoj.out.set j (.int .i64 S)
                          have h2 : OwnF (wz.setCell ⟨g6, j, none⟩ (.int .i64 S)).drew A1 A6 3 (.slice (some ⟨g6, 0, none⟩) F k6) F _ := h1.below ((Below.refl _ _).drew)
                          refine h2.congr fun t ht => ?_
                          by_cases h3 : t = j
                          · rw [if_pos h3, if_pos (by omega), h3]
                            unfold iv
                            rw [subL_getD (by rw [Hrl.out]; exact hjF), HS.out, HN.out, Ha.out, HB.out]
                          · rw [if_neg h3]
                            by_cases h4 : t < j
                            · rw [if_pos h4, if_pos (by omega)]
                            · rw [if_neg h4, if_neg (by omega)]
                    · have hjFi : ¬ (j : Int) < (F : Int) := by omega
                      have hjE : j = F := by omega
                      have hsl : (subL rs C (tbA n ys x)).length = F := by rw [subL_length, Hrl.out]
                      have Hoy := Lib.hid (show OwnI 3 wz A1 A6 (.slice (some ⟨g6, 0, none⟩) F k6) (subL rs C (tbA n ys x)) from by
                        refine OwnF.ints ?_
                        rw [hsl]
                        exact Hoj.out.congr fun t ht => by rw [if_pos (by omega)])
                      have hby9 : Below wy.heap.size wy W9 := Hb7.out.trans ((Hb8.out.mono hs7).trans ((Hq9.out.below _).mono (Nat.le_trans hs7 Hb8.out.size)))
                      have hb9z : Below A1 W9 wz := Hfj.out.below (Nat.le_refl _) (Nat.le_trans hA1y hby9.size)
                      have hbyz : Below A1 wy wz := (hby9.mono hA1y).trans hb9z
                      have hb1z : Below w1.heap.size w1 wz := by rw [← HA1.out]; exact Hb.out.trans hbyz
                      have crz := cell_below hb1z (Hcr.out x hxF)
                      rw [← Hvx.out] at crz
                      have Hiz := Lib.hid (show Ints wz vx (pmA n x) by rw [Hvx.out]; exact (Hfr.out x hxF).below hb1z)
                      have Hcz := Lib.hid (show OwnCl wz A6 wy.heap.size (.slice pd nd kd) (srtC os) from OwnCl.frm (Hoc.out.below hby9) Hfj.out (.inr (Nat.le_refl _)))
                      have Hbyz := Lib.hid hbyz
                      have Hszz := Lib.hid (show A6 ≤ wz.heap.size from Nat.le_trans Hsz.out (Nat.le_trans hby9.size hb9z.size))
                      have hpm : (dn ++ x :: (rowS n s (x + 1) ++ rowsS n (s + 1))).Perm (List.range (fact n)) := by
                        have := Hdn.out
                        rw [Hel.out, List.cons_append] at this
                        rw [this]
                        exact HOI.out.perm
                      have Hl3 := Lib.hid (l3Add_any (.slice pd nd kd) (srtC os) vx (pmA n x) C wz Hcz.out.rd Hiz.out Hc0.out (out_new hn1 hn4 Hot.out hpm) (by have := out_len Hot.out hpm (by rw [← HF.out]; exact hf.2); omega) (by have := Hp5.out.len; omega) (out_trim HYO.out Hot.out hpm))
                      clear hsl hby9 hb9z hbyz hb1z hpm cr8
                      go_wp2_with fail
                      refine Hl3.out.mono ?_
                      rintro e w10 ⟨r, rfl, hor, hbr⟩
                      rw [← srtC_snoc] at hor
                      obtain ⟨pr, kr, rfl, hkr, hkrm⟩ := hor.shape
                      have Hor := Lib.hid hor
                      have Hbr := Lib.hid hbr
                      clear hor hbr Hl3
                      go_wp2_with fail
                      go_roundg (F - (x + 1))
                      case measure => omega
                      case rel =>
                        refine ⟨x + 1, subL rs C (tbA n ys x), os ++ [(trimL (pmA n x), C)], dn ++ [x], by omega, rfl, by go_num, Lib.hid ?_, Lib.hid ?_, Lib.hid ?_, Lib.hid ?_, Lib.hid ?_, Lib.hid ?_, Lib.hid ?_, Lib.hid ?_⟩
                        · exact Hb.out.trans (Hbyz.out.trans (Hbr.out.mono (Nat.le_trans hA1y Hbyz.out.size)))
                        · exact Nat.le_trans Hszz.out Hbr.out.size
                        · exact Hoy.out.below Hbr.out
                        · exact Hor.out.mono Hszz.out (Nat.le_refl _)
                        · exact Hr.out.sub HYO.out Hxn.out (by have := HeC.out; omega)
                        · exact Hot.out.snoc x C
                        · rw [← Hdn.out, Hel.out]; simp
                        · rw [← Hgo.out, Hel.out, List.cons_append, exGo, if_neg Hnb.out, if_neg (by rw [← HC.out]; exact Hc0.out), ← HC.out]
                · refine (l1In_c C (-1000000000) 1000000000 W9 false (decide_eq_false eC)).mono ?_
                  rintro e w' ⟨rfl, rfl⟩
                  go_wp2_with fail
                  go_ret2
                  rw [Hnone.out (Hbad.out.2 (.inr (by omega)))]
                  exact ⟨_, rfl, ownCl_nil _ _ _, Hbw8.out.trans ((Hq9.out.below _).mono Hbw8.out.size)⟩
              · have d2 : (M != 0) = true := by simp [eM]
                have HeM := Lib.hid eM
                clear eM
                go_wp2_with fail
                go_quiet (fail)
                go_wp2_with fail
                go_ret2
                rw [Hnone.out (Hbad.out.2 (.inl fun e => HeM.out (by rw [← HM.out]; exact Hmod.out.1 e)))]
                exact ⟨_, rfl, ownCl_nil _ _ _, Hbw8.out.trans (Below.of_drewN _ _)⟩
          · have d0 : ((lx : Int) != (s : Int)) = true := by simp; omega
            have Hel := Lib.hid (show rowS n s x = rowS n s (x + 1) from rowS_out Hxn.out (by rw [← Hlx.out]; exact el))
            clear el
            go_wp2_with fail
            go_roundg (F - (x + 1))
            case measure => omega
            case rel => exact Hnext.out _ Hb7.out (.inl Hel.out)
        · have hxi : ¬ (x : Int) < (F : Int) := by omega
          obtain rfl : x = F := by omega
          go_wp2_with fail
          go_roundg (L + 1 - (s + 1))
          case measure => omega
          case rel =>
            have he : rowS n s x = [] := rowS_end (by rw [← HF.out]; exact Nat.le_refl _)
            refine ⟨s + 1, rs, os, dn, by omega, rfl, by go_num, Hb, Hsz, Ho, Hoc, Lib.hid ?_, Hot, Lib.hid ?_, Lib.hid ?_⟩
            · rw [Nat.succ_mul]; exact Hr.out
            · rw [← Hdn.out, he]; rfl
            · rw [← Hgo.out, he]; rfl
    · have hsLi : ¬ (s : Int) ≤ (L : Int) := by omega
      go_wp2_with fail
      go_ret2
      have hres : expE n vs ys (ordL n) = (srtC outs, true) := by
        unfold expE
        rw [← Hgo.out, rowsS_end (by rw [← HL.out]; omega)]
        rfl
      rw [hres]
      refine ⟨_, rfl, Hoc.out.mono (by omega) (Nat.le_refl _), ?_⟩
      exact Hb1.out.trans (Hb.out.mono hs1)

set_option maxHeartbeats 4000000 in
theorem specExpand_any (N : Int) (v u : Value) (vs ys : List Int) (w : World) (hv : Ints w v vs) (hy : Ints w u ys) (b : Bool) (h : GkIs N vs ys b) :
    Calls Try.prog 7 #[.int .i64 N, v, u] w (RetCS w (if b then expE N.toNat vs ys (ordL N.toNat) else ([], false))) := by
  have h0 := specIsGkm_any N v u vs ys w hv hy
  rw [← h.eps] at h0
  have H0 := Lib.hid h0
  have HV := Lib.hid hv
  have HY := Lib.hid hy
  obtain ⟨p1, k1, rfl, _, _⟩ := hv
  obtain ⟨p2, k2, rfl, _, _⟩ := hy
  clear h0
  cases b with
  | false =>
    clear h
    go_enter Try.func7, Try.ntmps7
    go_wp2_with fail
    refine H0.out.mono ?_
    rintro e w1 ⟨rfl, hb⟩
    have Hb := Lib.hid hb
    clear hb
    go_wp2_with fail
    go_ret2
    exact ⟨_, rfl, ownCl_nil _ _ _, Hb.out⟩
  | true =>
    obtain ⟨ha, hvl, hmo, hgk⟩ := h.1 rfl
    have hN : 1 ≤ N := by
      simp only [apOk, nmOk, Bool.and_eq_true, decide_eq_true_eq] at ha
      exact ha.1.1.1.1.1
    obtain ⟨n, rfl⟩ := Int.eq_ofNat_of_zero_le (show (0 : Int) ≤ N by omega)
    rw [Int.toNat_natCast] at hvl
    have YO := yOk ha
    have hr0 : RestOk n 0 vs := ⟨hvl, fun i hi => by
      simp only [mostB, decide_eq_true_eq] at hmo
      have := hmo _ (getD_mem (show i < vs.length by rw [hvl]; exact hi))
      omega⟩
    have HYO := Lib.hid YO
    have Hr0 := Lib.hid hr0
    clear ha hvl hmo hgk hN h YO hr0
    have Hq := Lib.hid fun w1 (hb : Below w.heap.size w w1) => l8Expand_any n _ _ vs ys w1 (HV.out.below hb) (HY.out.below hb) HYO.out Hr0.out
    rw [show (if true = true then expE (n : Int).toNat vs ys (ordL (n : Int).toNat) else ([], false)) = expE n vs ys (ordL n) from rfl]
    obtain ⟨E, hE⟩ : ∃ E, E = expE n vs ys (ordL n) := ⟨_, rfl⟩
    rw [← hE] at Hq ⊢
    clear hE
    go_enter Try.func7, Try.ntmps7
    go_wp2_with fail
    refine H0.out.mono ?_
    rintro e w1 ⟨rfl, hb⟩
    have Hb := Lib.hid hb
    clear hb
    go_wp2_with fail
    refine (Hq.out w1 Hb.out).mono ?_
    rintro e w2 ⟨r, rfl, ho, hb⟩
    obtain ⟨pr, kr, rfl, _, _⟩ := ho.shape
    have Ho := Lib.hid ho
    have Hb2 := Lib.hid hb
    clear ho hb
    go_wp2_with fail
    go_ret2
    exact ⟨_, rfl, Ho.out.mono Hb.out.size (Nat.le_refl _), Hb.out.trans (Hb2.out.mono Hb.out.size)⟩

end Go.Proofs.Ytajmoclnmphmgaa

namespace Go.Proofs.Ytajmoclnmphmgaa
set_option linter.all false
set_option maxRecDepth 100000
open Go.RowKit

def preC (cs : List Cls) (k : Nat) : Nat := ((cs.take k).map fun c => c.1.length + 1).sum
theorem preC_zero (cs : List Cls) : preC cs 0 = 0 := by simp [preC]
theorem preC_succ (cs : List Cls) (k : Nat) (h : k < cs.length) : preC cs (k + 1) = preC cs k + ((cs.getD k clD).1.length + 1) := by
  have e : cs[k]? = some (cs.getD k clD) := by rw [List.getD_eq_getElem?_getD, List.getElem?_eq_getElem h]; rfl
  unfold preC
  rw [List.take_add_one, e, List.map_append, List.sum_append]
  simp
theorem preC_le (cs : List Cls) (k : Nat) : preC cs k ≤ preC cs cs.length := by
  have e : (cs.map fun c => c.1.length + 1).sum = ((cs.take k).map fun c => c.1.length + 1).sum + ((cs.drop k).map fun c => c.1.length + 1).sum := by
    rw [← List.sum_append, ← List.map_append, List.take_append_drop]
  unfold preC
  rw [List.take_of_length_le (Nat.le_refl _)]
  omega
def runCs (m : Int) (cs : List Cls) : List Cls := (List.range cs.length).map fun i => (runs (m + preC cs i) (cs.getD i clD).1.length, m + preC cs i + (cs.getD i clD).1.length)
theorem length_runCs (m : Int) (cs : List Cls) : (runCs m cs).length = cs.length := by simp [runCs]
theorem getD_runCs (m : Int) (cs : List Cls) {i : Nat} (h : i < cs.length) : (runCs m cs).getD i clD = (runs (m + preC cs i) (cs.getD i clD).1.length, m + preC cs i + (cs.getD i clD).1.length) := by
  simp [runCs, List.getD_eq_getElem?_getD, h]
def markC (m : Int) (cs : List Cls) (f : Nat → Value) (k i j : Nat) : Value := if i < k then clF (runCs m cs) f i j else clF cs f i j
theorem markC_next (m : Int) (cs : List Cls) (f : Nat → Value) {k : Nat} (hk : k < cs.length) : ∀ i, i < cs.length → ∀ j, j < 2 →
    (if i = k ∧ j = 1 then Value.int .i64 (m + preC cs k + (cs.getD k clD).1.length) else markC m cs f k i j) = markC m cs f (k + 1) i j := by
  intro i hi j hj
  unfold markC
  have hj2 : j = 0 ∨ j = 1 := by omega
  by_cases e : i = k
  · subst e
    rw [if_pos (show i < i + 1 by omega), if_neg (Nat.lt_irrefl i)]
    unfold clF
    rw [getD_runCs m cs hk]
    rcases hj2 with rfl | rfl
    · rw [if_neg (by omega)]; rfl
    · rw [if_pos ⟨rfl, rfl⟩]; rfl
  · rw [if_neg (by omega)]
    by_cases h : i < k
    · rw [if_pos h, if_pos (by omega)]
    · rw [if_neg h, if_neg (by omega)]

set_option maxHeartbeats 4000000 in
theorem markClassS_any (v : Value) (cs : List Cls) (lo hi : Nat) (m : Int) (w : World) (h : OwnCd w lo hi v cs) (h0 : 0 ≤ m) (h1 : m + preC cs cs.length ≤ 1000000000000) :
    Calls Try.prog 13 #[v, .int .i64 m] w fun e w' => e = .returned (.int .i64 (m + preC cs cs.length)) ∧ OwnCd w' lo hi v (runCs m cs) ∧ Frm lo hi w w' := by
  obtain ⟨f, g1, g2, g3⟩ := h
  obtain ⟨p, cap, rfl, hnc, hcm, hp⟩ := g1.shape
  unfold maxLen at hcm
  have G1 := Lib.hid g1
  have G2 := Lib.hid g2
  have G3 := Lib.hid g3
  have Hp := Lib.hid hp
  clear g1 g2 g3 hp
  go_enter Try.func13, Try.ntmps13
  go_wp2
  go_loopg [1, 5] cs.length (fun n s1 i wr => ∃ k : Nat, k ≤ cs.length ∧ n = cs.length - k ∧ i = .int .i64 k ∧ s1 = .int .i64 (m + preC cs k) ∧ Frm lo hi w wr ∧
    Hid (OwnS wr lo hi 41 2 (.slice p cs.length cap) cs.length (markC m cs f k) ∧ ∀ i, i < cs.length → OwnI 3 wr lo hi (f i) (if i < k then runs (m + preC cs i) (cs.getD i clD).1.length else (cs.getD i clD).1)))
  case atStart => exact ⟨0, Nat.zero_le _, rfl, rfl, by simp [preC_zero], Frm.refl _ _ _, ⟨G1.out.congr fun i hi j hj => by simp [markC], fun i hi => by simpa using G2.out i hi⟩⟩
  case round =>
    obtain ⟨k, hk, rfl, rfl, rfl, hb, hr⟩ := hrel
    by_cases hlt : k < cs.length
    · obtain ⟨g, rfl, hg1, hg2, hg3⟩ := Hp.out (by omega)
      have hS := hr.out.1
      have c0 := hS.cell hlt (show 0 < 2 by omega)
      rw [Nat.add_zero] at c0
      have ef : markC m cs f k k 0 = f k := by unfold markC; rw [if_neg (Nat.lt_irrefl k)]; rfl
      rw [ef] at c0
      have ho := hr.out.2 k hlt
      rw [if_neg (Nat.lt_irrefl k)] at ho
      obtain ⟨p1, k1, e1, _, _⟩ := ho.shape
      obtain ⟨lo', hi', ht, hin⟩ := ho.tight
      have Hb := Lib.hid fun b hb => Own.block ho (k := b) hb
      have He := Lib.hid e1
      have hne : ∀ b, lo' ≤ b → b < hi' → b ≠ g := fun b h1 h2 e => by
        have h3 := (hin b h1 h2).1
        subst e
        exact ne_of_kinds (OwnI.kind ho b h3) (hS.kind b rfl) (by decide)
      rw [e1] at ht
      have Hin := Lib.hid hin
      have Hpp := Lib.hid (preC_succ cs k hlt)
      have hle := preC_le cs (k + 1)
      rw [Hpp.out] at hle
      rw [e1] at c0
      have HS := Lib.hid hS
      have Ho := Lib.hid ho
      have Hr2 := Lib.hid hr.out.2
      have Hne := Lib.hid hne
      have Hbf := Lib.hid hb
      clear hS ho hin ef e1 hne hr hb
      obtain ⟨Dk, hLd⟩ : ∃ D, D = (cs.getD k clD).1 := ⟨_, rfl⟩
      rw [← hLd] at ht c0 hle
      obtain ⟨L, hLn⟩ : ∃ L, L = Dk.length := ⟨_, rfl⟩
      rw [← hLn] at c0 hle
      obtain ⟨R, hR⟩ : ∃ R, R = preC cs k := ⟨_, rfl⟩
      rw [← hR] at hle ⊢
      have hc := markIntS_any _ Dk lo' hi' (m + R) wr ht (by omega) (by rw [← hLn]; omega)
      rw [← hLn] at hc
      have Hc := Lib.hid hc
      have HLd := Lib.hid hLd
      have HLn := Lib.hid hLn
      have HR := Lib.hid hR
      clear hc ht hLd hLn hR
      go_wp2_with fail
      refine Hc.out.mono ?_
      rintro e w1 ⟨rfl, ho1, hf1⟩
      have hS1 := HS.out.besides hf1 fun b hb => by
        rcases Classical.em (b < lo' ∨ hi' ≤ b) with h | h
        · exact h
        · exact (ne_of_kinds (OwnI.kind Ho.out b (Hin.out b (by omega) (by omega)).1) (HS.out.kind b hb) (by decide)).elim
      have c1 := hS1.cell hlt (show 1 < 2 by omega)
      have z1 := hS1.frozen (k * 2 + 1)
      generalize markC m cs f k k 1 = y1 at c1
      have HS1 := Lib.hid hS1
      have Ho1 := Lib.hid ho1
      have Hf1 := Lib.hid hf1
      clear ho1 hf1 hS1
      go_wp2_with fail
      go_roundg (cs.length - (k + 1))
      case measure => omega
      case rel =>
        have hrng : ∀ b, ¬ (b < lo' ∨ hi' ≤ b) → (f k).ownBlock = some b ∧ lo ≤ b ∧ b < hi := fun b hb => Hin.out b (by omega) (by omega)
        have hfw : Frm lo hi wr w1 := ⟨Hf1.out.os, Hf1.out.tape, Hf1.out.output, Hf1.out.size, fun b hb ho => Hf1.out.block b hb (by
          rcases Classical.em (b < lo' ∨ hi' ≤ b) with h | h
          · exact h
          · have := hrng b h; omega)⟩
        refine ⟨k + 1, by omega, rfl, by go_num, by rw [Hpp.out, ← HR.out, ← HLd.out, ← HLn.out]; go_num, (Hbf.out.trans hfw).setCell (p := ⟨g, k * 2 + 1, none⟩) hg1 hg2 _, ⟨?_, fun i hil => ?_⟩⟩
        · have h2 := HS1.out.set hlt (show 1 < 2 by omega) (.int .i64 (m + R + L))
          refine h2.congr fun i hi j hj => ?_
          have := markC_next m cs f hlt i hi j hj
          rw [← HR.out, ← HLd.out, ← HLn.out] at this
          exact this
        · have key : OwnI 3 w1 lo hi (f i) (if i < k + 1 then runs (m + preC cs i) (cs.getD i clD).1.length else (cs.getD i clD).1) := by
            by_cases e : i = k
            · subst e
              have h5 : OwnI 3 w1 lo hi _ _ := Ho1.out.widen (lo := lo) (hi := hi) fun b hb => by
                have := Hb.out b (by rw [He.out, ← HLd.out, ← HLn.out]; exact hb)
                omega
              rw [if_pos (by omega), ← HR.out, He.out, ← HLd.out, ← HLn.out]
              exact h5
            · have e2 : (if i < k + 1 then runs (m + preC cs i) (cs.getD i clD).1.length else (cs.getD i clD).1) = (if i < k then runs (m + preC cs i) (cs.getD i clD).1.length else (cs.getD i clD).1) := by
                by_cases h1 : i < k
                · rw [if_pos h1, if_pos (by omega)]
                · rw [if_neg h1, if_neg (by omega)]
              rw [e2]
              refine (Hr2.out i hil).besides Hf1.out fun b hb => ?_
              rcases Classical.em (b < lo' ∨ hi' ≤ b) with h | h
              · exact h
              · have h3 := (hrng b h).1
                rcases Nat.lt_or_gt_of_ne e with h4 | h4
                · exact absurd h3 (G3.out i k h4 hlt b hb)
                · exact absurd hb (G3.out k i h4 hil b h3)
          refine ⟨ownsRow_of_block key.1 fun b hb => ?_, key.2⟩
          refine Below.heap_setCell _ _ _ _ (show b ≠ (⟨g, k * 2 + 1, none⟩ : Addr).block from fun e => ?_)
          subst e
          exact ne_of_kinds (OwnI.kind key _ hb) (HS1.out.kind _ rfl) (by decide)
    · obtain rfl : k = cs.length := by omega
      have Hr := Lib.hid hr.out
      have Hbf := Lib.hid hb
      clear hr hb
      go_wp2
      go_ret
      refine ⟨rfl, ⟨f, ?_, fun i hi => ?_, ?_⟩, Hbf.out⟩
      · rw [length_runCs]
        exact Hr.out.1.congr fun i hi j hj => by unfold markC; rw [if_pos hi]
      · rw [length_runCs] at hi
        have := Hr.out.2 i hi
        rw [if_pos hi] at this
        rw [getD_runCs m cs hi]
        exact this
      · rw [length_runCs]; exact G3.out

set_option maxHeartbeats 4000000 in
theorem heldClassS_runs (v : Value) (cs : List Cls) (m : Int) (w : World) (h : RdCl w v (runCs m cs)) (h0 : 0 ≤ m) (h1 : m + preC cs cs.length ≤ 1000000000000) :
    Calls Try.prog 14 #[v, .int .i64 m] w fun e w' => e = .returned (.int .i64 (m + preC cs cs.length)) ∧ Below w.heap.size w w' := by
  obtain ⟨f, hs, hf⟩ := h
  obtain ⟨p, cap, rfl, ⟨hx1, hx⟩, hxc⟩ := hs.two
  rw [length_runCs] at hx1 hxc hf ⊢
  unfold maxLen at hx
  have Hf := Lib.hid hf
  have Hxc := Lib.hid hxc
  clear hf hs hxc
  go_enter Try.func14, Try.ntmps14
  go_wp2
  go_loopg [1, 5] cs.length (fun n s1 i wr => ∃ k : Nat, k ≤ cs.length ∧ n = cs.length - k ∧ i = .int .i64 k ∧ s1 = .int .i64 (m + preC cs k) ∧ Hid (Below w.heap.size w wr))
  case atStart => exact ⟨0, Nat.zero_le _, rfl, rfl, by simp [preC_zero], Lib.hid (Below.refl _ _)⟩
  case round =>
    obtain ⟨k, hk, rfl, rfl, rfl, hb⟩ := hrel
    have Hb := Lib.hid hb.out
    clear hb
    by_cases hlt : k < cs.length
    · obtain ⟨b, rfl, hc⟩ := Hxc.out (by omega)
      obtain ⟨a0, a1⟩ := hc k hlt
      have c0 := cell_below Hb.out a0
      have c1 := cell_below Hb.out a1
      have hi := (Hf.out k hlt).below Hb.out
      rw [getD_runCs m cs hlt] at c1 hi
      dsimp only at c1 hi
      have Hpp := Lib.hid (preC_succ cs k hlt)
      have hle := preC_le cs (k + 1)
      rw [Hpp.out] at hle
      obtain ⟨L, hLn⟩ : ∃ L, L = (cs.getD k clD).1.length := ⟨_, rfl⟩
      rw [← hLn] at c1 hi hle
      obtain ⟨R, hR⟩ : ∃ R, R = preC cs k := ⟨_, rfl⟩
      rw [← hR] at c1 hi hle ⊢
      obtain ⟨y, hy⟩ : ∃ y, y = f k := ⟨_, rfl⟩
      rw [← hy] at c0 hi
      have Hq := Lib.hid (heldIntS_runs y L (m + R) wr hi (by omega) (by omega))
      have HLn := Lib.hid hLn
      have HR := Lib.hid hR
      have hml : ¬ m + (R : Int) + (L : Int) < 0 := by omega
      have hne : (m + (R : Int) + (L : Int) != m + (R : Int) + (L : Int)) = false := by simp
      clear a0 a1 hc hi hLn hR hy
      go_wp2_with fail
      refine Hq.out.mono ?_
      rintro e w1 ⟨rfl, hb1⟩
      have c1' := cell_below hb1 c1
      have Hb1 := Lib.hid hb1
      clear hb1 c0 c1 Hq
      go_wp2_with fail
      go_roundg (cs.length - (k + 1))
      case measure => omega
      case rel => exact ⟨k + 1, by omega, rfl, by go_num, by rw [Hpp.out, ← HR.out, ← HLn.out]; go_num, Lib.hid (Hb.out.trans (Hb1.out.mono Hb.out.size))⟩
    · obtain rfl : k = cs.length := by omega
      go_wp2
      go_ret
      exact ⟨rfl, Hb.out⟩

end Go.Proofs.Ytajmoclnmphmgaa

namespace Go.Proofs.Ytajmoclnmphmgaa
set_option linter.all false
set_option maxRecDepth 100000
open Go.RowKit

theorem GkIs.some (N : Int) (vs y : List Int) : ∃ b, GkIs N vs y b := by
  by_cases h : apOk N y = true ∧ vs.length = fact N.toNat ∧ mostB vs = true ∧ ∀ x i j, x < fact N.toNat → i < j → j < N.toNat → gkAt N.toNat vs y x i j
  · exact ⟨true, ⟨fun _ => h, fun _ => rfl⟩⟩
  · exact ⟨false, ⟨fun e => (by cases e), fun e => absurd e h⟩⟩
theorem GkIs.nat {N : Int} {vs y : List Int} (h : GkIs N vs y true) : ∃ n : Nat, N = (n : Int) ∧ YOk n y ∧ vs.length = fact n ∧ RestOk n 0 vs := by
  obtain ⟨ha, hvl, hmo, hgk⟩ := h.1 rfl
  have hN : 1 ≤ N := by
    simp only [apOk, nmOk, Bool.and_eq_true, decide_eq_true_eq] at ha
    exact ha.1.1.1.1.1
  obtain ⟨n, rfl⟩ := Int.eq_ofNat_of_zero_le (show (0 : Int) ≤ N by omega)
  rw [Int.toNat_natCast] at hvl
  refine ⟨n, rfl, yOk ha, hvl, hvl, fun i hi => ?_⟩
  simp only [mostB, decide_eq_true_eq] at hmo
  have := hmo _ (getD_mem (show i < vs.length by rw [hvl]; exact hi))
  omega
theorem implExpand_any (N : Int) (v u : Value) (vs ys : List Int) (w : World) (hv : Ints w v vs) (hy : Ints w u ys) (b : Bool) (h : GkIs N vs ys b) :
    Calls Try.prog 9 #[.int .i64 N, v, u] w (RetCB w (if b then expE N.toNat vs ys (ordL N.toNat) else ([], false))) := by
  cases b with
  | false => exact implExpand_no N v u vs ys w hv hy h
  | true =>
    obtain ⟨n, rfl, _⟩ := h.nat
    exact implExpand_yes n v u vs ys w hv hy h

theorem preC_bound {B : Nat} : ∀ {cs : List Cls}, (∀ c ∈ cs, c.1.length ≤ B) → preC cs cs.length ≤ cs.length * (B + 1) := by
  intro cs h
  unfold preC
  rw [List.take_of_length_le (Nat.le_refl _)]
  induction cs with
  | nil => simp
  | cons c cs ih =>
    have a := ih fun x hx => h x (List.mem_cons_of_mem _ hx)
    have b := h c List.mem_cons_self
    rw [List.map_cons, List.sum_cons, List.length_cons, Nat.add_mul, Nat.one_mul]
    omega
theorem exGo_out {n : Nat} {ys : List Int} : ∀ (l done : List Nat) (rest : List Int) (out o : List Cls), exGo n ys l rest out = some o → OutOk n done out → OutOk n (done ++ l) o
  | [], done, rest, out, o, h, ho => by
    rw [exGo] at h
    injection h with h
    rw [← h, List.append_nil]; exact ho
  | x :: l, done, rest, out, o, h, ho => by
    rw [exGo] at h
    have e : done ++ x :: l = (done ++ [x]) ++ l := by simp
    by_cases h1 : badA n ys rest x
    · rw [if_pos h1] at h; cases h
    · rw [if_neg h1] at h
      by_cases h2 : qoA n ys rest x = 0
      · rw [if_pos h2] at h
        rw [e]
        exact exGo_out l _ _ _ _ h (ho.skip x)
      · rw [if_neg h2] at h
        rw [e]
        exact exGo_out l _ _ _ _ h (ho.snoc x _)
theorem expE_len {n : Nat} {ys : List Int} (hy : YOk n ys) (vs : List Int) : preC (expE n vs ys (ordL n)).1 (expE n vs ys (ordL n)).1.length ≤ 1000000 := by
  unfold expE
  cases h : exGo n ys (ordL n) vs [] with
  | none => simp [resE, preC]
  | some o =>
    have OI := ordIs hy.one hy.four
    have hf := fact4 hy.one (show n ≤ 5 by have := hy.four; omega)
    have ho : OutOk n (ordL n) o := exGo_out (ordL n) [] vs [] o h (List.Sublist.refl _)
    have hp : (ordL n ++ []).Perm (List.range (fact n)) := by rw [List.append_nil]; exact OI.perm
    show preC (srtC o) (srtC o).length ≤ _
    have a := preC_bound (B := 1000) (cs := srtC o) fun c hc => by
      obtain ⟨i, hi, e⟩ := List.mem_iff_getElem.1 hc
      have := out_trim hy ho hp i hi
      rw [List.getD_eq_getElem?_getD, List.getElem?_eq_getElem hi] at this
      rw [← e]; exact this
    have b := out_len ho hp hf.2
    have := Nat.mul_le_mul_right (1000 + 1) b
    omega
theorem resB_len (N : Int) (vs ys : List Int) (b : Bool) (h : GkIs N vs ys b) : preC (if b then expE N.toNat vs ys (ordL N.toNat) else ([], false)).1 (if b then expE N.toNat vs ys (ordL N.toNat) else ([], false)).1.length ≤ 1000000 := by
  cases b with
  | false => simp [preC]
  | true =>
    obtain ⟨n, rfl, hy, _⟩ := h.nat
    exact expE_len hy vs

end Go.Proofs.Ytajmoclnmphmgaa

namespace Go.Proofs.Ytajmoclnmphmgaa
set_option linter.all false
set_option maxRecDepth 100000
open Go.RowKit

section
variable {n : Nat} {ys : List Int}
theorem tab_at (hy : YOk n ys) {u : List Int} (hu : P5 n u) {i : Nat} (hi : i < fact n) : (tabL u ys).getD i 0 = FW n ys u (pmA n i) := by
  rw [tab_getD hu.len hi]
  have hb := FW_bound hy.len hy.one hy.four hy.nine hu (pm_p5 hy hi)
  unfold tabV
  have e : Ev (dblP u ys) (mono (pickL ((permsL n).getD i []) ys)) = FW n ys u (pmA n i) := by
    unfold FW EV dblP
    rw [hu.len]; rfl
  rw [e]
  exact wrap_of (by omega)
theorem tab_bound (hy : YOk n ys) {u : List Int} (hu : P5 n u) {i : Nat} (hi : i < fact n) : ((tabL u ys).getD i 0).natAbs ≤ 1000000 := by
  rw [tab_at hy hu hi]
  exact FW_bound hy.len hy.one hy.four hy.nine hu (pm_p5 hy hi)
/-- two tables multiplied place by place -/
def mulT (n : Nat) (ys u v : List Int) : List Int := (List.range (fact n)).map fun i => (tabL u ys).getD i 0 * (tabL v ys).getD i 0
theorem mulT_length (n : Nat) (ys u v : List Int) : (mulT n ys u v).length = fact n := by simp [mulT]
theorem mulT_getD {u v : List Int} {i : Nat} (h : i < fact n) : (mulT n ys u v).getD i 0 = (tabL u ys).getD i 0 * (tabL v ys).getD i 0 := by simp [mulT, List.getD_eq_getElem?_getD, h]
theorem mulT_bound (hy : YOk n ys) {u v : List Int} (hu : P5 n u) (hv : P5 n v) {i : Nat} (hi : i < fact n) : ((mulT n ys u v).getD i 0).natAbs ≤ 1000000 * 1000000 := by
  rw [mulT_getD hi]
  exact abs_mul2 (tab_bound hy hu hi) (tab_bound hy hv hi)
theorem mulT_rest (hy : YOk n ys) {u v : List Int} (hu : P5 n u) (hv : P5 n v) : RestOk n 0 (mulT n ys u v) := ⟨mulT_length n ys u v, fun i hi => by have := mulT_bound hy hu hv hi; omega⟩
theorem most_of {vs : List Int} (h : ∀ i, i < vs.length → (vs.getD i 0).natAbs ≤ 1000000 * 1000000) : mostB vs = true := by
  simp only [mostB, decide_eq_true_eq]
  intro x hx
  obtain ⟨i, hi, e⟩ := List.mem_iff_getElem.1 hx
  have := h i hi
  rw [getD_lt hi, e] at this
  omega
/-- values that are those of a polynomial pass -/
theorem gk_of (hy : YOk n ys) {vs : List Int} {f : List Int → Int} (hl : vs.length = fact n) (hf : ∀ i, i < fact n → vs.getD i 0 = f (pmA n i)) (hb : ∀ i, i < fact n → (vs.getD i 0).natAbs ≤ 1000000 * 1000000)
    (hm : ∀ p, P5 n p → ∀ i j, i < n → j < n → Mg (yAt ys p i - yAt ys p j) (f p) (f (swapL p i j))) : GkIs n vs ys true := by
  refine ⟨fun _ => ⟨hy.ap, by rw [Int.toNat_natCast]; exact hl, most_of fun i hi => hb i (by rw [← hl]; exact hi), fun x i j hx hij hj => ?_⟩, fun _ => rfl⟩
  rw [Int.toNat_natCast] at hx hj ⊢
  have G := gkN hy.one hy.four
  obtain ⟨p1, p2⟩ := G.plc x i j hx hij hj
  unfold gkAt
  rw [hf x hx, hf _ p1]
  have e : pmA n (plN (swapL ((permsL n).getD x []) i j)) = swapL (pmA n x) i j := p2
  rw [e]
  exact (hm _ (pm_p5 hy hx) i j (by omega) hj).tmod
theorem gk_tab (hy : YOk n ys) {u : List Int} (hu : P5 n u) : GkIs n (tabL u ys) ys true :=
  gk_of hy (f := FW n ys u) (by rw [tabL_length, hu.len]) (fun i hi => tab_at hy hu hi) (fun i hi => by have := tab_bound hy hu hi; omega) fun p hp i j hi hj => FW_swap hp hi hj u
theorem gk_mul (hy : YOk n ys) {u v : List Int} (hu : P5 n u) (hv : P5 n v) : GkIs n (mulT n ys u v) ys true :=
  gk_of hy (f := fun p => FW n ys u p * FW n ys v p) (mulT_length n ys u v) (fun i hi => by rw [mulT_getD hi, tab_at hy hu hi, tab_at hy hv hi]) (fun i hi => mulT_bound hy hu hv hi)
    fun p hp i j hi hj => (FW_swap hp hi hj u).mul (FW_swap hp hi hj v)
end

def eqOk (us vs ys : List Int) : Bool := permOk us && permOk vs && decide (us.length = vs.length) && apOk us.length ys
/-- what EquivariantProduct says -/
def eqL (us vs ys : List Int) : List Cls × Bool := if eqOk us vs ys then expE us.length (mulT us.length ys us vs) ys (ordL us.length) else ([], false)
theorem eqL_no {us vs ys : List Int} (h : eqOk us vs ys = false) : eqL us vs ys = ([], false) := by unfold eqL; rw [h]; rfl
theorem eqL_yes {us vs ys : List Int} (h : eqOk us vs ys = true) : eqL us vs ys = expE us.length (mulT us.length ys us vs) ys (ordL us.length) := by unfold eqL; rw [h]; rfl
structure EqIs (n : Nat) (us vs ys : List Int) : Prop where
  y : YOk n ys
  u : P5 n us
  v : P5 n vs
theorem eqIs {us vs ys : List Int} (h : eqOk us vs ys = true) : EqIs us.length us vs ys := by
  simp only [eqOk, Bool.and_eq_true, decide_eq_true_eq] at h
  obtain ⟨⟨⟨a, b⟩, c⟩, d⟩ := h
  have hy := yOk d
  exact ⟨hy, ⟨a, rfl, by have := hy.four; omega⟩, ⟨b, c.symm, by have := hy.four; omega⟩⟩
theorem eqL_len (us vs ys : List Int) : preC (eqL us vs ys).1 (eqL us vs ys).1.length ≤ 1000000 := by
  cases h : eqOk us vs ys with
  | false => rw [eqL_no h]; simp [preC]
  | true => rw [eqL_yes h]; exact expE_len (eqIs h).y _

end Go.Proofs.Ytajmoclnmphmgaa
