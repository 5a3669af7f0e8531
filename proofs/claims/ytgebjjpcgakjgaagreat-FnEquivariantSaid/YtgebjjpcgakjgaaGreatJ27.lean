/-
  EmbedPerm.
  EquivariantProduct on both sides.
  The laws' own comparison of classes.
  impl.IsBelowPerm.
  The law FnEquivariant, walked.
-/
import Derived.Test.YtgebjjpcgakjgaaGreatJ26
import Derived.Test.YtgebjjpcgakjgaaGreatJ3
import Derived.Test.YtgebjjpcgakjgaaGreatJ19
import Derived.Test.YtgebjjpcgakjgaaGreatJ23
import Derived.Test.YtgebjjpcgakjgaaGreatJ13
import Derived.Test.YtgebjjpcgakjgaaGreatJ12
import Derived.Test.YtgebjjpcgakjgaaGreatJ8
namespace Go.Proofs.YtgebjjpcgakjgaaGreat
set_option linter.all false
set_option maxRecDepth 100000
open Go.RowKit

theorem grow_drop {t : List Int} {n : Nat} (h : t.length ≤ n) : t ++ (idL n).drop t.length = growL t n := by
  unfold growL idL
  congr 1
  refine List.ext_getElem (by simp) fun i h1 h2 => ?_
  simp

set_option maxHeartbeats 2000000 in
theorem EmbedPerm_any (v : Value) (t : List Int) (n : Nat) (w : World) (h : Ints w v t) (hp : permOk t = true) (h1 : 1 ≤ n) (hl : t.length ≤ n) (h7 : n ≤ 7) :
    Calls Tryz.prog 9 #[v, .int .i64 (n : Int)] w (RetI w (growL t n)) := by
  rw [← grow_drop hl]
  have Hh := Lib.hid h
  have Hp := Lib.hid hp
  obtain ⟨p, cap, rfl, ⟨m1, m2⟩, _⟩ := h
  unfold maxLen at m2
  obtain ⟨l, hll⟩ : ∃ l, l = t.length := ⟨_, rfl⟩
  have Hl := Lib.hid hll
  have hlz : ¬ (n : Int) < (l : Int) := by omega
  have h7z : ¬ (7 : Int) < (n : Int) := by omega
  have hlz2 : (l : Int) ≤ (n : Int) := by omega
  rw [← hll] at hl m1 ⊢
  clear hp hll
  go_enter Tryz.func9, Tryz.ntmps9
  go_wp2_with fail
  refine (implIsPerm_any _ t _ (by rw [Hl.out]; exact Hh.out)).mono ?_
  rintro e w1 ⟨rfl, hb1⟩
  rw [Hp.out]
  have Hb1 := Lib.hid hb1
  clear hb1
  go_wp2_with fail
  refine (clone_any _ t _ (by rw [Hl.out]; exact Hh.out.below Hb1.out) (by rw [← Hl.out]; omega)).mono ?_
  rintro e w2 ⟨u2, rfl, ho2, hb2⟩
  have Hb2 := Lib.hid (below_trans Hb1.out hb2)
  obtain ⟨p2, k2, rfl, _, _⟩ := ho2.shape
  have hs1 := Hb1.out.size
  have Ho2 := Lib.hid (ho2.mono hs1 (Nat.le_refl _))
  rw [← Hl.out] at Ho2 ⊢
  clear ho2 hb2
  go_wp2_with fail
  refine (implIdentity_any n _ h1 h7).mono ?_
  rintro e w3 ⟨u3, rfl, ho3, hb3⟩
  have hidl : (idL n).length = n := idL_length n
  have Hb3 := Lib.hid (below_trans Hb2.out hb3)
  obtain ⟨p3, k3, rfl, hk3, hk3m⟩ := ho3.shape
  rw [hidl] at hk3 ⊢
  unfold maxLen at hk3m
  obtain ⟨g3, rfl, _, _, _⟩ := ho3.fn.at_ (by rw [hidl]; exact h1)
  have hI3 := ho3.ints
  rw [hidl] at hI3
  have hs2 := Hb2.out.size
  have hs3 := hb3.size
  have Hown := Lib.hid ((Ho2.out.below hb3).fn)
  have Hd := Lib.hid (ints_drop3 hI3 hidl hl hk3 hk3m)
  have Hdl := Lib.hid (show ((idL n).drop l).length = n - l by rw [List.length_drop, hidl])
  have hkl : (l : Int) ≤ (k3 : Int) := by omega
  have hkl2 : l ≤ k3 := by omega
  rw [← Hl.out] at Hown
  clear ho3 hb3 hI3 hidl
  go_wp2_with (at_builtin; go_must (refine wpList_append_F rfl (.tmp 19) (.tmp 24) 24 rfl 3 (.int .i64 0) 8 Tryz.underlying24 info_int rfl w.heap.size w2.heap.size _ l (iv t) rfl Hown.out (by omega) (by omega) _ (n - l) (iv ((idL n).drop l)) rfl (by have := Hd.out; unfold Ints at this; rw [Hdl.out] at this; exact this) (fun j _ => iv_one _ j) (by unfold maxLen; omega) (by omega) ?_; intro v' w' hv hg))
  all_goals
    have hres : OwnI 3 w' w.heap.size w'.heap.size v' (t ++ (idL n).drop l) := own_join (by rw [← Hl.out, Hdl.out]; exact hv)
    have Hres := Lib.hid hres
    have Hbe := Lib.hid (Hb3.out.trans (grownBy_below hg Hown.out.blocks (Nat.le_refl _) (by omega)))
    obtain ⟨pv, lv, kv, rfl⟩ : ∃ p l k, v' = .slice p l k := by obtain ⟨p, k, e, _⟩ := hres.shape; exact ⟨_, _, _, e⟩
    clear hres hv hg
    go_wp2_with fail
    go_ret
    exact ⟨_, rfl, Hres.out, Hbe.out⟩

end Go.Proofs.YtgebjjpcgakjgaaGreat

namespace Go.Proofs.YtgebjjpcgakjgaaGreat
set_option linter.all false
set_option maxRecDepth 100000
open Go.RowKit

theorem implAp_c (N : Int) (v : Value) (y : List Int) (b : Bool) (hb : apOk N y = b) (w : World) (h : Ints w v y) : Calls Tryz.prog 19 #[.int .i64 N, v] w fun e w' => e = .returned (.bool b) ∧ Below w.heap.size w w' :=
  (weightsOk_any N v y w h).mono fun e w' ⟨h1, h2⟩ => ⟨by rw [h1, hb], h2.below _⟩
set_option maxHeartbeats 16000000 in
theorem implEqui_any (pu pv py : Value) (us vs ys : List Int) (w : World) (hu : Ints w pu us) (hv : Ints w pv vs) (hy : Ints w py ys) :
    Calls Tryz.prog 6 #[pu, pv, py] w (RetCB w (eqL us vs ys)) := by
  have HU := Lib.hid hu
  have HV := Lib.hid hv
  have HY := Lib.hid hy
  obtain ⟨au, cu, rfl, ⟨hu1, hu2⟩, hux⟩ := hu
  obtain ⟨av, cv, rfl, ⟨hv1, hv2⟩, hvx⟩ := hv
  obtain ⟨ay, cy, rfl, ⟨hy1, hy2⟩, hyx⟩ := hy
  clear hux hvx hyx
  unfold maxLen at hu2 hv2 hy2
  have no : ∀ w', eqOk us vs ys = false → Below w.heap.size w w' → RetCB w (eqL us vs ys) (.returned (.tuple #[.slice none 0 0, .bool false])) w' := fun w' h hb => by rw [eqL_no h]; exact ⟨_, rfl, OwnCd.nil _ _ _, hb⟩
  have No := Lib.hid no
  clear no
  go_enter Tryz.func6, Tryz.ntmps6
  cases h1 : permOk us with
  | false =>
    have H1 := Lib.hid h1
    clear h1
    go_wp2_with fail
    refine (implIsPerm_b _ us false H1.out _ HU.out).mono ?_
    rintro e w1 ⟨rfl, hb⟩
    have Hb := Lib.hid hb
    clear hb
    go_wp2_with fail
    go_ret2
    exact No.out _ (by unfold eqOk; rw [H1.out]; rfl) Hb.out
  | true =>
  cases h2 : permOk vs with
  | false =>
    have H1 := Lib.hid h1
    have H2 := Lib.hid h2
    clear h1 h2
    go_wp2_with fail
    refine (implIsPerm_b _ us true H1.out _ HU.out).mono ?_
    rintro e w1 ⟨rfl, hb⟩
    have Hb := Lib.hid hb
    clear hb
    go_wp2_with fail
    refine (implIsPerm_b _ vs false H2.out _ (HV.out.below Hb.out)).mono ?_
    rintro e w2 ⟨rfl, hb2⟩
    have Hb2 := Lib.hid (below_trans Hb.out hb2)
    clear hb2
    go_wp2_with fail
    go_ret2
    exact No.out _ (by unfold eqOk; rw [H2.out]; simp) Hb2.out
  | true =>
  have H1 := Lib.hid h1
  have H2 := Lib.hid h2
  clear h1 h2
  by_cases h3 : us.length = vs.length
  · have H3 := Lib.hid h3
    rw [← h3] at hv1 HV ⊢
    clear h3
    cases h4 : apOk us.length ys with
    | false =>
      have H4 := Lib.hid h4
      clear h4
      go_wp2_with fail
      refine (implIsPerm_b _ us true H1.out _ HU.out).mono ?_
      rintro e w1 ⟨rfl, hb⟩
      have Hb := Lib.hid hb
      clear hb
      go_wp2_with fail
      refine (implIsPerm_b _ vs true H2.out _ (by have := HV.out.below Hb.out; exact this)).mono ?_
      rintro e w2 ⟨rfl, hb2⟩
      have Hb2 := Lib.hid (below_trans Hb.out hb2)
      clear hb2
      go_wp2_with fail
      refine (implAp_c _ _ ys false H4.out _ (HY.out.below Hb2.out)).mono ?_
      rintro e w3 ⟨rfl, hb3⟩
      have Hb3 := Lib.hid (below_trans Hb2.out hb3)
      clear hb3
      go_wp2_with fail
      go_ret2
      exact No.out _ (by unfold eqOk; rw [H4.out]; simp) Hb3.out
    | true =>
      have H4 := Lib.hid h4
      have hok : eqOk us vs ys = true := by unfold eqOk; rw [H1.out, H2.out, decide_eq_true H3.out, h4]; rfl
      have E := eqIs hok
      rw [eqL_yes hok]
      clear h4 hok No
      obtain ⟨n, hn⟩ : ∃ n, n = us.length := ⟨_, rfl⟩
      rw [← hn] at E H3 H4 hu1 hv1 HU HV ⊢
      have HE := Lib.hid E
      have Hn := Lib.hid hn
      obtain ⟨F, hF⟩ : ∃ F, F = fact n := ⟨_, rfl⟩
      have hf := fact4 E.y.one (show n ≤ 5 by have := E.y.four; omega)
      rw [← hF] at hf
      have HF := Lib.hid hF
      have hyl := E.y.len
      rw [hyl] at hy1 HY ⊢
      clear E hF hn hyl
      go_wp2_with fail
      refine (implIsPerm_b _ us true H1.out _ HU.out).mono ?_
      rintro e w1 ⟨rfl, hb⟩
      have Hb := Lib.hid hb
      clear hb
      go_wp2_with fail
      refine (implIsPerm_b _ vs true H2.out _ (HV.out.below Hb.out)).mono ?_
      rintro e w2 ⟨rfl, hb2⟩
      have Hb2 := Lib.hid (below_trans Hb.out hb2)
      clear hb2
      go_wp2_with fail
      refine (implAp_c _ _ ys true H4.out _ (HY.out.below Hb2.out)).mono ?_
      rintro e w3 ⟨rfl, hb3⟩
      have Hb3 := Lib.hid (below_trans Hb2.out hb3)
      clear hb3
      go_wp2_with fail
      refine (implTable_any n us ys _ _ w3 HE.out.u HE.out.y.one HE.out.y.four HE.out.y.len HE.out.y.nine (HU.out.below Hb3.out) (HY.out.below Hb3.out)).mono ?_
      rintro e w4 ⟨ua, rfl, hoa, hb4⟩
      have hla : (tabL us ys).length = F := by rw [tabL_length, HE.out.u.len, HF.out]
      have ha := hoa.fn
      obtain ⟨pa, ka, rfl, hka, hkam⟩ := hoa.shape
      unfold maxLen at hkam
      rw [hla] at ha hka ⊢
      have hs4 := hb4.size
      have HA := Lib.hid ha
      have Hb4 := Lib.hid (below_trans Hb3.out hb4)
      have hs3 := Hb3.out.size
      clear ha hb4 hoa hla
      go_wp2_with fail
      refine (implTable_any n vs ys _ _ w4 HE.out.v HE.out.y.one HE.out.y.four HE.out.y.len HE.out.y.nine (HV.out.below Hb4.out) (HY.out.below Hb4.out)).mono ?_
      rintro e w5 ⟨ub, rfl, hob, hb5⟩
      have hlb : (tabL vs ys).length = F := by rw [tabL_length, HE.out.v.len, HF.out]
      have hb' := hob.fn
      obtain ⟨pb, kb, rfl, hkb, hkbm⟩ := hob.shape
      unfold maxLen at hkbm
      rw [hlb] at hb' hkb ⊢
      have hs5 := hb5.size
      have ha5 := HA.out.below hb5
      obtain ⟨ga, rfl, hga1, hga2, hga3⟩ := ha5.at_ (by omega)
      obtain ⟨gb, rfl, hgb1, hgb2, hgb3⟩ := hb'.at_ (by omega)
      have HA5 := Lib.hid ha5
      have HB5 := Lib.hid (show ∀ j, j < F → w5.cell? ⟨gb, j, none⟩ = some (iv (tabL vs ys) j) from fun j hj => hb'.cell hj)
      have Hb5 := Lib.hid (below_trans Hb4.out hb5)
      have hgab : w4.heap.size ≤ gb := hgb1
      clear ha5 hb' hb5 hob hlb HA
      go_wp2_with fail
      go_loopg [12, 49] F (fun g s12 s49 wr => ∃ j : Nat, j ≤ F ∧ g = F - j ∧ s49 = .int .i64 (j : Int) ∧ Hid (Frm w3.heap.size w4.heap.size w5 wr) ∧ Hid (OwnF wr w3.heap.size w4.heap.size 3 (.slice (some ⟨ga, 0, none⟩) F ka) F (fun t => if t < j then iv (mulT n ys us vs) t else iv (tabL us ys) t)))
      case atStart => exact ⟨0, Nat.zero_le _, rfl, rfl, Lib.hid (Frm.refl _ _ _), Lib.hid (HA5.out.congr fun t _ => by rw [if_neg (Nat.not_lt_zero _)])⟩
      case round =>
        obtain ⟨j, hj, rfl, rfl, hfj, hoj⟩ := hrel
        obtain ⟨wz, rfl⟩ : ∃ x : World, x = wr := ⟨_, rfl⟩
        have Hfj := Lib.hid hfj.out
        have Hoj := Lib.hid hoj.out
        clear hfj hoj
        by_cases hjF : j < F
        · have hjFi : (j : Int) < (F : Int) := by omega
          obtain ⟨a, haa⟩ : ∃ a, a = (tabL us ys).getD j 0 := ⟨_, rfl⟩
          obtain ⟨b, hbb⟩ : ∃ b, b = (tabL vs ys).getD j 0 := ⟨_, rfl⟩
          have ca : wz.cell? ⟨ga, j, none⟩ = some (.int .i64 a) := by rw [Hoj.out.cell hjF, if_neg (Nat.lt_irrefl _), haa]; rfl
          have fa : wz.frozen? ⟨ga, j, none⟩ = false := Hoj.out.frozen j
          have cb : wz.cell? ⟨gb, j, none⟩ = some (.int .i64 b) := by
            have := HB5.out j hjF
            unfold World.cell? at this ⊢
            rw [Hfj.out.block gb hgb3 (.inr hgab), hbb]
            exact this
          obtain ⟨M, hM⟩ : ∃ M, M = a * b := ⟨_, rfl⟩
          have hMb : M.natAbs ≤ 1000000 * 1000000 := by rw [hM, haa, hbb]; exact abs_mul2 (tab_bound HE.out.y HE.out.u (by rw [← HF.out]; exact hjF)) (tab_bound HE.out.y HE.out.v (by rw [← HF.out]; exact hjF))
          have hwM : IntKind.i64.wrap (a * b) = M := by rw [← hM, IntKind.wrap_i64]; omega
          have Ha := Lib.hid haa
          have HB := Lib.hid hbb
          have HM := Lib.hid hM
          clear haa hbb hM hMb
          go_wp2_with fail
          go_region
          go_wp2_with fail
          go_roundg (F - (j + 1))
          case measure => omega
          case rel =>
            refine ⟨j + 1, by omega, rfl, by go_num, Lib.hid ?_, Lib.hid ?_⟩
            · exact (Hfj.out.setCell (p := ⟨ga, j, none⟩) hga1 hga2 _).drewN 1
            · have h1 := Hoj.out.set j (.int .i64 M)
              have h2 : OwnF (wz.setCell ⟨ga, j, none⟩ (.int .i64 M)).drew w3.heap.size w4.heap.size 3 (.slice (some ⟨ga, 0, none⟩) F ka) F _ := h1.below ((Below.refl _ _).drew)
              refine h2.congr fun t ht => ?_
              by_cases h3 : t = j
              · rw [if_pos h3, if_pos (by omega), h3]
                unfold iv
                rw [mulT_getD (by rw [← HF.out]; exact hjF), HM.out, Ha.out, HB.out]
              · rw [if_neg h3]
                by_cases h4 : t < j
                · rw [if_pos h4, if_pos (by omega)]
                · rw [if_neg h4, if_neg (by omega)]
        · have hjFi : ¬ (j : Int) < (F : Int) := by omega
          have hjE : j = F := by omega
          have hml : (mulT n ys us vs).length = F := by rw [mulT_length, HF.out]
          have Hmz := Lib.hid (show Ints wz (.slice (some ⟨ga, 0, none⟩) F ka) (mulT n ys us vs) from by
            refine OwnI.ints (T := 3) (lo := w3.heap.size) (hi := w4.heap.size) (OwnF.ints ?_)
            rw [hml]
            exact Hoj.out.congr fun t ht => by rw [if_pos (by omega)])
          have hbz : Below w.heap.size w wz := Hb5.out.trans (Hfj.out.below hs3 Hb5.out.size)
          have Hbz := Lib.hid hbz
          have Hyz := Lib.hid (HY.out.below hbz)
          have Hx := Lib.hid (implExpand_any n _ _ _ ys wz Hmz.out Hyz.out true (gk_mul HE.out.y HE.out.u HE.out.v))
          rw [show (if true = true then expE (n : Int).toNat (mulT n ys us vs) ys (ordL (n : Int).toNat) else ([], false)) = expE n (mulT n ys us vs) ys (ordL n) from rfl] at Hx
          obtain ⟨E', hE'⟩ : ∃ E', E' = expE n (mulT n ys us vs) ys (ordL n) := ⟨_, rfl⟩
          rw [← hE'] at Hx
          have HE' := Lib.hid hE'
          clear hml hbz hE'
          go_wp2_with fail
          refine Hx.out.mono ?_
          rintro e w9 ⟨r, rfl, hor, hbr⟩
          obtain ⟨pr, kr, rfl, _, _⟩ := hor.shape
          have Hor := Lib.hid hor
          have Hbr := Lib.hid hbr
          clear hor hbr Hx
          go_wp2_with fail
          go_ret2
          rw [← HE'.out]
          exact ⟨_, rfl, Hor.out.mono Hbz.out.size (Nat.le_refl _), Hbz.out.trans (Hbr.out.mono Hbz.out.size)⟩
  · have H3 := Lib.hid h3
    have hni : (((us.length : Int)) != (vs.length : Int)) = true := by simp; omega
    clear h3
    go_wp2_with fail
    refine (implIsPerm_b _ us true H1.out _ HU.out).mono ?_
    rintro e w1 ⟨rfl, hb⟩
    have Hb := Lib.hid hb
    clear hb
    go_wp2_with fail
    refine (implIsPerm_b _ vs true H2.out _ (HV.out.below Hb.out)).mono ?_
    rintro e w2 ⟨rfl, hb2⟩
    have Hb2 := Lib.hid (below_trans Hb.out hb2)
    clear hb2
    go_wp2_with fail
    go_ret2
    exact No.out _ (by unfold eqOk; rw [decide_eq_false H3.out]; simp) Hb2.out

end Go.Proofs.YtgebjjpcgakjgaaGreat

namespace Go.Proofs.YtgebjjpcgakjgaaGreat
set_option linter.all false
set_option maxRecDepth 100000
open Go.RowKit

set_option maxHeartbeats 4000000 in
theorem classes_same (v1 v2 : Value) (cs : List Cls) (w : World) (h1 : RdCl w v1 cs) (h2 : RdCl w v2 cs) :
    Calls Tryz.prog 8 #[v1, v2] w fun e w' => e = .returned (.bool true) ∧ Qt w w' := by
  obtain ⟨f, hs1, hf⟩ := h1
  obtain ⟨g, hs2, hg⟩ := h2
  obtain ⟨p, cap, rfl, ⟨hx1, hx⟩, hxc⟩ := hs1.two
  obtain ⟨q, cap', rfl, ⟨hy1, hy⟩, hyc⟩ := hs2.two
  unfold maxLen at hx hy
  obtain ⟨N, hN⟩ : ∃ N, N = cs.length := ⟨_, rfl⟩
  have HN := Lib.hid hN
  rw [← hN] at hx1 hy1 hxc hyc hf hg ⊢
  have hz : ((N : Int) != (N : Int)) = false := by simp
  have Hf := Lib.hid hf
  have Hg := Lib.hid hg
  have Hxc := Lib.hid hxc
  have Hyc := Lib.hid hyc
  clear hf hg hs1 hs2 hxc hyc hN
  go_enter Tryz.func8, Tryz.ntmps8
  go_wp2_with fail
  go_loopg [5] N (fun n i wr => ∃ k : Nat, k ≤ N ∧ n = N - k ∧ i = .int .i64 k ∧ Hid (Qt w wr))
  case atStart => exact ⟨0, Nat.zero_le _, rfl, rfl, Lib.hid (Qt.refl _)⟩
  case round =>
    obtain ⟨k, hk, rfl, rfl, hq⟩ := hrel
    obtain ⟨wx, rfl⟩ : ∃ x : World, x = wr := ⟨_, rfl⟩
    have HQ := Lib.hid hq.out
    clear hq
    by_cases hlt : k < N
    · have hlti : (k : Int) < (N : Int) := by omega
      obtain ⟨b, rfl, hc⟩ := Hxc.out (by omega)
      obtain ⟨b', rfl, hc'⟩ := Hyc.out (by omega)
      obtain ⟨a0, a1⟩ := hc k hlt
      obtain ⟨d0, d1⟩ := hc' k hlt
      have c0 := HQ.out.cell a0
      have c1 := HQ.out.cell a1
      have c2 := HQ.out.cell d0
      have c3 := HQ.out.cell d1
      have i1 := (Hf.out k hlt).qt HQ.out
      have i2 := (Hg.out k hlt).qt HQ.out
      obtain ⟨y1, hy1'⟩ : ∃ y, y = f k := ⟨_, rfl⟩
      obtain ⟨y2, hy2'⟩ : ∃ y, y = g k := ⟨_, rfl⟩
      rw [← hy1'] at c0 i1
      rw [← hy2'] at c2 i2
      obtain ⟨c, hcc⟩ : ∃ c, c = (cs.getD k clD).2 := ⟨_, rfl⟩
      obtain ⟨xs, hxx⟩ : ∃ xs, xs = (cs.getD k clD).1 := ⟨_, rfl⟩
      rw [← hcc] at c1 c3
      rw [← hxx] at i1 i2
      have hq : ∀ m, Calls Tryz.prog 25 #[y1, y2] (wx.drewN m) fun e w' => e = .returned (.bool true) ∧ Qt (wx.drewN m) w' := fun m =>
        (lawInts_any y1 y2 xs xs (wx.drewN m) (i1.drewN m) (i2.drewN m)).mono fun e w' ⟨h1, h2⟩ => ⟨by rw [h1]; simp, h2⟩
      have Hq := Lib.hid hq
      clear hq
      have hcne : (c != c) = false := by simp
      clear hc hc' a0 a1 d0 d1 i1 i2 hy1' hy2' hcc hxx
      go_wp2_with fail
      go_quiet (first | (go_at_call 25; refine quiet_q (Hq.out _)))
      go_wp2_with fail
      go_roundg (N - (k + 1))
      case measure => omega
      case rel => exact ⟨k + 1, by omega, rfl, by go_num, Lib.hid (HQ.out.drewN nq)⟩
    · have hlti : ¬ (k : Int) < (N : Int) := by omega
      go_wp2
      go_ret
      exact ⟨rfl, HQ.out⟩

end Go.Proofs.YtgebjjpcgakjgaaGreat

namespace Go.Proofs.YtgebjjpcgakjgaaGreat
set_option linter.all false
open Go.RowKit

theorem blw_no {v w : List Int} {n r c : Nat} (hv : v.length = n) (hr : r ≤ n) (hc : c ≤ n) (h : rkL v (c : Int) r < rkL w (c : Int) r) : blwB v w = false := by
  cases e : blwB v w with
  | false => rfl
  | true =>
    simp only [blwB, List.all_eq_true, List.mem_range, decide_eq_true_eq] at e
    have := e r (by omega) c (by omega)
    omega
theorem blw_yes {v w : List Int} {n : Nat} (hv : v.length = n) (h : ∀ r c, r ≤ n → c ≤ n → rkL w (c : Int) r ≤ rkL v (c : Int) r) : blwB v w = true := by
  simp only [blwB, List.all_eq_true, List.mem_range, decide_eq_true_eq]
  exact fun r hr c hc => h r c (by omega) (by omega)

set_option maxRecDepth 100000 in
set_option maxHeartbeats 4000000 in
theorem implBelow_any (n : Nat) (pv pw : Value) (vs ws : List Int) (w : World) (hv : P5 n vs) (hw : P5 n ws) (h1 : 1 ≤ n) (iv' : Ints w pv vs) (iw : Ints w pw ws) :
    Calls Tryz.prog 11 #[pv, pw] w fun e w' => e = .returned (.bool (blwB vs ws)) ∧ Below w.heap.size w w' := by
  have HV := Lib.hid iv'
  have HW := Lib.hid iw
  have Hv := Lib.hid hv
  have Hw := Lib.hid hw
  have h5 := hv.le
  obtain ⟨av, cv, rfl, ⟨hv1, hv2⟩, _⟩ := iv'
  obtain ⟨aw, cw, rfl, ⟨hw1, hw2⟩, _⟩ := iw
  unfold maxLen at hv2 hw2
  rw [hv.len] at HV hv1 ⊢
  rw [hw.len] at HW hw1 ⊢
  clear hv hw
  go_enter Tryz.func11, Tryz.ntmps11
  go_wp2_with fail
  refine (implIsPerm_b _ vs true Hv.out.ok _ HV.out).mono ?_
  rintro e w1 ⟨rfl, hb1⟩
  have HB1 := Lib.hid hb1
  clear hb1
  go_wp2_with fail
  refine (implIsPerm_b _ ws true Hw.out.ok _ (HW.out.below HB1.out)).mono ?_
  rintro e w2 ⟨rfl, hb2⟩
  have HB2 := Lib.hid (below_trans HB1.out hb2)
  clear hb2
  go_wp2_with fail
  go_loopg [5, 6, 25] (n + 1) (fun g s5 s6 s25 wr => ∃ r : Nat, r ≤ n + 1 ∧ g = n + 1 - r ∧ s25 = .int .i64 (r : Int) ∧ Hid (∀ r' c, r' < r → c ≤ n → rkL ws (c : Int) r' ≤ rkL vs (c : Int) r') ∧ Hid (Below w.heap.size w wr))
  case atStart => exact ⟨0, Nat.zero_le _, rfl, rfl, Lib.hid fun r' c h _ => absurd h (Nat.not_lt_zero _), HB2⟩
  case round =>
    obtain ⟨r, hr, rfl, rfl, hp, hb⟩ := hrel
    obtain ⟨wx, rfl⟩ : ∃ x : World, x = wr := ⟨_, rfl⟩
    have Hp := Lib.hid hp.out
    have Hb := Lib.hid hb.out
    clear hp hb
    by_cases hrn : r < n + 1
    · have hri : (r : Int) < (n : Int) + 1 := by omega
      go_wp2_with fail
      go_loopg [6, 31] (n + 1) (fun g s6 s31 wr => ∃ c : Nat, c ≤ n + 1 ∧ g = n + 1 - c ∧ s31 = .int .i64 (c : Int) ∧ Hid (∀ c', c' < c → rkL ws (c' : Int) r ≤ rkL vs (c' : Int) r) ∧ Hid (Below w.heap.size w wr))
      case atStart => exact ⟨0, Nat.zero_le _, rfl, rfl, Lib.hid fun c h => absurd h (Nat.not_lt_zero _), Hb⟩
      case round =>
        obtain ⟨c, hc, rfl, rfl, hp, hb⟩ := hrel
        obtain ⟨wy, rfl⟩ : ∃ x : World, x = wr := ⟨_, rfl⟩
        have Hq := Lib.hid hp.out
        have Hb1 := Lib.hid hb.out
        clear hp hb
        by_cases hcn : c < n + 1
        · have hci : (c : Int) < (n : Int) + 1 := by omega
          obtain ⟨a, ha⟩ : ∃ a, a = rkL vs (c : Int) r := ⟨_, rfl⟩
          obtain ⟨b, hb⟩ : ∃ b, b = rkL ws (c : Int) r := ⟨_, rfl⟩
          have Ha := Lib.hid ha
          have Hbb := Lib.hid hb
          clear ha hb
          go_wp2_with fail
          refine (implRankAt_any _ vs r c _ (HV.out.below Hb1.out) Hv.out.ok (by rw [Hv.out.len]; omega) (by rw [Hv.out.len]; omega) (by rw [Hv.out.len]; omega) (by rw [Hv.out.len]; omega)).mono ?_
          rintro e w3 ⟨rfl, hb3⟩
          rw [← Ha.out]
          have Hb3 := Lib.hid (Hb1.out.trans (hb3.mono Hb1.out.size))
          clear hb3
          go_wp2_with fail
          refine (implRankAt_any _ ws r c _ (HW.out.below Hb3.out) Hw.out.ok (by rw [Hw.out.len]; omega) (by rw [Hw.out.len]; omega) (by rw [Hw.out.len]; omega) (by rw [Hw.out.len]; omega)).mono ?_
          rintro e w4 ⟨rfl, hb4⟩
          rw [← Hbb.out]
          have Hb4 := Lib.hid (Hb3.out.trans (hb4.mono Hb3.out.size))
          clear hb4
          by_cases hab : a < b
          · have habi : (a : Int) < (b : Int) := by omega
            go_wp2_with fail
            go_ret
            exact ⟨ret_bool (blw_no Hv.out.len (show r ≤ n by omega) (show c ≤ n by omega) (by rw [← Ha.out, ← Hbb.out]; exact hab)).symm, Hb4.out⟩
          · have habi : ¬ (a : Int) < (b : Int) := by omega
            go_wp2_with fail
            go_roundg (n + 1 - (c + 1))
            case measure => omega
            case rel =>
              refine ⟨c + 1, by omega, rfl, by go_num, Lib.hid fun c' h => ?_, Hb4⟩
              by_cases e : c' = c
              · rw [e, ← Ha.out, ← Hbb.out]; omega
              · exact Hq.out c' (by omega)
        · have hci : ¬ (c : Int) < (n : Int) + 1 := by omega
          go_wp2_with fail
          go_roundg (n + 1 - (r + 1))
          case measure => omega
          case rel =>
            refine ⟨r + 1, by omega, rfl, by go_num, Lib.hid fun r' c' h hc' => ?_, Hb1⟩
            by_cases e : r' = r
            · rw [e]; exact Hq.out c' (by omega)
            · exact Hp.out r' c' (by omega) hc'
    · have hri : ¬ (r : Int) < (n : Int) + 1 := by omega
      go_wp2_with fail
      go_ret
      exact ⟨ret_bool (blw_yes Hv.out.len fun r' c' h hc' => Hp.out r' c' (by omega) hc').symm, Hb.out⟩

end Go.Proofs.YtgebjjpcgakjgaaGreat

namespace Go.Proofs.YtgebjjpcgakjgaaGreat
set_option linter.all false
set_option maxRecDepth 100000
open Go.RowKit

/-- classes gathered from those of an older list -/
def TopV (wB wr : World) (v : Value) (cs : List Cls) : Prop := ∃ f, OwnS wr wB.heap.size wr.heap.size 34 2 v cs.length (clF cs f) ∧ ∀ i, i < cs.length → Ints wB (f i) (cs.getD i clD).1
theorem TopV.rd {wB wr : World} {v : Value} {cs : List Cls} (h : TopV wB wr v cs) (hb : Below wB.heap.size wB wr) : RdCl wr v cs := by
  obtain ⟨f, h1, h2⟩ := h
  exact ⟨f, h1.rd, fun i hi => (h2 i hi).below hb⟩
theorem TopV.below {wB wr wr' : World} {v : Value} {cs : List Cls} (h : TopV wB wr v cs) (hb : Below wr.heap.size wr wr') : TopV wB wr' v cs := by
  obtain ⟨f, h1, h2⟩ := h
  exact ⟨f, (h1.below hb).mono (Nat.le_refl _) hb.size, h2⟩
theorem TopV.snoc {wB wr : World} {v x : Value} {cs : List Cls} {m : Cls} {f : Nat → Value} (h2 : ∀ i, i < cs.length → Ints wB (f i) (cs.getD i clD).1) (hx : Ints wB x m.1)
    (hv : OwnS wr wB.heap.size wr.heap.size 34 2 v (cs.length + 1) (fun i => if i < cs.length then clF cs f i else fun j => match j with | 0 => x | _ => .int .i64 m.2)) : TopV wB wr v (cs ++ [m]) := by
  have hg : ∀ i, (cs ++ [m]).getD i clD = if i < cs.length then cs.getD i clD else if i = cs.length then m else clD := fun i => OwnTd.getD_snoc
  refine ⟨fun i => if i < cs.length then f i else x, ?_, fun i hi => ?_⟩
  · rw [List.length_append]
    refine OwnS.congr hv fun i hi j hj => ?_
    unfold clF
    rw [hg]
    by_cases e : i < cs.length
    · rw [if_pos e, if_pos e]
      match j, hj with
      | 0, _ => simp [e]
      | 1, _ => rfl
    · have hi' : i = cs.length := by simp at hi; omega
      rw [if_neg e, if_neg e, if_pos hi']
      match j, hj with
      | 0, _ => simp [e]
      | 1, _ => rfl
  · rw [List.length_append] at hi
    rw [hg]
    by_cases e : i < cs.length
    · rw [if_pos e]; dsimp only; rw [if_pos e]; exact h2 i e
    · have hi' : i = cs.length := by simp at hi; omega
      rw [if_neg e, if_pos hi']; dsimp only; rw [if_neg e]; exact hx
theorem takeW_snoc {l : List Cls} {k : Nat} (h : k < l.length) : l.take (k + 1) = l.take k ++ [l.getD k clD] := by
  rw [List.take_succ, List.getElem?_eq_getElem h]
  simp [List.getD_eq_getElem?_getD, h]
def rK (ys : List Int) : Nat → Bool
  | 0 => true
  | 1 => true
  | k + 2 => rK ys (k + 1) && decide (ys.getD k 0 < ys.getD (k + 1) 0)
theorem rK_ris {ys : List Int} : ∀ n, rK ys n = true → risY n ys
  | 0, _ => fun i h1 h2 => by omega
  | 1, _ => fun i h1 h2 => by omega
  | k + 2, h => fun i h1 h2 => by
    unfold rK at h
    rw [Bool.and_eq_true, decide_eq_true_eq] at h
    by_cases e : i = k + 1
    · subst e; exact h.2
    · exact rK_ris (k + 1) h.1 i h1 (by omega)
theorem sumC_le24 {n : Nat} {ys : List Int} (hy : YOk n ys) (c : List Int → Int) : (sumC n c).length ≤ 24 := by
  have OI := ordIs hy.one hy.four
  unfold sumC
  rw [(srtC_perm _).length_eq, List.length_map]
  have h1 := List.length_filter_le (fun x => !decide (c (pmA n x) = 0)) (ordL n)
  have h2 := OI.perm.length_eq
  rw [List.length_range] at h2
  have h3 : fact n ≤ 24 := by
    have h := hy.four
    have h1 := hy.one
    have : n = 1 ∨ n = 2 ∨ n = 3 ∨ n = 4 := by omega
    rcases this with rfl | rfl | rfl | rfl <;> decide
  omega
theorem apOk_yes {n : Nat} {ys : List Int} (h1 : 1 ≤ n) (h4 : n ≤ 4) (hl : ys.length = n) (hd : ys.Nodup) (h9 : ∀ y ∈ ys, -9 ≤ y ∧ y ≤ 9) : apOk (n : Int) ys = true := by
  simp only [apOk, nmOk, Bool.and_eq_true, decide_eq_true_eq]
  grind

set_option maxHeartbeats 8000000 in
theorem lawFnEquivariant (p : Option Addr) (l cap : Nat) (w : World) (hl : l ≤ maxLen) (h : Byts w (.slice p l cap) l) :
    Calls Tryz.prog 3 #[.slice p l cap] w fun e w' => e = .returned (.bool true) ∧ Below w.heap.size w w' := by
  have Hl := Lib.hid hl
  have Hh := Lib.hid h
  clear hl h
  go_enter Tryz.func3, Tryz.ntmps3
  go_wp2_with fail
  refine (big_any p l cap _ Hl.out).mono ?_
  rintro e w' ⟨rfl, rfl⟩
  by_cases hb : 1048576 < l
  · have e1 : decide (1048576 < l) = true := by simp [hb]
    rw [e1]
    go_wp2_with fail
    go_ret
    exact ⟨rfl, Below.refl _ _⟩
  · have e1 : decide (1048576 < l) = false := by simp [hb]
    rw [e1]
    clear e1 hb
    go_wp2_with fail
    refine (DrawPairs_any _ l _ Hh.out).mono ?_
    rintro e w1 ⟨u1, u2, u3, xs, zs, ys, n, rfl, hx, hz, hyy, px, pz, hyl, hyd, hy9, h1, h4, hb1⟩
    have hap := apOk_yes h1 h4 hyl hyd hy9
    have hY := yOk hap
    obtain ⟨i, hi, rfl⟩ := pm_mem h1 h4 px
    obtain ⟨j, hj, rfl⟩ := pm_mem h1 h4 pz
    have HY := Lib.hid hY
    have Px := Lib.hid px
    have Pz := Lib.hid pz
    have Hx := Lib.hid hx
    have Hz := Lib.hid hz
    have Hyy := Lib.hid hyy
    have Hyl := Lib.hid hyl
    have HB1 := Lib.hid hb1
    obtain ⟨L, hL⟩ : ∃ L, L = sumC n (cEx n ys (cR n i j)) := ⟨_, rfl⟩
    have HL := Lib.hid hL
    have hL24 : L.length ≤ 24 := by rw [hL]; exact sumC_le24 hY _
    have HE1 := Lib.hid (fun u (hu : Below w1.heap.size w1 u) => implEqui_any u1 u2 u3 (pmA n i) (pmA n j) ys u (hx.below hu) (hz.below hu) (hyy.below hu))
    have HE2 := Lib.hid (fun u (hu : Below w1.heap.size w1 u) => implEqui_any u2 u1 u3 (pmA n j) (pmA n i) ys u (hz.below hu) (hx.below hu) (hyy.below hu))
    rw [eqL_tab hY hap hi hj, ← hL] at HE1
    rw [eqL_comm hY hap hi hj, ← hL] at HE2
    have HM := Lib.hid (fun u (hu : Below w1.heap.size w1 u) => MulPerms_any n i j u1 u2 u h1 h4 hi hj px pz (hx.below hu) (hz.below hu))
    have HTop := Lib.hid (top_is hY hi hj)
    have HCl := Lib.hid (fun e (he : e ∈ L) => cl_is hY hi hj (show e ∈ sumC n (cEx n ys (cR n i j)) by rw [← hL]; exact he))
    have HEx := Lib.hid (exIs h1 h4 hi hj)
    rw [← hL] at HTop
    obtain ⟨p1, k1, e1, _, _⟩ := id hx
    obtain ⟨p2, k2, e2, _, _⟩ := id hz
    obtain ⟨p3, k3, e3, _, hq3⟩ := id hyy
    obtain ⟨b3, o3, ep3, hyc⟩ := hq3 (by rw [hyl]; exact h1)
    subst ep3
    rw [hyl] at hyc
    have Hyc := Lib.hid hyc
    clear hq3 hyc
    rw [px.len] at e1
    rw [pz.len] at e2
    rw [hyl] at e3
    subst e1 e2 e3
    clear hx hz hyy px pz hyl hyd hy9 hb1 hap hY hL
    go_wp2_with fail
    refine (HE1.out _ (Below.refl _ _)).mono ?_
    rintro e w2 ⟨uL, rfl, ho2, hb2⟩
    have HO2 := Lib.hid ho2
    have HB2 := Lib.hid hb2
    obtain ⟨pL, kL, rfl, _, _⟩ := ho2.shape
    dsimp only
    clear ho2 hb2
    go_wp2_with fail
    refine (HE2.out _ HB2.out).mono ?_
    rintro e w3 ⟨uM, rfl, ho3, hb3⟩
    have HO3 := Lib.hid ho3
    have HO23 := Lib.hid (HO2.out.rd.below hb3)
    have HB3 := Lib.hid (below_trans HB2.out hb3)
    obtain ⟨pM, kM, rfl, _, _⟩ := ho3.shape
    dsimp only
    clear ho3 hb3
    go_wp2_with fail
    refine (HM.out _ HB3.out).mono ?_
    rintro e w4 ⟨uP, rfl, hr4, hb4⟩
    have HR4 := Lib.hid hr4
    have HB4 := Lib.hid (below_trans HB3.out hb4)
    have HLr := Lib.hid (HO23.out.below hb4)
    have HMr := Lib.hid (HO3.out.rd.below hb4)
    obtain ⟨pl, nl, kl, e4⟩ : ∃ p n k, uP = .slice p n k := by obtain ⟨f, ⟨p, k, e, _⟩, _⟩ := hr4; exact ⟨_, _, _, e⟩
    subst e4
    clear hr4 hb4
    go_wp2_with fail
    refine (classes_same _ _ L w4 HLr.out HMr.out).mono ?_
    rintro e wB ⟨rfl, hqB⟩
    have HLB := Lib.hid (HLr.out.below (hqB.below _))
    have HPB := Lib.hid (HR4.out.below (hqB.below _))
    have HBB := Lib.hid (below_trans HB4.out (hqB.below _))
    clear hqB
    go_wp2_with fail
    have HybB := Lib.hid (show ∀ t, t < n → wB.cell? ⟨b3, o3 + t, none⟩ = some (.int .i64 (ys.getD t 0)) from fun t ht => cell_below HBB.out (Hyc.out t ht))
    go_loopg [13, 14] (n - 1) (fun g s13 s14 wr => ∃ k : Nat, 1 ≤ k ∧ k ≤ n ∧ g = n - k ∧ s14 = .int .i64 (k : Int) ∧ s13 = .bool (rK ys k) ∧ Hid (Qt wB wr))
    case atStart => exact ⟨1, Nat.le_refl _, h1, rfl, rfl, rfl, Qt.refl _⟩
    case round =>
      obtain ⟨k, hk1, hkn, rfl, rfl, rfl, hq⟩ := hrel
      obtain ⟨wo, rfl⟩ : ∃ x : World, x = wr := ⟨_, rfl⟩
      have Hq := Lib.hid hq.out
      clear hq
      by_cases hlt : k < n
      · obtain ⟨t, rfl⟩ : ∃ t, k = t + 1 := ⟨k - 1, by omega⟩
        have hkz : ((t + 1 : Nat) : Int) < (n : Int) := by omega
        have c1 := Hq.out.cell (HybB.out t (by omega))
        have c2 := Hq.out.cell (HybB.out (t + 1) hlt)
        have Hrk := Lib.hid (show rK ys (t + 1 + 1) = (rK ys (t + 1) && decide (ys.getD t 0 < ys.getD (t + 1) 0)) from rfl)
        obtain ⟨rb, hrb⟩ : ∃ rb, rb = rK ys (t + 1) := ⟨_, rfl⟩
        obtain ⟨y1, hy1⟩ : ∃ y, y = ys.getD t 0 := ⟨_, rfl⟩
        obtain ⟨y2, hy2⟩ : ∃ y, y = ys.getD (t + 1) 0 := ⟨_, rfl⟩
        rw [← hrb, ← hy1, ← hy2] at Hrk
        rw [← hy1] at c1
        rw [← hy2] at c2
        rw [← hrb]
        have htz : (t : Int) < (n : Int) := by omega
        have ht1 : ((t + 1 : Nat) : Int) - 1 = (t : Int) := by omega
        have hT2 : (t : Int) + 1 < (n : Int) := by omega
        have hT0 : (0 : Int) ≤ (t : Int) + 1 := by omega
        have hT1 : ((t : Int) + 1).toNat = t + 1 := by omega
        have hwt : IntKind.i64.wrap (t : Int) = (t : Int) := k64 (by omega) (by omega)
        clear hrb hy1 hy2
        cases rb with
        | false =>
          go_wp2_with fail
          go_quiet (fail)
          go_wp2_with fail
          go_roundg (n - (t + 1 + 1))
          case measure => omega
          case rel => exact ⟨t + 1 + 1, by omega, by omega, rfl, by go_num, by rw [Hrk.out]; rfl, Hq.out.drewN nq⟩
        | true =>
          by_cases h12 : y1 < y2
          · have hd : decide (y1 < y2) = true := decide_eq_true h12
            have Hf := Lib.hid (show rK ys (t + 1 + 1) = true by rw [Hrk.out, hd]; rfl)
            go_wp2_with fail
            go_quiet (fail)
            go_wp2_with fail
            go_roundg (n - (t + 1 + 1))
            case measure => omega
            case rel => exact ⟨t + 1 + 1, by omega, by omega, rfl, by go_num, by rw [Hf.out], Hq.out.drewN nq⟩
          · have hd : decide (y1 < y2) = false := decide_eq_false h12
            have Hf := Lib.hid (show rK ys (t + 1 + 1) = false by rw [Hrk.out, hd]; rfl)
            go_wp2_with fail
            go_quiet (fail)
            go_wp2_with fail
            go_roundg (n - (t + 1 + 1))
            case measure => omega
            case rel => exact ⟨t + 1 + 1, by omega, by omega, rfl, by go_num, by rw [Hf.out], Hq.out.drewN nq⟩
      · obtain rfl : n = k := by omega
        obtain ⟨rb, hrb⟩ : ∃ rb, rb = rK ys n := ⟨_, rfl⟩
        have Hris := Lib.hid (show rb = true → risY n ys from fun e => rK_ris n (by rw [← hrb]; exact e))
        rw [← hrb]
        clear hrb
        have HLo := Lib.hid (HLB.out.below (Hq.out.below _))
        have HPo := Lib.hid (HPB.out.below (Hq.out.below _))
        have HBo := Lib.hid (below_trans HBB.out (Hq.out.below _))
        obtain ⟨N, hN⟩ : ∃ N, N = L.length := ⟨_, rfl⟩
        have HN := Lib.hid hN
        obtain ⟨q, hq⟩ : ∃ q : Cls → Bool, q = fun e => decide (lenP (growL e.1 n) = lenP (pmA n i) + lenP (pmA n j)) := ⟨_, rfl⟩
        have HQ := Lib.hid hq
        have HTq := Lib.hid (show L.filter q = topT n i j by rw [hq]; exact HTop.out)
        rw [← hN] at HLo ⊢
        clear hq hN HTop
        obtain ⟨fL, hsL, hfL⟩ := HLo.out
        rw [← HN.out] at hsL hfL
        obtain ⟨pL', kL', eL, ⟨mL1, mL2⟩, hcL⟩ := id hsL
        injection eL with eL1 eL2 eL3
        subst eL1 eL3
        unfold maxLen at mL2
        have HcL := Lib.hid hcL
        have HfL := Lib.hid hfL
        clear hsL hfL hcL eL2
        go_wp2_with fail
        go_loopg [15, 16, 17, 18] N (fun g s15 s16 s17 s18 wr => ∃ t : Nat, t ≤ N ∧ g = N - t ∧ s16 = .int .i64 (t : Int) ∧ Hid (TopV wo wr s15 ((L.take t).filter q)) ∧ Hid (Below wo.heap.size wo wr))
        case atStart =>
          refine ⟨0, Nat.zero_le _, rfl, rfl, ?_, below_alloc wo _⟩
          exact ⟨fun _ => undef, (OwnS.made0 wo _ _ _).mono (Nat.le_refl _) (by rw [size_alloc]; exact Nat.le_refl _), fun i hi => absurd hi (Nat.not_lt_zero _)⟩
        case round =>
          obtain ⟨t, ht, rfl, rfl, hT, hbt⟩ := hrel
          obtain ⟨wx, rfl⟩ : ∃ x : World, x = wr := ⟨_, rfl⟩
          have HT := Lib.hid hT.out
          have Hbt := Lib.hid hbt.out
          clear hT hbt
          by_cases htN : t < N
          · have htz : (t : Int) < (N : Int) := by omega
            obtain ⟨bl, ebl, hcl⟩ := HcL.out (by omega)
            subst ebl
            have c0 : wx.cell? ⟨bl, t * 2, none⟩ = some (fL t) := cell_below Hbt.out (hcl t htN 0 (by omega))
            have c1 : wx.cell? ⟨bl, t * 2 + 1, none⟩ = some (.int .i64 (L.getD t clD).2) := cell_below Hbt.out (hcl t htN 1 (by omega))
            have hIt := HfL.out t htN
            have hmem : L.getD t clD ∈ L := by
              have e : L.getD t clD = L[t]'(by rw [← HN.out]; exact htN) := by simp [List.getD_eq_getElem?_getD, show t < L.length by rw [← HN.out]; exact htN]
              rw [e]; exact List.getElem_mem _
            obtain ⟨kk, hC⟩ := HCl.out _ hmem
            have Htk := Lib.hid (takeW_snoc (l := L) (k := t) (by rw [← HN.out]; exact htN))
            obtain ⟨e, he⟩ : ∃ e, e = L.getD t clD := ⟨_, rfl⟩
            rw [← he] at c1 hIt hC Htk
            have HC := Lib.hid hC
            have HIt := Lib.hid hIt
            obtain ⟨px, kx, ex, _, _⟩ := id hIt
            have Hex := Lib.hid ex
            rw [ex] at c0
            obtain ⟨lx, hlx⟩ : ∃ lx, lx = e.1.length := ⟨_, rfl⟩
            rw [← hlx] at c0 Hex
            obtain ⟨cc, hcc⟩ : ∃ cc, cc = e.2 := ⟨_, rfl⟩
            rw [← hcc] at c1
            have Hcc := Lib.hid hcc
            obtain ⟨g1, g2, g3⟩ := gt_at h1 h4 hC.lt
            have HEm := Lib.hid (EmbedPerm_any (fL t) e.1 n wx (hIt.below Hbt.out) (by rw [hC.fst]; exact g2) h1 (by rw [hC.fst]; exact g3) (by omega))
            rw [ex, ← hlx, hC.fst, g1] at HEm
            have pk := pm_p5 HY.out hC.lt
            have Pk := Lib.hid pk
            obtain ⟨lu, hlu⟩ : ∃ lu, lu = lenP (pmA n i) := ⟨_, rfl⟩
            obtain ⟨lv, hlv⟩ : ∃ lv, lv = lenP (pmA n j) := ⟨_, rfl⟩
            obtain ⟨lw, hlw⟩ : ∃ lw, lw = lenP (pmA n kk) := ⟨_, rfl⟩
            have hle := hC.len
            rw [← hlu, ← hlv, ← hlw] at hle
            have hbnd : ∀ z, P5 n z → lenP z ≤ 16 := fun z hz => by
              have := lenTo_le z z.length
              unfold lenP
              rw [hz.len] at this ⊢
              have := Nat.mul_le_mul h4 h4
              omega
            have hlu16 : lu ≤ 16 := by rw [hlu]; exact hbnd _ Px.out
            have hlv16 : lv ≤ 16 := by rw [hlv]; exact hbnd _ Pz.out
            have Hlu := Lib.hid hlu
            have Hlv := Lib.hid hlv
            have Hlw := Lib.hid hlw
            obtain ⟨dd, hdd⟩ : ∃ dd, lw + dd = lu + lv := ⟨lu + lv - lw, by omega⟩
            have Hdd := Lib.hid hdd
            have hdz : (lu : Int) + (lv : Int) - (lw : Int) = (dd : Int) := by omega
            have Hdz := Lib.hid hdz
            have hB1x : Below w1.heap.size w1 wx := below_trans HBo.out Hbt.out
            have HB1x := Lib.hid hB1x
            have Hc0 := Lib.hid c0
            have Hc1 := Lib.hid c1
            clear ex hlx hcc he hIt hC hmem g1 g2 g3 pk hlu hlv hlw hbnd hdd hdz hB1x hcl
            go_wp2_with fail
            refine HEm.out.mono ?_
            rintro e5 w5 ⟨u5, rfl, ho5, hb5⟩
            have Hi5 := Lib.hid ho5.ints
            have HB5 := Lib.hid (below_trans HB1x.out hb5)
            have Hb5 := Lib.hid hb5
            obtain ⟨p5, k5, e5', _, _⟩ := ho5.shape
            subst e5'
            clear ho5 hb5
            go_wp2_with fail
            refine (implLength_any _ (pmA n i) w5 (Hx.out.below HB5.out) Px.out.ok).mono ?_
            rintro e6 w6 ⟨rfl, hb6⟩
            rw [← Hlu.out]
            have HB6 := Lib.hid (below_trans HB5.out hb6)
            have Hb6 := Lib.hid (below_trans Hb5.out hb6)
            have Hi6 := Lib.hid (Hi5.out.below hb6)
            clear hb6
            go_wp2_with fail
            refine (implLength_any _ (pmA n j) w6 (Hz.out.below HB6.out) Pz.out.ok).mono ?_
            rintro e7 w7 ⟨rfl, hb7⟩
            rw [← Hlv.out]
            have HB7 := Lib.hid (below_trans HB6.out hb7)
            have Hb7 := Lib.hid (below_trans Hb6.out hb7)
            have Hi7 := Lib.hid (Hi6.out.below hb7)
            clear hb7
            go_wp2_with fail
            refine (implLength_any _ (pmA n kk) w7 Hi7.out Pk.out.ok).mono ?_
            rintro e8 w8 ⟨rfl, hb8⟩
            rw [← Hlw.out]
            have HB8 := Lib.hid (below_trans HB7.out hb8)
            have Hb8 := Lib.hid (below_trans Hb7.out hb8)
            have Hi8 := Lib.hid (Hi7.out.below hb8)
            clear hb8
            have hdz := Hdz.out
            have hdd0 : ¬ (dd : Int) < 0 := by omega
            go_upto_region 21 with fail
            go_cut [131] (fun s131 wc => s131 = .bool false ∧ Below w8.heap.size w8 wc)
            case first =>
              go_wp2_with fail
              refine (implBelow_any n _ _ (pmA n i) (pmA n kk) w8 Px.out Pk.out h1 (Hx.out.below HB8.out) Hi8.out).mono ?_
              rintro e9 w9 ⟨rfl, hb9⟩
              rw [HC.out.b1]
              have Hb9 := Lib.hid hb9
              go_wp2_with fail
              refine (implBelow_any n _ _ (pmA n j) (pmA n kk) w9 Pz.out Pk.out h1 (Hz.out.below (below_trans HB8.out Hb9.out)) (Hi8.out.below Hb9.out)).mono ?_
              rintro e10 w10 ⟨rfl, hb10⟩
              rw [HC.out.b2]
              have Hb10 := Lib.hid (below_trans Hb9.out hb10)
              have hc1 : w10.cell? ⟨bl, t * 2 + 1, none⟩ = some (.int .i64 cc) := cell_below (below_trans Hb8.out Hb10.out) Hc1.out
              clear hb9 hb10
              cases rb with
              | false =>
                go_wp2_with fail
                go_meet
                exact ⟨rfl, Hb10.out⟩
              | true =>
                have hcn : ¬ cc < 0 := by
                  have := HC.out.nn (Hris.out rfl)
                  rw [← Hcc.out] at this
                  omega
                go_wp2_with fail
                go_meet
                exact ⟨congrArg Value.bool (by simp [hdd0, hcn]), Hb10.out⟩
            case rest =>
              obtain ⟨rfl, hb11⟩ := hcut
              obtain ⟨w11, rfl⟩ : ∃ x : World, x = wc := ⟨_, rfl⟩
              have Hb11 := Lib.hid (below_trans Hb8.out hb11)
              clear hb11
              have HT11 := Lib.hid (HT.out.below Hb11.out)
              have d0 := cell_below Hb11.out Hc0.out
              have d1 := cell_below Hb11.out Hc1.out
              have hqe : q e = decide (dd = 0) := by
                rw [HQ.out]
                show decide (lenP (growL e.1 n) = _) = _
                rw [HC.out.fst, (gt_at h1 h4 HC.out.lt).1, ← Hlu.out, ← Hlv.out, ← Hlw.out]
                have := Hdd.out
                by_cases h : dd = 0
                · rw [decide_eq_true h]; exact decide_eq_true (by omega)
                · rw [decide_eq_false h]; exact decide_eq_false (by omega)
              have hbx11 := below_trans Hbt.out Hb11.out
              have Hbx11 := Lib.hid hbx11
              clear hbx11
              by_cases hd0 : dd = 0
              · have hdi : ((dd : Int) == 0) = true := by simp [hd0]
                have hdp : (dd : Int) = 0 := by omega
                have Hnext := Lib.hid (show (L.take (t + 1)).filter q = (L.take t).filter q ++ [e] by
                  rw [Htk.out, List.filter_append, List.filter_cons, if_pos (by rw [hqe]; exact decide_eq_true hd0)]
                  rfl)
                obtain ⟨f0, g1, g2⟩ := HT11.out
                obtain ⟨p15, k15, e15, _, _, _⟩ := g1.shape
                subst e15
                obtain ⟨nT, hnT⟩ : ∃ nT, nT = ((L.take t).filter q).length := ⟨_, rfl⟩
                have hnT6 : nT ≤ 100000 := by
                  have h3 := List.length_filter_le q (L.take t)
                  rw [List.length_take] at h3
                  omega
                have HnT := Lib.hid hnT
                rw [← hnT] at g1 ⊢
                obtain ⟨oC, hoC⟩ : ∃ o : Obj, o = .cells #[.slice px lx kx, .int .i64 cc] 34 := ⟨_, rfl⟩
                have hal := below_alloc w11 oC
                have g1a := Lib.hid (g1.below hal)
                have G2 := Lib.hid g2
                have Hcl2 := Lib.hid (show ∀ j, j < 2 → (w11.alloc oC).cell? ⟨w11.heap.size, j, none⟩ = some (match j with | 0 => .slice px lx kx | _ => .int .i64 cc) from fun j hj => by
                  rw [hoC]
                  exact match j, hj with
                  | 0, _ => cell_of_blk (heap_alloc_top w11 _) (j := 0) rfl
                  | 1, _ => cell_of_blk (heap_alloc_top w11 _) (j := 1) rfl)
                have Hone := Lib.hid (show ∀ j, j < 2 → (match j with | 0 => Value.slice px lx kx | _ => .int .i64 cc).oneCell' = true from fun j hj =>
                  match j, hj with
                  | 0, _ => rfl
                  | 1, _ => rfl)
                have Hn1 := Lib.hid (show nT + 1 ≤ maxLen by unfold maxLen; omega)
                have Hn2 := Lib.hid (show (nT + 1) * 32 ≤ 140737488355328 by omega)
                have hws : wo.heap.size ≤ w11.heap.size := Hbx11.out.size
                have Hlo := Lib.hid (show wo.heap.size ≤ (w11.alloc oC).heap.size by rw [size_alloc]; omega)
                have Hal := Lib.hid hal
                have HoC := Lib.hid hoC
                rw [hoC] at g1a Hlo Hcl2
                clear g1 g2 hal hoC hnT hqe hdd0 hdz
                go_wp2_with (at_builtin; go_must (refine wpList_append_S rfl (.tmp 134) (.tmp 139) 27 rfl 34 _ 2 32 Tryz.underlying27 info_cls rfl (by omega) wo.heap.size w11.heap.size _ nT (clF ((L.take t).filter q) f0) rfl g1a.out Hlo.out _ _ _ rfl Hcl2.out Hone.out Hn1.out Hn2.out ?_; intro v12 w12 hv hg))
                go_roundg (N - (t + 1))
                case measure => omega
                case rel =>
                  have hgb := grownBy_below hg g1a.out.blocks (Nat.le_refl _) Hlo.out
                  have hal := Hal.out
                  rw [HoC.out] at hal
                  refine ⟨t + 1, by omega, rfl, by go_num, ?_, (Hbx11.out.trans (hal.mono hws)).trans hgb⟩
                  show TopV wo w12 v12 ((L.take (t + 1)).filter q)
                  rw [Hnext.out]
                  rw [HnT.out] at hv
                  refine TopV.snoc (m := e) G2.out (x := .slice px lx kx) (by rw [← Hex.out]; exact HIt.out) ?_
                  rw [← Hcc.out]
                  exact hv
              · have hdi : ((dd : Int) == 0) = false := by simp; omega
                have hdp : ¬ (dd : Int) = 0 := by omega
                have Hnext := Lib.hid (show (L.take (t + 1)).filter q = (L.take t).filter q by
                  rw [Htk.out, List.filter_append, List.filter_cons, if_neg (by rw [hqe]; simp [hd0])]
                  simp)
                clear hqe hdd0 hdz
                go_wp2_with fail
                go_roundg (N - (t + 1))
                case measure => omega
                case rel =>
                  refine ⟨t + 1, by omega, rfl, by go_num, ?_, Hbx11.out⟩
                  show TopV wo w11 _ ((L.take (t + 1)).filter q)
                  rw [Hnext.out]
                  exact HT11.out
          · obtain rfl : t = N := by omega
            have hTN := HT.out
            rw [HN.out, List.take_of_length_le (Nat.le_refl _), HTq.out] at hTN
            have HTN := Lib.hid hTN
            clear hTN
            obtain ⟨S, hS⟩ : ∃ S, S = srtC (mR n i j) := ⟨_, rfl⟩
            have HS := Lib.hid hS
            have hS90 : S.length ≤ 90 := by rw [hS, (srtC_perm _).length_eq]; exact HEx.out.len
            have HSt := Lib.hid (show S.filter (fun e => decide (e.1.length ≤ n)) = topT n i j by rw [hS]; exact HEx.out.top)
            have hPo := HPo.out.below Hbt.out
            rw [← hS] at hPo
            obtain ⟨fP, hsP, hfP⟩ := hPo
            obtain ⟨pP, kP, eP, ⟨mP1, mP2⟩, hcP⟩ := id hsP
            injection eP with eP1 eP2 eP3
            subst eP1 eP3
            unfold maxLen at mP2
            have HnS := Lib.hid eP2
            rw [← eP2] at mP1 hS90 hcP hfP
            have HcP := Lib.hid hcP
            have HfP := Lib.hid hfP
            clear hsP hfP hcP eP2 hS
            obtain ⟨f15, gf1, gf2⟩ := id HTN.out
            obtain ⟨p15, k15, e15, _, _, _⟩ := gf1.shape
            subst e15
            clear gf1 gf2
            go_wp2_with fail
            go_loopg [19, 20] nl (fun g s19 s20 wr => ∃ r : Nat, r ≤ nl ∧ g = nl - r ∧ s20 = .int .i64 (r : Int) ∧ Hid (TopV wx wr s19 ((S.take r).filter (fun e => decide (e.1.length ≤ n)))) ∧ Hid (Below wx.heap.size wx wr))
            case atStart =>
              refine ⟨0, Nat.zero_le _, rfl, rfl, ?_, below_alloc wx _⟩
              exact ⟨fun _ => undef, (OwnS.made0 wx _ _ _).mono (Nat.le_refl _) (by rw [size_alloc]; exact Nat.le_refl _), fun i hi => absurd hi (Nat.not_lt_zero _)⟩
            case round =>
              obtain ⟨r, hr, rfl, rfl, hT2, hbt2⟩ := hrel
              obtain ⟨wy, rfl⟩ : ∃ x : World, x = wr := ⟨_, rfl⟩
              have HT2 := Lib.hid hT2.out
              have Hbt2 := Lib.hid hbt2.out
              clear hT2 hbt2
              by_cases hrN : r < nl
              · have hrz : (r : Int) < (nl : Int) := by omega
                obtain ⟨bl, ebl, hcl⟩ := HcP.out (by omega)
                subst ebl
                have c0 : wy.cell? ⟨bl, r * 2, none⟩ = some (fP r) := cell_below Hbt2.out (hcl r hrN 0 (by omega))
                have c1 : wy.cell? ⟨bl, r * 2 + 1, none⟩ = some (.int .i64 (S.getD r clD).2) := cell_below Hbt2.out (hcl r hrN 1 (by omega))
                have hIt := HfP.out r hrN
                have Htk := Lib.hid (takeW_snoc (l := S) (k := r) (by rw [← HnS.out]; exact hrN))
                obtain ⟨e, he⟩ : ∃ e, e = S.getD r clD := ⟨_, rfl⟩
                rw [← he] at c1 hIt Htk
                have HIt := Lib.hid hIt
                obtain ⟨px, kx, ex, _, _⟩ := id hIt
                have Hex := Lib.hid ex
                rw [ex] at c0
                obtain ⟨lx, hlx⟩ : ∃ lx, lx = e.1.length := ⟨_, rfl⟩
                rw [← hlx] at c0 Hex
                have Hlx := Lib.hid hlx
                obtain ⟨cc, hcc⟩ : ∃ cc, cc = e.2 := ⟨_, rfl⟩
                rw [← hcc] at c1
                have Hcc := Lib.hid hcc
                clear ex hlx hcc he hIt hcl
                by_cases hle : lx ≤ n
                · have hlez : (lx : Int) ≤ (n : Int) := by omega
                  have Hnext := Lib.hid (show (S.take (r + 1)).filter (fun e => decide (e.1.length ≤ n)) = (S.take r).filter (fun e => decide (e.1.length ≤ n)) ++ [e] by
                    rw [Htk.out, List.filter_append, List.filter_cons, if_pos (by rw [← Hlx.out]; exact decide_eq_true hle)]
                    rfl)
                  obtain ⟨f0, g1, g2⟩ := HT2.out
                  obtain ⟨p19, k19, e19, _, _, _⟩ := g1.shape
                  subst e19
                  obtain ⟨nT, hnT⟩ : ∃ nT, nT = ((S.take r).filter (fun e => decide (e.1.length ≤ n))).length := ⟨_, rfl⟩
                  have hnT6 : nT ≤ 100000 := by
                    have h3 := List.length_filter_le (fun e : Cls => decide (e.1.length ≤ n)) (S.take r)
                    rw [List.length_take] at h3
                    omega
                  have HnT := Lib.hid hnT
                  rw [← hnT] at g1 ⊢
                  obtain ⟨oC, hoC⟩ : ∃ o : Obj, o = .cells #[.slice px lx kx, .int .i64 cc] 34 := ⟨_, rfl⟩
                  have hal := below_alloc wy oC
                  have g1a := Lib.hid (g1.below hal)
                  have G2 := Lib.hid g2
                  have Hcl2 := Lib.hid (show ∀ j, j < 2 → (wy.alloc oC).cell? ⟨wy.heap.size, j, none⟩ = some (match j with | 0 => .slice px lx kx | _ => .int .i64 cc) from fun j hj => by
                    rw [hoC]
                    exact match j, hj with
                    | 0, _ => cell_of_blk (heap_alloc_top wy _) (j := 0) rfl
                    | 1, _ => cell_of_blk (heap_alloc_top wy _) (j := 1) rfl)
                  have Hone := Lib.hid (show ∀ j, j < 2 → (match j with | 0 => Value.slice px lx kx | _ => .int .i64 cc).oneCell' = true from fun j hj =>
                    match j, hj with
                    | 0, _ => rfl
                    | 1, _ => rfl)
                  have Hn1 := Lib.hid (show nT + 1 ≤ maxLen by unfold maxLen; omega)
                  have Hn2 := Lib.hid (show (nT + 1) * 32 ≤ 140737488355328 by omega)
                  have hws : wx.heap.size ≤ wy.heap.size := Hbt2.out.size
                  have Hlo := Lib.hid (show wx.heap.size ≤ (wy.alloc oC).heap.size by rw [size_alloc]; omega)
                  have Hal := Lib.hid hal
                  have HoC := Lib.hid hoC
                  rw [hoC] at g1a Hlo Hcl2
                  clear g1 g2 hal hoC hnT
                  go_wp2_with (at_builtin; go_must (refine wpList_append_S rfl (.tmp 156) (.tmp 161) 27 rfl 34 _ 2 32 Tryz.underlying27 info_cls rfl (by omega) wx.heap.size wy.heap.size _ nT (clF ((S.take r).filter (fun e => decide (e.1.length ≤ n))) f0) rfl g1a.out Hlo.out _ _ _ rfl Hcl2.out Hone.out Hn1.out Hn2.out ?_; intro v12 w12 hv hg))
                  go_roundg (nl - (r + 1))
                  case measure => omega
                  case rel =>
                    have hgb := grownBy_below hg g1a.out.blocks (Nat.le_refl _) Hlo.out
                    have hal := Hal.out
                    rw [HoC.out] at hal
                    refine ⟨r + 1, by omega, rfl, by go_num, ?_, (Hbt2.out.trans (hal.mono hws)).trans hgb⟩
                    show TopV wx w12 v12 ((S.take (r + 1)).filter (fun e => decide (e.1.length ≤ n)))
                    rw [Hnext.out]
                    rw [HnT.out] at hv
                    refine TopV.snoc (m := e) G2.out (x := .slice px lx kx) (by rw [← Hex.out]; exact HIt.out) ?_
                    rw [← Hcc.out]
                    exact hv
                · have hlez : ¬ (lx : Int) ≤ (n : Int) := by omega
                  have Hnext := Lib.hid (show (S.take (r + 1)).filter (fun e => decide (e.1.length ≤ n)) = (S.take r).filter (fun e => decide (e.1.length ≤ n)) by
                    rw [Htk.out, List.filter_append, List.filter_cons, if_neg (by rw [← Hlx.out]; simp; omega)]
                    simp)
                  go_wp2_with fail
                  go_roundg (nl - (r + 1))
                  case measure => omega
                  case rel =>
                    refine ⟨r + 1, by omega, rfl, by go_num, ?_, Hbt2.out⟩
                    show TopV wx wy _ ((S.take (r + 1)).filter (fun e => decide (e.1.length ≤ n)))
                    rw [Hnext.out]
                    exact HT2.out
              · obtain rfl : r = nl := by omega
                have hT2 := HT2.out
                rw [HnS.out, List.take_of_length_le (Nat.le_refl _), HSt.out] at hT2
                have hR1 := (HTN.out.rd Hbt.out).below Hbt2.out
                have hR2 := hT2.rd Hbt2.out
                obtain ⟨f19, gq1, gq2⟩ := id hT2
                obtain ⟨p19, k19, e19, _, _, _⟩ := gq1.shape
                subst e19
                have HCs := Lib.hid (classes_same _ _ (topT n i j) wy hR1 hR2)
                clear hT2 hR1 hR2 gq1 gq2
                go_wp2_with fail
                refine HCs.out.mono ?_
                rintro e20 w20 ⟨rfl, hq20⟩
                have Hfin := Lib.hid (HB1.out.trans ((below_trans HBo.out (below_trans Hbt.out (below_trans Hbt2.out (hq20.below _)))).mono HB1.out.size))
                clear hq20
                go_wp2_with fail
                go_ret
                exact ⟨rfl, Hfin.out⟩

end Go.Proofs.YtgebjjpcgakjgaaGreat
