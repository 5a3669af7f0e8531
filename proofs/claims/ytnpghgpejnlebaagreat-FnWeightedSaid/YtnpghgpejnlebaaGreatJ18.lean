/-
  Weighted puzzles multiply as values at fixed points do. Plain.
  EquivariantProduct on both sides.
  Parts (a shape and a number), as the classes of XCls: what a call made, the law's own marks, the comparison. (Printed by gen_part.py.)
  The reference's putting of a part into an ascending list.
  The reference's permutation of a shape, a shape without its zeros, a permutation made longer.
  ClassesOk, on both sides.
  ClassesOk, in the program.
  ClassesOk, in the reference.
  SessionOk on both sides; sessions copied, measured, compared.
  spec.EquivariantShapes.
  EquivariantShapes by weighted puzzles. Plain.
  A number added to a shape's count in a list in ascending order. Plain.
-/
import Derived.Test.YtnpghgpejnlebaaGreatJ17
import Derived.Test.YtnpghgpejnlebaaGreatJ16
import Derived.Test.YtnpghgpejnlebaaGreatJ11
import Derived.Test.YtnpghgpejnlebaaGreatJ3
import Derived.Test.YtnpghgpejnlebaaGreatJ2
import Derived.Deep.RegionLaw
namespace Go.Proofs.YtnpghgpejnlebaaGreat
set_option linter.all false
set_option maxRecDepth 100000
open Go.RowKit

theorem wt_dec : ∀ n : Fin 4, ((List.range (n.val + 2)).all fun k => wtB (n.val + 1) k) = true := by decide +kernel
theorem wt_at {n k : Nat} (h1 : 1 ≤ n) (h4 : n ≤ 4) (hk : k ≤ n) {a b p : List Int} (ha : a ∈ ishs k (n - k)) (hb : b ∈ ishs k (n - k)) (hp : p ∈ ishs k (n - k)) : wtB1 n k a b p = true := by
  have := wt_dec ⟨n - 1, by omega⟩
  rw [show (⟨n - 1, by omega⟩ : Fin 4).val + 1 = n by simp; omega, show (⟨n - 1, by omega⟩ : Fin 4).val + 2 = n + 1 by simp; omega] at this
  rw [List.all_eq_true] at this
  have := this k (List.mem_range.2 (by omega))
  unfold wtB at this
  rw [List.all_eq_true] at this
  have := this a ha
  rw [List.all_eq_true] at this
  have := this b hb
  rw [List.all_eq_true] at this
  exact this p hp
theorem evA_foldS (ys : List Int) (f g : List Int → PA) : ∀ (l : List (List Int)) (acc : PA), evA ys (l.foldl (fun acc s => mulA (f s) (g s) acc) acc) = (l.map fun s => evA ys (f s) * evA ys (g s)).sum + evA ys acc
  | [], acc => by simp
  | s :: l, acc => by
    rw [List.foldl_cons, evA_foldS ys f g l, evA_mul, List.map_cons, List.sum_cons]
    omega
/-- the weights of all puzzles with two sides, shape by shape -/
def wsN (n k : Nat) (ys a b s : List Int) : Int := wsI n ys s (puzL n (gsL a k n) (gsL b k n))
section
variable {n k : Nat} {ys a b : List Int}
theorem wt_gr (hy : YOk n ys) (hk : k ≤ n) (ha : a ∈ ishs k (n - k)) (hb : b ∈ ishs k (n - k)) {p : List Int} (hp : p ∈ ishs k (n - k)) :
    FW n ys (gpW a k n) (gpW p k n) * FW n ys (gpW b k n) (gpW p k n) = ((ishs k (n - k)).map fun s => wsN n k ys a b s * FW n ys (gpW s k n) (gpW p k n)).sum := by
  have S := shpIs hy.one hy.four hk
  have h := evA_nul ys _ (wt_at hy.one hy.four hk ha hb hp)
  rw [evA_mul, evA_neg, evA_foldS, fwA_ev (S.p5 a ha) (S.p5 p hp) hy.len hy.one hy.four, fwA_ev (S.p5 b hb) (S.p5 p hp) hy.len hy.one hy.four] at h
  have e : ((ishs k (n - k)).map fun s => evA ys (wsA n s (puzL n (gsL a k n) (gsL b k n))) * evA ys (fwA n (gpW s k n) (gpW p k n))) = (ishs k (n - k)).map fun s => wsN n k ys a b s * FW n ys (gpW s k n) (gpW p k n) := by
    refine List.map_congr_left fun s hs => ?_
    rw [ws_ev hy.four, fwA_ev (S.p5 s hs) (S.p5 p hp) hy.len hy.one hy.four]
    rfl
  rw [e] at h
  simp only [evA] at h
  omega
/-- .. at all permutations -/
theorem wt_all (hy : YOk n ys) (hk : k ≤ n) (ha : a ∈ ishs k (n - k)) (hb : b ∈ ishs k (n - k)) : ∀ (m : Nat) (p : List Int), lnN p = m → P5 n p →
    FW n ys (gpW a k n) p * FW n ys (gpW b k n) p = ((ishs k (n - k)).map fun s => wsN n k ys a b s * FW n ys (gpW s k n) p).sum := by
  have S := shpIs hy.one hy.four hk
  intro m
  induction m using Nat.strongRecOn with
  | _ m ih =>
    intro p hm hp
    cases hg : grB k n p with
    | true =>
      have hm : p ∈ (permsL n).filter (grB k n) := List.mem_filter.2 ⟨perm_mem hp.ok (by rw [hp.len]; exact Nat.le_trans hy.four (by omega)) |> fun h => by rw [hp.len] at h; exact h, hg⟩
      obtain ⟨s, hs, e⟩ := List.mem_map.1 (S.perm.mem_iff.1 hm)
      rw [← e]
      exact wt_gr hy hk ha hb hs
    | false =>
      unfold grB at hg
      rw [List.all_eq_false] at hg
      obtain ⟨j, hj, hn⟩ := hg
      have hj' : j + 1 < n := by have := List.mem_range.1 hj; omega
      simp only [Bool.or_eq_true, decide_eq_true_eq, not_or] at hn
      have hn2 : ascB j p = false := by cases e : ascB j p with
        | true => exact absurd e hn.2
        | false => rfl
      have hu := hp.sw hj'
      have hl := len_desc hp hj' hn2
      have h1 := ih (lnN (sw j p)) (by omega) (sw j p) rfl hu
      have ss : sw j (sw j p) = p := sw_sw (by rw [hp.len]; exact hj')
      have e : ∀ s, s ∈ ishs k (n - k) → FW n ys (gpW s k n) p = FW n ys (gpW s k n) (sw j p) := fun s hs => by
        have h2 := FW_rec (ys := ys) (S.p5 s hs) hu hj'
        rw [ss, gp_asc S hs hj' hn.1] at h2
        simpa using h2
      rw [e a ha, e b hb, h1]
      congr 1
      refine List.map_congr_left fun s hs => ?_
      rw [e s hs]

end

end Go.Proofs.YtnpghgpejnlebaaGreat

namespace Go.Proofs.YtnpghgpejnlebaaGreat
set_option linter.all false
set_option maxRecDepth 100000
open Go.RowKit

theorem implAp_c (N : Int) (v : Value) (y : List Int) (b : Bool) (hb : apOk N y = b) (w : World) (h : Ints w v y) : Calls Tryz.prog 25 #[.int .i64 N, v] w fun e w' => e = .returned (.bool b) ∧ Below w.heap.size w w' :=
  (weightsOk_any N v y w h).mono fun e w' ⟨h1, h2⟩ => ⟨by rw [h1, hb], h2.below _⟩
set_option maxHeartbeats 16000000 in
theorem implEqui_any (pu pv py : Value) (us vs ys : List Int) (w : World) (hu : Ints w pu us) (hv : Ints w pv vs) (hy : Ints w py ys) :
    Calls Tryz.prog 26 #[pu, pv, py] w (RetCB w (eqL us vs ys)) := by
  have HU := Lib.hid hu
  have HV := Lib.hid hv
  have HY := Lib.hid hy
  obtain ⟨au, cu, rfl, ⟨hu1, hu2⟩, hux⟩ := hu
  obtain ⟨av, cv, rfl, ⟨hv1, hv2⟩, hvx⟩ := hv
  obtain ⟨ay, cy, rfl, ⟨hy1, hy2⟩, hyx⟩ := hy
  clear hux hvx hyx
  unfold maxLen at hu2 hv2 hy2
  have no : ∀ w', eqOk us vs ys = false → Below w.heap.size w w' → RetCB w (eqL us vs ys) (.returned (.tuple #[.slice none 0 0, .bool false])) w' := fun w' h hb => by rw [eqL_no h]; exact ⟨_, rfl, OwnCd.nil _ _ _, hb⟩
  have No := Lib.hid no
  clear no
  go_enter Tryz.func26, Tryz.ntmps26
  cases h1 : permOk us with
  | false =>
    have H1 := Lib.hid h1
    clear h1
    go_wp2_with fail
    refine (implIsPerm_b _ us false H1.out _ HU.out).mono ?_
    rintro e w1 ⟨rfl, hb⟩
    have Hb := Lib.hid hb
    clear hb
    go_wp2_with fail
    go_ret2
    exact No.out _ (by unfold eqOk; rw [H1.out]; rfl) Hb.out
  | true =>
  cases h2 : permOk vs with
  | false =>
    have H1 := Lib.hid h1
    have H2 := Lib.hid h2
    clear h1 h2
    go_wp2_with fail
    refine (implIsPerm_b _ us true H1.out _ HU.out).mono ?_
    rintro e w1 ⟨rfl, hb⟩
    have Hb := Lib.hid hb
    clear hb
    go_wp2_with fail
    refine (implIsPerm_b _ vs false H2.out _ (HV.out.below Hb.out)).mono ?_
    rintro e w2 ⟨rfl, hb2⟩
    have Hb2 := Lib.hid (below_trans Hb.out hb2)
    clear hb2
    go_wp2_with fail
    go_ret2
    exact No.out _ (by unfold eqOk; rw [H2.out]; simp) Hb2.out
  | true =>
  have H1 := Lib.hid h1
  have H2 := Lib.hid h2
  clear h1 h2
  by_cases h3 : us.length = vs.length
  · have H3 := Lib.hid h3
    rw [← h3] at hv1 HV ⊢
    clear h3
    cases h4 : apOk us.length ys with
    | false =>
      have H4 := Lib.hid h4
      clear h4
      go_wp2_with fail
      refine (implIsPerm_b _ us true H1.out _ HU.out).mono ?_
      rintro e w1 ⟨rfl, hb⟩
      have Hb := Lib.hid hb
      clear hb
      go_wp2_with fail
      refine (implIsPerm_b _ vs true H2.out _ (by have := HV.out.below Hb.out; exact this)).mono ?_
      rintro e w2 ⟨rfl, hb2⟩
      have Hb2 := Lib.hid (below_trans Hb.out hb2)
      clear hb2
      go_wp2_with fail
      refine (implAp_c _ _ ys false H4.out _ (HY.out.below Hb2.out)).mono ?_
      rintro e w3 ⟨rfl, hb3⟩
      have Hb3 := Lib.hid (below_trans Hb2.out hb3)
      clear hb3
      go_wp2_with fail
      go_ret2
      exact No.out _ (by unfold eqOk; rw [H4.out]; simp) Hb3.out
    | true =>
      have H4 := Lib.hid h4
      have hok : eqOk us vs ys = true := by unfold eqOk; rw [H1.out, H2.out, decide_eq_true H3.out, h4]; rfl
      have E := eqIs hok
      rw [eqL_yes hok]
      clear h4 hok No
      obtain ⟨n, hn⟩ : ∃ n, n = us.length := ⟨_, rfl⟩
      rw [← hn] at E H3 H4 hu1 hv1 HU HV ⊢
      have HE := Lib.hid E
      have Hn := Lib.hid hn
      obtain ⟨F, hF⟩ : ∃ F, F = fact n := ⟨_, rfl⟩
      have hf := fact4 E.y.one (show n ≤ 5 by have := E.y.four; omega)
      rw [← hF] at hf
      have HF := Lib.hid hF
      have hyl := E.y.len
      rw [hyl] at hy1 HY ⊢
      clear E hF hn hyl
      go_wp2_with fail
      refine (implIsPerm_b _ us true H1.out _ HU.out).mono ?_
      rintro e w1 ⟨rfl, hb⟩
      have Hb := Lib.hid hb
      clear hb
      go_wp2_with fail
      refine (implIsPerm_b _ vs true H2.out _ (HV.out.below Hb.out)).mono ?_
      rintro e w2 ⟨rfl, hb2⟩
      have Hb2 := Lib.hid (below_trans Hb.out hb2)
      clear hb2
      go_wp2_with fail
      refine (implAp_c _ _ ys true H4.out _ (HY.out.below Hb2.out)).mono ?_
      rintro e w3 ⟨rfl, hb3⟩
      have Hb3 := Lib.hid (below_trans Hb2.out hb3)
      clear hb3
      go_wp2_with fail
      refine (implTable_any n us ys _ _ w3 HE.out.u HE.out.y.one HE.out.y.four HE.out.y.len HE.out.y.nine (HU.out.below Hb3.out) (HY.out.below Hb3.out)).mono ?_
      rintro e w4 ⟨ua, rfl, hoa, hb4⟩
      have hla : (tabL us ys).length = F := by rw [tabL_length, HE.out.u.len, HF.out]
      have ha := hoa.fn
      obtain ⟨pa, ka, rfl, hka, hkam⟩ := hoa.shape
      unfold maxLen at hkam
      rw [hla] at ha hka ⊢
      have hs4 := hb4.size
      have HA := Lib.hid ha
      have Hb4 := Lib.hid (below_trans Hb3.out hb4)
      have hs3 := Hb3.out.size
      clear ha hb4 hoa hla
      go_wp2_with fail
      refine (implTable_any n vs ys _ _ w4 HE.out.v HE.out.y.one HE.out.y.four HE.out.y.len HE.out.y.nine (HV.out.below Hb4.out) (HY.out.below Hb4.out)).mono ?_
      rintro e w5 ⟨ub, rfl, hob, hb5⟩
      have hlb : (tabL vs ys).length = F := by rw [tabL_length, HE.out.v.len, HF.out]
      have hb' := hob.fn
      obtain ⟨pb, kb, rfl, hkb, hkbm⟩ := hob.shape
      unfold maxLen at hkbm
      rw [hlb] at hb' hkb ⊢
      have hs5 := hb5.size
      have ha5 := HA.out.below hb5
      obtain ⟨ga, rfl, hga1, hga2, hga3⟩ := ha5.at_ (by omega)
      obtain ⟨gb, rfl, hgb1, hgb2, hgb3⟩ := hb'.at_ (by omega)
      have HA5 := Lib.hid ha5
      have HB5 := Lib.hid (show ∀ j, j < F → w5.cell? ⟨gb, j, none⟩ = some (iv (tabL vs ys) j) from fun j hj => hb'.cell hj)
      have Hb5 := Lib.hid (below_trans Hb4.out hb5)
      have hgab : w4.heap.size ≤ gb := hgb1
      clear ha5 hb' hb5 hob hlb HA
      go_wp2_with fail
      go_loopg [12, 49] F (fun g s12 s49 wr => ∃ j : Nat, j ≤ F ∧ g = F - j ∧ s49 = .int .i64 (j : Int) ∧ Hid (Frm w3.heap.size w4.heap.size w5 wr) ∧ Hid (OwnF wr w3.heap.size w4.heap.size 3 (.slice (some ⟨ga, 0, none⟩) F ka) F (fun t => if t < j then iv (mulT n ys us vs) t else iv (tabL us ys) t)))
      case atStart => exact ⟨0, Nat.zero_le _, rfl, rfl, Lib.hid (Frm.refl _ _ _), Lib.hid (HA5.out.congr fun t _ => by rw [if_neg (Nat.not_lt_zero _)])⟩
      case round =>
        obtain ⟨j, hj, rfl, rfl, hfj, hoj⟩ := hrel
        obtain ⟨wz, rfl⟩ : ∃ x : World, x = wr := ⟨_, rfl⟩
        have Hfj := Lib.hid hfj.out
        have Hoj := Lib.hid hoj.out
        clear hfj hoj
        by_cases hjF : j < F
        · have hjFi : (j : Int) < (F : Int) := by omega
          obtain ⟨a, haa⟩ : ∃ a, a = (tabL us ys).getD j 0 := ⟨_, rfl⟩
          obtain ⟨b, hbb⟩ : ∃ b, b = (tabL vs ys).getD j 0 := ⟨_, rfl⟩
          have ca : wz.cell? ⟨ga, j, none⟩ = some (.int .i64 a) := by rw [Hoj.out.cell hjF, if_neg (Nat.lt_irrefl _), haa]; rfl
          have fa : wz.frozen? ⟨ga, j, none⟩ = false := Hoj.out.frozen j
          have cb : wz.cell? ⟨gb, j, none⟩ = some (.int .i64 b) := by
            have := HB5.out j hjF
            unfold World.cell? at this ⊢
            rw [Hfj.out.block gb hgb3 (.inr hgab), hbb]
            exact this
          obtain ⟨M, hM⟩ : ∃ M, M = a * b := ⟨_, rfl⟩
          have hMb : M.natAbs ≤ 1000000 * 1000000 := by rw [hM, haa, hbb]; exact abs_mul2 (tab_bound HE.out.y HE.out.u (by rw [← HF.out]; exact hjF)) (tab_bound HE.out.y HE.out.v (by rw [← HF.out]; exact hjF))
          have hwM : IntKind.i64.wrap (a * b) = M := by rw [← hM, IntKind.wrap_i64]; omega
          have Ha := Lib.hid haa
          have HB := Lib.hid hbb
          have HM := Lib.hid hM
          clear haa hbb hM hMb
          go_wp2_with fail
          go_region
          go_wp2_with fail
          go_roundg (F - (j + 1))
          case measure => omega
          case rel =>
            refine ⟨j + 1, by omega, rfl, by go_num, Lib.hid ?_, Lib.hid ?_⟩
            · exact (Hfj.out.setCell (p := ⟨ga, j, none⟩) hga1 hga2 _).drewN 1
            · have h1 := Hoj.out.set j (.int .i64 M)
              have h2 : OwnF (wz.setCell ⟨ga, j, none⟩ (.int .i64 M)).drew w3.heap.size w4.heap.size 3 (.slice (some ⟨ga, 0, none⟩) F ka) F _ := h1.below ((Below.refl _ _).drew)
              refine h2.congr fun t ht => ?_
              by_cases h3 : t = j
              · rw [if_pos h3, if_pos (by omega), h3]
                unfold iv
                rw [mulT_getD (by rw [← HF.out]; exact hjF), HM.out, Ha.out, HB.out]
              · rw [if_neg h3]
                by_cases h4 : t < j
                · rw [if_pos h4, if_pos (by omega)]
                · rw [if_neg h4, if_neg (by omega)]
        · have hjFi : ¬ (j : Int) < (F : Int) := by omega
          have hjE : j = F := by omega
          have hml : (mulT n ys us vs).length = F := by rw [mulT_length, HF.out]
          have Hmz := Lib.hid (show Ints wz (.slice (some ⟨ga, 0, none⟩) F ka) (mulT n ys us vs) from by
            refine OwnI.ints (T := 3) (lo := w3.heap.size) (hi := w4.heap.size) (OwnF.ints ?_)
            rw [hml]
            exact Hoj.out.congr fun t ht => by rw [if_pos (by omega)])
          have hbz : Below w.heap.size w wz := Hb5.out.trans (Hfj.out.below hs3 Hb5.out.size)
          have Hbz := Lib.hid hbz
          have Hyz := Lib.hid (HY.out.below hbz)
          have Hx := Lib.hid (implExpand_any n _ _ _ ys wz Hmz.out Hyz.out true (gk_mul HE.out.y HE.out.u HE.out.v))
          rw [show (if true = true then expE (n : Int).toNat (mulT n ys us vs) ys (ordL (n : Int).toNat) else ([], false)) = expE n (mulT n ys us vs) ys (ordL n) from rfl] at Hx
          obtain ⟨E', hE'⟩ : ∃ E', E' = expE n (mulT n ys us vs) ys (ordL n) := ⟨_, rfl⟩
          rw [← hE'] at Hx
          have HE' := Lib.hid hE'
          clear hml hbz hE'
          go_wp2_with fail
          refine Hx.out.mono ?_
          rintro e w9 ⟨r, rfl, hor, hbr⟩
          obtain ⟨pr, kr, rfl, _, _⟩ := hor.shape
          have Hor := Lib.hid hor
          have Hbr := Lib.hid hbr
          clear hor hbr Hx
          go_wp2_with fail
          go_ret2
          rw [← HE'.out]
          exact ⟨_, rfl, Hor.out.mono Hbz.out.size (Nat.le_refl _), Hbz.out.trans (Hbr.out.mono Hbz.out.size)⟩
  · have H3 := Lib.hid h3
    have hni : (((us.length : Int)) != (vs.length : Int)) = true := by simp; omega
    clear h3
    go_wp2_with fail
    refine (implIsPerm_b _ us true H1.out _ HU.out).mono ?_
    rintro e w1 ⟨rfl, hb⟩
    have Hb := Lib.hid hb
    clear hb
    go_wp2_with fail
    refine (implIsPerm_b _ vs true H2.out _ (HV.out.below Hb.out)).mono ?_
    rintro e w2 ⟨rfl, hb2⟩
    have Hb2 := Lib.hid (below_trans Hb.out hb2)
    clear hb2
    go_wp2_with fail
    go_ret2
    exact No.out _ (by unfold eqOk; rw [decide_eq_false H3.out]; simp) Hb2.out

end Go.Proofs.YtnpghgpejnlebaaGreat

namespace Go.Proofs.YtnpghgpejnlebaaGreat
set_option linter.all false
set_option maxRecDepth 100000
open Go.RowKit

/-- classes that a call made -/
def OwnPl (w : World) (lo hi : Nat) (v : Value) (cs : List Cls) : Prop :=
  ∃ g, OwnS w lo hi 63 2 v cs.length (clF cs g) ∧ ∀ i, i < cs.length → OwnI 3 w lo hi (g i) (cs.getD i clD).1

theorem OwnPl.rd {w : World} {lo hi : Nat} {v : Value} {cs : List Cls} (h : OwnPl w lo hi v cs) : RdCl w v cs := by
  obtain ⟨g, h1, h2⟩ := h
  exact ⟨g, h1.rd, fun i hi => (h2 i hi).ints⟩

theorem OwnPl.below {w w' : World} {lo hi : Nat} {v : Value} {cs : List Cls} (h : OwnPl w lo hi v cs) (hb : Below w.heap.size w w') : OwnPl w' lo hi v cs := by
  obtain ⟨g, h1, h2⟩ := h
  exact ⟨g, h1.below hb, fun i hi => (h2 i hi).below hb⟩

theorem OwnPl.mono {w : World} {lo hi lo' hi' : Nat} {v : Value} {cs : List Cls} (h : OwnPl w lo hi v cs) (a : lo' ≤ lo) (b : hi ≤ hi') : OwnPl w lo' hi' v cs := by
  obtain ⟨g, h1, h2⟩ := h
  exact ⟨g, h1.mono a b, fun i hi => (h2 i hi).mono a b⟩

theorem OwnPl.setCell {w : World} {lo hi : Nat} {v : Value} {cs : List Cls} (h : OwnPl w lo hi v cs) {a : Addr} (ho : a.block < lo ∨ hi ≤ a.block) (u : Value) : OwnPl (w.setCell a u) lo hi v cs := by
  obtain ⟨g, h1, h2⟩ := h
  exact ⟨g, h1.setCell ho u, fun i hi => (h2 i hi).setCell ho u⟩

theorem OwnPl.shape {w : World} {lo hi : Nat} {v : Value} {cs : List Cls} (h : OwnPl w lo hi v cs) : ∃ p cap, v = .slice p cs.length cap ∧ cs.length ≤ cap ∧ cap ≤ maxLen := by
  obtain ⟨g, h1, _⟩ := h
  obtain ⟨p, cap, e, h2, h3, _⟩ := h1.shape
  exact ⟨p, cap, e, h2, h3⟩

def OwnPd (w : World) (lo hi : Nat) (v : Value) (cs : List Cls) : Prop :=
  ∃ f, OwnS w lo hi 63 2 v cs.length (clF cs f) ∧ (∀ i, i < cs.length → OwnI 3 w lo hi (f i) (cs.getD i clD).1) ∧
    ∀ i j, i < j → j < cs.length → ∀ k, (f i).ownBlock = some k → (f j).ownBlock ≠ some k
namespace OwnPd
variable {w w' : World} {lo hi : Nat} {v : Value} {cs : List Cls}
theorem cl (h : OwnPd w lo hi v cs) : OwnPl w lo hi v cs := by
  obtain ⟨f, h1, h2, _⟩ := h
  exact ⟨f, h1, h2⟩
theorem rd (h : OwnPd w lo hi v cs) : RdCl w v cs := h.cl.rd
theorem keep (h : OwnPd w lo hi v cs) (hb : ∀ k, lo ≤ k → k < hi → k < w.heap.size → w'.heap[k]? = w.heap[k]?) : OwnPd w' lo hi v cs := by
  obtain ⟨f, h1, h2, h3⟩ := h
  exact ⟨f, h1.keep hb, fun i hi => Own.keep (h2 i hi) hb, h3⟩
theorem below (h : OwnPd w lo hi v cs) (hb : Below w.heap.size w w') : OwnPd w' lo hi v cs := h.keep fun k _ _ h3 => hb.block k h3
theorem frm {lo' hi' : Nat} (h : OwnPd w lo hi v cs) (hb : Frm lo' hi' w w') (ho : hi ≤ lo' ∨ hi' ≤ lo) : OwnPd w' lo hi v cs := h.keep fun k h1 h2 h3 => hb.block k h3 (by omega)
theorem mono {lo' hi' : Nat} (h : OwnPd w lo hi v cs) (h1 : lo' ≤ lo) (h2 : hi ≤ hi') : OwnPd w lo' hi' v cs := by
  obtain ⟨f, g1, g2, g3⟩ := h
  exact ⟨f, g1.mono h1 h2, fun i hi => (g2 i hi).mono h1 h2, g3⟩
theorem shape (h : OwnPd w lo hi v cs) : ∃ p cap, v = .slice p cs.length cap ∧ cs.length ≤ cap ∧ cap ≤ maxLen := h.cl.shape
theorem nil (w : World) (lo hi : Nat) : OwnPd w lo hi (.slice none 0 0) [] := ⟨fun _ => undef, OwnS.nil _ _ _ _ _ _, fun i hi => absurd hi (Nat.not_lt_zero _), fun i j _ hj => absurd hj (Nat.not_lt_zero _)⟩
theorem made0 (w : World) : OwnPd (w.alloc (.cells #[] 63)) w.heap.size (w.heap.size + 1) (.slice (some ⟨w.heap.size, 0, none⟩) 0 0) [] :=
  ⟨fun _ => undef, OwnS.made0 _ _ _ _, fun i hi => absurd hi (Nat.not_lt_zero _), fun i j _ hj => absurd hj (Nat.not_lt_zero _)⟩
theorem getD_snoc {cs : List Cls} {m : Cls} {i : Nat} : (cs ++ [m]).getD i clD = if i < cs.length then cs.getD i clD else if i = cs.length then m else clD := by
  by_cases h : i < cs.length
  · rw [if_pos h]; simp [List.getD_eq_getElem?_getD, List.getElem?_append_left h]
  · rw [if_neg h]
    by_cases e : i = cs.length
    · subst e; simp [List.getD_eq_getElem?_getD]
    · rw [if_neg e]; simp [List.getD_eq_getElem?_getD]; rw [List.getElem?_eq_none (by simp; omega)]; rfl
/-- a class of its own is put behind the others -/
theorem snoc {v' x : Value} {m : Cls} {mid : Nat} {f : Nat → Value} (g1 : OwnS w lo mid 63 2 v cs.length (clF cs f)) (g2 : ∀ i, i < cs.length → OwnI 3 w lo mid (f i) (cs.getD i clD).1)
    (g3 : ∀ i j, i < j → j < cs.length → ∀ k, (f i).ownBlock = some k → (f j).ownBlock ≠ some k) (hx : OwnI 3 w mid hi x m.1) (hm : lo ≤ mid) (hmh : mid ≤ hi)
    (hg : w.grownBy w' v.ownBlock) (hsz : hi ≤ w'.heap.size)
    (hv : OwnS w' lo w'.heap.size 63 2 v' (cs.length + 1) (fun i => if i < cs.length then clF cs f i else fun j => match j with | 0 => x | _ => .int .i64 m.2)) : OwnPd w' lo w'.heap.size v' (cs ++ [m]) := by
  have hrow : ∀ (y : Value) (ys : List Int) (lo1 hi1 : Nat), OwnI 3 w lo1 hi1 y ys → OwnI 3 w' lo1 hi1 y ys := fun y ys lo1 hi1 hy =>
    ⟨ownsRow_of_block hy.1 fun k hk => hg.block k (Own.block hy hk).2.2 fun e => ne_of_kinds (g1.kind k e.symm) (OwnI.kind hy k hk) (by decide), hy.2⟩
  refine ⟨fun i => if i < cs.length then f i else x, by
    rw [List.length_append]
    refine hv.congr fun i hi j hj => ?_
    by_cases h : i < cs.length
    · rw [if_pos h]
      unfold clF
      rw [getD_snoc, if_pos h]
      have : j = 0 ∨ j = 1 := by omega
      rcases this with rfl | rfl
      · show f i = if i < cs.length then f i else x
        rw [if_pos h]
      · rfl
    · have e : i = cs.length := by omega
      rw [if_neg h]
      unfold clF
      rw [getD_snoc, if_neg h, if_pos e]
      have : j = 0 ∨ j = 1 := by omega
      rcases this with rfl | rfl
      · show x = if i < cs.length then f i else x
        rw [if_neg h]
      · rfl, fun i hi => ?_, fun i j hij hj k hk => ?_⟩
  · rw [List.length_append] at hi
    simp only [List.length_singleton] at hi
    rw [getD_snoc]
    by_cases h : i < cs.length
    · simp only [h, if_true]
      exact (hrow _ _ _ _ (g2 i h)).mono (Nat.le_refl _) (by omega)
    · have : i = cs.length := by omega
      simp only [h, if_false]
      rw [if_pos this]
      exact (hrow _ _ _ _ hx).mono hm hsz
  · rw [List.length_append] at hj
    simp only [List.length_singleton] at hj
    simp only [show i < cs.length by omega, if_true] at hk
    by_cases h : j < cs.length
    · simp only [h, if_true]
      exact g3 i j hij h k hk
    · simp only [h, if_false]
      intro e
      have h5 := (Own.block (g2 i (by omega)) hk).2.1
      have h6 := (Own.block hx e).1
      omega
end OwnPd

theorem info_prt : (Tryz.prog.info? 63).map (fun i => (i.zero, i.size, i.bytes)) = some (some (.agg #[.slice none 0 0, .int .i64 0]), 2, 32) := by kernel_rfl

end Go.Proofs.YtnpghgpejnlebaaGreat

namespace Go.Proofs.YtnpghgpejnlebaaGreat
set_option linter.all false
set_option maxRecDepth 100000
open Go.RowKit

/-- classes whose row lies from lo1 on, the permutations from lo0 on -/
def OwnPe (w : World) (lo1 lo0 hi : Nat) (v : Value) (cs : List Cls) : Prop :=
  ∃ g, OwnS w lo1 hi 63 2 v cs.length (clF cs g) ∧ ∀ i, i < cs.length → OwnI 3 w lo0 hi (g i) (cs.getD i clD).1
theorem OwnPe.below {w w' : World} {lo1 lo0 hi : Nat} {v : Value} {cs : List Cls} (h : OwnPe w lo1 lo0 hi v cs) (hb : Below w.heap.size w w') : OwnPe w' lo1 lo0 hi v cs := by
  obtain ⟨g, h1, h2⟩ := h
  exact ⟨g, h1.below hb, fun i hi => (h2 i hi).below hb⟩
theorem OwnPe.cl {w : World} {lo1 lo0 hi : Nat} {v : Value} {cs : List Cls} (h : OwnPe w lo1 lo0 hi v cs) (hl : lo0 ≤ lo1) : OwnPl w lo0 hi v cs := by
  obtain ⟨g, h1, h2⟩ := h
  exact ⟨g, h1.mono hl (Nat.le_refl _), h2⟩
theorem OwnPe.snoc {w w' : World} {lo1 lo0 mid : Nat} {v v' x : Value} {cs : List Cls} {m : Cls} {f : Nat → Value} {n : Nat} (hn : n = cs.length) (g1 : OwnS w lo1 mid 63 2 v n (clF cs f)) (g2 : ∀ i, i < cs.length → OwnI 3 w lo0 mid (f i) (cs.getD i clD).1)
    (hx : OwnI 3 w lo0 mid x m.1) (hg : w.grownBy w' v.ownBlock) (hsz : mid ≤ w'.heap.size)
    (hv : OwnS w' lo1 w'.heap.size 63 2 v' (n + 1) (fun i => if i < n then clF cs f i else fun j => match j with | 0 => x | _ => .int .i64 m.2)) : OwnPe w' lo1 lo0 w'.heap.size v' (cs ++ [m]) := by
  subst hn
  have hrow : ∀ (y : Value) (ys : List Int) (lo1 hi1 : Nat), OwnI 3 w lo1 hi1 y ys → OwnI 3 w' lo1 hi1 y ys := fun y ys lo1 hi1 hy =>
    ⟨ownsRow_of_block hy.1 fun k hk => hg.block k (Own.block hy hk).2.2 fun e => ne_of_kinds (g1.kind k e.symm) (OwnI.kind hy k hk) (by decide), hy.2⟩
  refine ⟨fun i => if i < cs.length then f i else x, by
    rw [List.length_append]
    refine hv.congr fun i hi j hj => ?_
    by_cases h : i < cs.length
    · rw [if_pos h]
      unfold clF
      rw [OwnCd.getD_snoc, if_pos h]
      have : j = 0 ∨ j = 1 := by omega
      rcases this with rfl | rfl
      · show f i = if i < cs.length then f i else x
        rw [if_pos h]
      · rfl
    · have e : i = cs.length := by omega
      rw [if_neg h]
      unfold clF
      rw [OwnCd.getD_snoc, if_neg h, if_pos e]
      have : j = 0 ∨ j = 1 := by omega
      rcases this with rfl | rfl
      · show x = if i < cs.length then f i else x
        rw [if_neg h]
      · rfl, fun i hi => ?_⟩
  rw [List.length_append] at hi
  simp only [List.length_singleton] at hi
  rw [OwnCd.getD_snoc]
  by_cases h : i < cs.length
  · simp only [h, if_true]
    exact (hrow _ _ _ _ (g2 i h)).mono (Nat.le_refl _) hsz
  · have : i = cs.length := by omega
    simp only [h, if_false]
    rw [if_pos this]
    exact (hrow _ _ _ _ hx).mono (Nat.le_refl _) hsz

end Go.Proofs.YtnpghgpejnlebaaGreat

namespace Go.Proofs.YtnpghgpejnlebaaGreat
set_option linter.all false
set_option maxRecDepth 100000
open Go.RowKit

theorem gpB_lt (A : List Int) (x : Nat) : ¬ (x : Int) ∈ gpB A x := fun h => by
  unfold gpB at h
  obtain ⟨y, hy, e⟩ := List.mem_map.1 h
  have := List.mem_range.1 (List.mem_filter.1 hy).1
  omega
theorem growL_length (t : List Int) (n : Nat) (h : t.length ≤ n) : (growL t n).length = n := by simp [growL]; omega
theorem growL_step (t : List Int) {m : Nat} (h : t.length ≤ m) : growL t (m + 1) = growL t m ++ [(m : Int)] := by
  unfold growL
  rw [show m + 1 - t.length = (m - t.length) + 1 by omega, List.range_succ, List.map_append, ← List.append_assoc]
  congr 1
  simp; omega
theorem growL_none (t : List Int) : growL t t.length = t := by unfold growL; simp

end Go.Proofs.YtnpghgpejnlebaaGreat

namespace Go.Proofs.YtnpghgpejnlebaaGreat
set_option linter.all false
open Go.RowKit

/-- class k of a list is as it should be -/
def clAt (cs : List Cls) (k : Nat) : Bool :=
  permOk (cs.getD k clD).1 && decide (trimN (cs.getD k clD).1 (cs.getD k clD).1.length = (cs.getD k clD).1.length) && !decide ((cs.getD k clD).2 = 0) && !decide ((cs.getD k clD).2 < -1000000) && !decide (1000000 < (cs.getD k clD).2) &&
    (!decide (0 < k) || ltB (cs.getD (k - 1) clD).1 (cs.getD k clD).1)
def clsOk (cs : List Cls) : Bool := decide (cs.length ≤ 100) && (List.range cs.length).all (clAt cs)
theorem clsOk_big {cs : List Cls} (h : 100 < cs.length) : clsOk cs = false := by
  unfold clsOk; rw [decide_eq_false (by omega)]; rfl
theorem clsOk_bad {cs : List Cls} {k : Nat} (hk : k < cs.length) (h : clAt cs k = false) : clsOk cs = false := by
  unfold clsOk
  have : (List.range cs.length).all (clAt cs) = false := List.all_eq_false.2 ⟨k, List.mem_range.2 hk, by simp [h]⟩
  rw [this, Bool.and_false]
theorem clsOk_yes {cs : List Cls} (hl : cs.length ≤ 100) (h : ∀ k, k < cs.length → clAt cs k = true) : clsOk cs = true := by
  unfold clsOk
  rw [decide_eq_true hl, Bool.true_and, List.all_eq_true]
  exact fun k hk => h k (List.mem_range.1 hk)
theorem implTrim_sh (v : Value) (xs : List Int) (w : World) (h : Ints w v xs) (hp : permOk xs = true) :
    Calls Tryz.prog 28 #[v] w fun e w' => ∃ (p : Option Addr) (k : Nat), e = .returned (.slice p (trimN xs xs.length) k) ∧ Below w.heap.size w w' :=
  (implTrim_yes v xs w h hp).mono fun e w' ⟨u, h1, h2, h3⟩ => by
    obtain ⟨p, k, rfl, _, _⟩ := h2.shape
    exact ⟨p, k, by rw [h1, trimL_length], h3⟩
theorem keep3w {wr W W' : World} {a0 a1 a2 : Addr} {v0 v1 v2 : Value} (hb : Below W.heap.size W W') (h : (W.cell? a0 = some v0 ∧ W.cell? a1 = some v1 ∧ W.cell? a2 = some v2) ∧ Below wr.heap.size wr W) :
    (W'.cell? a0 = some v0 ∧ W'.cell? a1 = some v1 ∧ W'.cell? a2 = some v2) ∧ Below wr.heap.size wr W' :=
  ⟨⟨cell_below hb h.1.1, cell_below hb h.1.2.1, cell_below hb h.1.2.2⟩, below_trans h.2 hb⟩

theorem Qt.belowS {w w' : World} (h : Qt w w') : Below w.heap.size w w' := h.below _
end Go.Proofs.YtnpghgpejnlebaaGreat

namespace Go.Proofs.YtnpghgpejnlebaaGreat
set_option linter.all false
open Go.RowKit

end Go.Proofs.YtnpghgpejnlebaaGreat

namespace Go.Proofs.YtnpghgpejnlebaaGreat
set_option linter.all false
open Go.RowKit

end Go.Proofs.YtnpghgpejnlebaaGreat

namespace Go.Proofs.YtnpghgpejnlebaaGreat
set_option linter.all false
open Go.RowKit

theorem blk5s {w : World} {b : Nat} {x0 x1 x2 x3 x4 : Value} {T : TypeId} (h : w.heap[b]? = some (.cells #[x0, x1, x2, x3, x4] T (0, 0))) :
    w.cell? ⟨b, 0, none⟩ = some x0 ∧ w.cell? ⟨b, 1, none⟩ = some x1 ∧ w.cell? ⟨b, 2, none⟩ = some x2 ∧ w.cell? ⟨b, 3, none⟩ = some x3 ∧ w.cell? ⟨b, 4, none⟩ = some x4 ∧ (∀ j, w.frozen? ⟨b, j, none⟩ = false) ∧ b < w.heap.size :=
  ⟨cell_of_blk h rfl, cell_of_blk h rfl, cell_of_blk h rfl, cell_of_blk h rfl, cell_of_blk h rfl, free_of_blk h, blk_lt h⟩

/-- a shape in a box, whatever the box -/
def boxOk (xs : List Int) (K N : Int) : Bool := decide (1 ≤ N ∧ N ≤ 7 ∧ 0 ≤ K ∧ K ≤ N) && bxOk xs K.toNat N.toNat
theorem boxOk_no {xs : List Int} {K N : Int} (h : ¬ (1 ≤ N ∧ N ≤ 7 ∧ 0 ≤ K ∧ K ≤ N)) : boxOk xs K N = false := by unfold boxOk; rw [decide_eq_false h]; rfl
set_option maxHeartbeats 400000 in
theorem isSize_b (n : Int) (w : World) : Calls Tryz.prog 57 #[.int .i64 n] w fun e w' => e = .returned (.bool (decide (1 ≤ n ∧ n ≤ 7))) ∧ w = w' := by
  go_enter Tryz.func57, Tryz.ntmps57
  by_cases h1 : 1 ≤ n
  · by_cases h2 : n ≤ 7
    · go_wp2
      go_ret
      exact ⟨ret_bool (by simp [h1, h2]), rfl⟩
    · go_wp2
      go_ret
      exact ⟨ret_bool (by simp [h1, h2]), rfl⟩
  · go_wp2
    go_ret
    exact ⟨ret_bool (by simp; omega), rfl⟩
set_option maxHeartbeats 1000000 in
theorem isBox_no (K N : Int) (w : World) (h : ¬ (1 ≤ N ∧ N ≤ 7 ∧ 0 ≤ K ∧ K ≤ N)) :
    Calls Tryz.prog 51 #[.int .i64 K, .int .i64 N] w fun e w' => e = .returned (.bool false) ∧ w = w' := by
  go_enter Tryz.func51, Tryz.ntmps51
  go_wp2_with fail
  refine (isSize_b N w).mono ?_
  rintro e w1 ⟨rfl, rfl⟩
  by_cases h1 : 1 ≤ N ∧ N ≤ 7
  · rw [decide_eq_true h1]
    by_cases h2 : 0 ≤ K
    · have h3 : ¬ K ≤ N := by omega
      have H3 := Lib.hid h3
      clear h h1
      go_wp2_with fail
      go_ret
      exact ⟨ret_bool (decide_eq_false (by have := H3.out; omega)), rfl⟩
    · clear h h1
      go_wp2_with fail
      go_ret
      exact ⟨rfl, rfl⟩
  · rw [decide_eq_false h1]
    clear h h1
    go_wp2_with fail
    go_ret
    exact ⟨rfl, rfl⟩
set_option maxRecDepth 100000 in
set_option maxHeartbeats 1000000 in
theorem inBox_any (v : Value) (xs : List Int) (K N : Int) (w : World) (h : Ints w v xs) :
    Calls Tryz.prog 24 #[v, .int .i64 K, .int .i64 N] w fun e w' => e = .returned (.bool (boxOk xs K N)) ∧ Qt w w' := by
  by_cases hb : 1 ≤ N ∧ N ≤ 7 ∧ 0 ≤ K ∧ K ≤ N
  · obtain ⟨h1, h2, h3, h4⟩ := hb
    obtain ⟨k, rfl⟩ := Int.eq_ofNat_of_zero_le h3
    obtain ⟨n, rfl⟩ := Int.eq_ofNat_of_zero_le (show 0 ≤ N by omega)
    unfold boxOk
    rw [decide_eq_true ⟨h1, h2, h3, h4⟩, Bool.true_and, Int.toNat_natCast, Int.toNat_natCast]
    exact IsInBox_any v xs k n w h (by omega) (by omega) (by omega)
  · rw [boxOk_no hb]
    have Hb := Lib.hid hb
    clear hb h
    go_enter Tryz.func24, Tryz.ntmps24
    go_wp2_with fail
    refine (isBox_no K N w Hb.out).mono ?_
    rintro e w1 ⟨rfl, rfl⟩
    go_wp2_with fail
    go_ret
    exact ⟨rfl, Qt.refl _⟩
/-- a session is as it should be -/
def sessOk (xs : List Int) (cs : List Cls) (ys : List Int) (K N : Int) : Bool := permOk xs && clsOk cs && boxOk ys K N

end Go.Proofs.YtnpghgpejnlebaaGreat

namespace Go.Proofs.YtnpghgpejnlebaaGreat
set_option linter.all false
set_option maxRecDepth 100000
open Go.RowKit

def esOk (aas bs : List Int) (K N : Int) (ys : List Int) : Bool := boxOk aas K N && boxOk bs K N && apOk N ys
/-- what EquivariantShapes returns -/
def esR (aas bs : List Int) (K N : Int) (ys : List Int) : List Cls × Bool :=
  if esOk aas bs K N ys then (impP K.toNat N.toNat (eqL (gpW aas K.toNat N.toNat) (gpW bs K.toNat N.toNat) ys).1, true) else ([], false)
theorem esR_no {aas bs ys : List Int} {K N : Int} (h : esOk aas bs K N ys = false) : esR aas bs K N ys = ([], false) := by unfold esR; rw [h]; rfl
structure EsIs (aas bs : List Int) (k n : Nat) (ys : List Int) (L P : List Cls) : Prop where
  kn : k ≤ n
  yok : YOk n ys
  ba : bxOk aas k n = true
  bb : bxOk bs k n = true
  eq : eqL (gpW aas k n) (gpW bs k n) ys = (L, true)
  shp : ShpL k n L P
  res : esR aas bs (k : Int) (n : Int) ys = (P, true)
theorem esIs {aas bs ys : List Int} {K N : Int} (h : esOk aas bs K N ys = true) : ∃ (k n : Nat) (L P : List Cls), K = (k : Int) ∧ N = (n : Int) ∧ EsIs aas bs k n ys L P := by
  have h0 := h
  unfold esOk boxOk at h
  simp only [Bool.and_eq_true, decide_eq_true_eq] at h
  obtain ⟨⟨⟨⟨h1, h2, h3, h4⟩, ha⟩, ⟨_, hb⟩⟩, hy⟩ := h
  obtain ⟨k, rfl⟩ := Int.eq_ofNat_of_zero_le h3
  obtain ⟨n, rfl⟩ := Int.eq_ofNat_of_zero_le (show 0 ≤ N by omega)
  rw [Int.toNat_natCast, Int.toNat_natCast] at ha hb
  have Y := yOk hy
  obtain ⟨L, P, hE, hS⟩ := shp_eq Y (show k ≤ n by omega) ha hb
  refine ⟨k, n, L, P, rfl, rfl, by omega, Y, ha, hb, hE, hS, ?_⟩
  unfold esR
  rw [h0, if_pos rfl, Int.toNat_natCast, Int.toNat_natCast, hE]
  show (impP k n L, true) = _
  rw [hS.imp]
def RetPS (w : World) (r : List Cls × Bool) (e : Ending) (w' : World) : Prop :=
  ∃ u, e = .returned (.tuple #[u, .bool r.2]) ∧ OwnPl w' w.heap.size w'.heap.size u r.1 ∧ Below w.heap.size w w'
theorem OwnPl.nil (w : World) (lo hi : Nat) : OwnPl w lo hi (.slice none 0 0) [] := ⟨fun _ => undef, OwnS.nil _ _ _ _ _ _, fun i hi => absurd hi (Nat.not_lt_zero _)⟩
theorem OwnPl.made0 (w : World) : OwnPl (w.alloc (.cells #[] 63)) w.heap.size (w.heap.size + 1) (.slice (some ⟨w.heap.size, 0, none⟩) 0 0) [] :=
  ⟨fun _ => undef, OwnS.made0 _ _ _ _, fun i hi => absurd hi (Nat.not_lt_zero _)⟩
theorem retPS_no {w w' : World} (hb : Below w.heap.size w w') : RetPS w ([], false) (.returned (.tuple #[.slice none 0 0, .bool false])) w' := ⟨_, rfl, OwnPl.nil _ _ _, hb⟩
/-- what the reference's round puts in -/
def esG (k n : Nat) (x : Cls) : Cls := (shapeL k n x.1, x.2)
/-- the shape as the reference reads it off, row by row -/
def esJ (k : Nat) (W : List Int) (j : Nat) : List Int := (List.range j).map fun (i : Nat) => W.getD (k - 1 - i) 0 - ((k - 1 - i : Nat) : Int)
theorem esJ_length (k : Nat) (W : List Int) (j : Nat) : (esJ k W j).length = j := by simp [esJ]
theorem esJ_succ (k : Nat) (W : List Int) (j : Nat) : esJ k W (j + 1) = esJ k W j ++ [W.getD (k - 1 - j) 0 - ((k - 1 - j : Nat) : Int)] := by simp [esJ, List.range_succ]
theorem ShpL.at_ {k n : Nat} {L P : List Cls} (h : ShpL k n L P) (S : ShpIs n k) {i : Nat} (hi : i < L.length) :
    P5 n (growL (L.getD i clD).1 n) ∧ (L.getD i clD).1.length ≤ n ∧ (L.getD i clD).2 ≠ 0 ∧ shL (esJ k (growL (L.getD i clD).1 n) k) = (esG k n (L.getD i clD)).1 ∧ (∀ x ∈ srtC ((L.take i).map (esG k n)), x.1 ≠ (esG k n (L.getD i clD)).1) ∧ ((esG k n (L.getD i clD)).1).length ≤ 4 ∧
      (∀ t, t < (srtC ((L.take i).map (esG k n))).length → ((srtC ((L.take i).map (esG k n))).getD t clD).1.length ≤ 1000) := by
  have hm : L.getD i clD ∈ L := by rw [List.getD_eq_getElem?_getD, List.getElem?_eq_getElem hi]; exact List.getElem_mem _
  obtain ⟨sh, hs, e1, e2⟩ := h.mem _ hm
  have hg := S.grow sh hs
  have hp := S.p5 sh hs
  refine ⟨by rw [e1, hg]; exact hp, ?_, e2, rfl, fun x hx hxe => ?_, ?_, fun t ht => ?_⟩
  · rw [e1]
    have := trimL_length (gpW sh k n)
    have h2 := trimN_le (gpW sh k n) (gpW sh k n).length
    have := hp.len
    omega
  · have hx2 := (srtC_perm _).mem_iff.1 hx
    obtain ⟨y, hy, rfl⟩ := List.mem_map.1 hx2
    obtain ⟨j, hj, rfl⟩ := List.getElem_of_mem hy
    have hjl : j < i := by rw [List.length_take] at hj; omega
    have hn := List.pairwise_iff_getElem.1 h.nodup j i (by simp; omega) (by simpa using hi) hjl
    refine hn ?_
    rw [List.getElem_map, List.getElem_map]
    have : (L.take i)[j] = L[j] := by rw [List.getElem_take]
    rw [this] at hxe
    have e3 : L.getD i clD = L[i] := by rw [List.getD_eq_getElem?_getD, List.getElem?_eq_getElem hi]; rfl
    rw [e3] at hxe
    exact hxe
  · unfold esG
    dsimp only
    rw [e1, shape_back S hs]
    exact S.short sh hs
  · have hmt : (srtC ((L.take i).map (esG k n))).getD t clD ∈ srtC ((L.take i).map (esG k n)) := by rw [List.getD_eq_getElem?_getD, List.getElem?_eq_getElem ht]; exact List.getElem_mem _
    obtain ⟨y, hy, e⟩ := List.mem_map.1 ((srtC_perm _).mem_iff.1 hmt)
    obtain ⟨s, hss, e3, _⟩ := h.mem y (List.mem_of_mem_take hy)
    rw [← e]
    unfold esG
    dsimp only
    rw [e3, shape_back S hss]
    have := S.short s hss
    omega

end Go.Proofs.YtnpghgpejnlebaaGreat

namespace Go.Proofs.YtnpghgpejnlebaaGreat
set_option linter.all false
set_option maxRecDepth 100000
open Go.RowKit

/-- the shape of a permutation that ascends but at k -/
def bkL (k : Nat) (w : List Int) : List Int := shL ((List.range k).map fun (i : Nat) => w.getD (k - 1 - i) 0 - ((k - 1 - i : Nat) : Int))
def cW (n k : Nat) (ys a b : List Int) (w : List Int) : Int := if grB k n w = true then wsN n k ys a b (bkL k w) else 0
section
variable {n k : Nat} {ys a b : List Int}
theorem cW_at (S : ShpIs n k) {s : List Int} (hs : s ∈ ishs k (n - k)) : cW n k ys a b (gpW s k n) = wsN n k ys a b s := by
  have hm : gpW s k n ∈ (permsL n).filter (grB k n) := S.perm.mem_iff.2 (List.mem_map.2 ⟨s, hs, rfl⟩)
  unfold cW bkL
  rw [if_pos (List.mem_filter.1 hm).2, S.back s hs]
theorem sumF_filter (q : List Int → Bool) (F : List Int → Int) : ∀ L : List (List Int), (∀ x ∈ L, q x = false → F x = 0) → sumF F L = sumF F (L.filter q)
  | [], _ => rfl
  | x :: L, h => by
    have ih := sumF_filter q F L fun y hy => h y (List.mem_cons_of_mem _ hy)
    rw [sumF_cons, ih]
    cases e : q x with
    | true => rw [List.filter_cons_of_pos e, sumF_cons]
    | false => rw [List.filter_cons_of_neg (by rw [e]; decide), h x List.mem_cons_self e]; omega
theorem cW_ex (hy : YOk n ys) (hk : k ≤ n) (ha : a ∈ ishs k (n - k)) (hb : b ∈ ishs k (n - k)) : Ex n ys (fun p => FW n ys (gpW a k n) p * FW n ys (gpW b k n) p) (cW n k ys a b) := fun p hp => by
  have S := shpIs hy.one hy.four hk
  show FW n ys (gpW a k n) p * FW n ys (gpW b k n) p = _
  rw [wt_all hy hk ha hb _ p rfl hp, sumF_filter (grB k n) _ (permsL n) fun x _ hx => by unfold cW; rw [hx]; simp, sumF_perm _ S.perm, sumF_map]
  unfold sumF
  congr 1
  refine List.map_congr_left fun s hs => ?_
  rw [cW_at S hs]
/-- what comes out of the puzzles, in order, zeros left out -/
def wtP (n k : Nat) (ys a b : List Int) : List Cls := ((ishs k (n - k)).filter fun s => !decide (wsN n k ys a b s = 0)).map fun s => (s, wsN n k ys a b s)
theorem shp_P (hy : YOk n ys) (S : ShpIs n k) {c : List Int → Int} (hc : ∀ w, P5 n w → grB k n w = false → c w = 0) {P : List Cls} (h : ShpL k n (sumC n c) P) : P = ((ishs k (n - k)).filter fun sh => !decide (c (gpW sh k n) = 0)).map fun sh => (sh, c (gpW sh k n)) := by
  obtain ⟨q, hq⟩ : ∃ q : List Int → Bool, q = fun sh => !decide (c (gpW sh k n) = 0) := ⟨_, rfl⟩
  have hp := sum_shapes hy S hc
  rw [← hq] at hp ⊢
  have hnd : (ishs k (n - k)).Nodup := S.asc.imp fun {a b} h e => by rw [e, ltB_irrefl] at h; cases h
  have hkey : (((ishs k (n - k)).filter q).map fun sh => ((trimL (gpW sh k n), c (gpW sh k n)) : Cls)).map (fun x => ((shapeL k n x.1, x.2) : Cls)) = ((ishs k (n - k)).filter q).map fun sh => (sh, c (gpW sh k n)) := by
    rw [List.map_map]
    refine List.map_congr_left fun sh hs => ?_
    have := (List.mem_filter.1 hs).1
    show (shapeL k n (trimL (gpW sh k n)), c (gpW sh k n)) = _
    rw [shape_back S this]
  have hperm2 : ((sumC n c).map fun x => ((shapeL k n x.1, x.2) : Cls)).Perm (((ishs k (n - k)).filter q).map fun sh => (sh, c (gpW sh k n))) := by
    rw [← hkey]
    exact hp.map _
  have hk1 : (((ishs k (n - k)).filter q).map fun sh => ((sh, c (gpW sh k n)) : Cls)).map (·.1) = (ishs k (n - k)).filter q := by
    rw [List.map_map]
    exact List.map_id _
  have hnq : ((ishs k (n - k)).filter q).Nodup := hnd.sublist List.filter_sublist
  rw [← h.spc]
  refine (srtC_eq ?_ hperm2.symm ?_).symm
  · refine (List.Perm.nodup_iff (hperm2.map (·.1))).2 ?_
    rw [hk1]; exact hnq
  · refine List.Pairwise.map _ (fun {a b} h => ?_) (S.asc.sublist (List.filter_sublist (p := q)))
    exact ltB_asym h
/-- EquivariantShapes is what the weights of the puzzles add up to -/
theorem es_wt (hy : YOk n ys) (hk : k ≤ n) (ha : bxOk a k n = true) (hb : bxOk b k n = true) (hok : esOk a b (k : Int) (n : Int) ys = true) : esR a b (k : Int) (n : Int) ys = (wtP n k ys a b, true) := by
  have S := shpIs hy.one hy.four hk
  have ma := bx_mem ha hk
  have mb := bx_mem hb hk
  have pa := S.p5 a ma
  have pb := S.p5 b mb
  obtain ⟨k', n', L, P, ek, en, E⟩ := esIs hok
  have ek : k' = k := by omega
  have en : n' = n := by omega
  subst ek
  subst en
  obtain ⟨c, hc, _, hE⟩ := expE_prod hy pa pb
  have hL : L = sumC n' c := by
    have h1 := E.eq
    have hok : eqOk (gpW a k' n') (gpW b k' n') ys = true := by
      unfold eqOk
      rw [pa.ok, pb.ok, pa.len, pb.len, hy.ap]; simp
    rw [eqL_yes hok, pa.len, hE] at h1
    injection h1 with h1 _
    exact h1.symm
  have hS := E.shp
  rw [hL] at hS
  have hP := shp_P hy S (fun w hw hg => c_gr hy S ma mb hc hw hg) hS
  have hcw : ∀ s, s ∈ ishs k' (n' - k') → c (gpW s k' n') = wsN n' k' ys a b s := fun s hs => by
    rw [hc.uniq hy.len hy.one hy.four hy.dst (cW_ex hy hk ma mb) (S.p5 s hs), cW_at S hs]
  rw [E.res, hP]
  unfold wtP
  congr 1
  rw [List.filter_congr (q := fun s => !decide (wsN n' k' ys a b s = 0)) fun s hs => by rw [hcw s hs]]
  refine List.map_congr_left fun s hs => ?_
  rw [hcw s (List.mem_filter.1 hs).1]
end

end Go.Proofs.YtnpghgpejnlebaaGreat

namespace Go.Proofs.YtnpghgpejnlebaaGreat
set_option linter.all false
set_option maxRecDepth 100000
open Go.RowKit

def AscP (cs : List Cls) : Prop := cs.Pairwise fun a b => ltB a.1 b.1 = true
/-- how many stand ahead of a shape -/
def posP (s : List Int) : List Cls → Nat
  | [] => 0
  | x :: l => if ltB x.1 s = true then posP s l + 1 else 0
theorem posP_le (s : List Int) : ∀ cs, posP s cs ≤ cs.length
  | [] => Nat.le_refl _
  | x :: l => by
    unfold posP
    have := posP_le s l
    split
    · rw [List.length_cons]; omega
    · exact Nat.zero_le _
theorem posP_at (s : List Int) : ∀ cs, AscP cs → ∀ a, a < cs.length → ltB (cs.getD a clD).1 s = decide (a < posP s cs)
  | [], _ => fun a h => by cases h
  | x :: l, h => fun a ha => by
    obtain ⟨h1, h2⟩ := List.pairwise_cons.1 h
    unfold posP
    cases e : ltB x.1 s with
    | true =>
      rw [if_pos rfl]
      cases a with
      | zero => rw [List.getD_cons_zero, e]; simp
      | succ a =>
        rw [List.getD_cons_succ, posP_at s l h2 a (by simpa using ha)]
        simp
    | false =>
      rw [if_neg (by decide)]
      have : decide (a < 0) = false := by simp
      rw [this]
      cases a with
      | zero => rw [List.getD_cons_zero]; exact e
      | succ a =>
        rw [List.getD_cons_succ]
        have hl : a < l.length := by simpa using ha
        have hm : l.getD a clD ∈ l := by rw [List.getD_eq_getElem?_getD, List.getElem?_eq_getElem hl]; exact List.getElem_mem hl
        cases e2 : ltB (l.getD a clD).1 s with
        | false => rfl
        | true =>
          have := ltB_trans _ _ _ (h1 _ hm) e2
          rw [this] at e; cases e
theorem cmpB_zero : ∀ xs ys : List Int, cmpB xs ys = 0 ↔ xs = ys
  | [], [] => by simp [cmpB]
  | [], y :: ys => by simp [cmpB]
  | x :: xs, [] => by simp [cmpB]
  | x :: xs, y :: ys => by
    have ih := cmpB_zero xs ys
    unfold cmpB
    by_cases h1 : x < y
    · rw [if_pos h1]; simp; omega
    · rw [if_neg h1]
      by_cases h2 : y < x
      · rw [if_pos h2]; simp; omega
      · rw [if_neg h2, ih]
        have : x = y := by omega
        simp [this]
/-- the list behind the sum, as the program makes it -/
def sumdP (s : List Int) (c : Int) (cs : List Cls) : List Cls :=
  if posP s cs < cs.length ∧ (cs.getD (posP s cs) clD).1 = s then cs.set (posP s cs) (s, (cs.getD (posP s cs) clD).2 + c) else cs.take (posP s cs) ++ [(s, c)] ++ cs.drop (posP s cs)
/-- .. and step by step -/
def sumdL (s : List Int) (c : Int) : List Cls → List Cls
  | [] => [(s, c)]
  | x :: l => if ltB x.1 s = true then x :: sumdL s c l else if x.1 = s then (s, x.2 + c) :: l else (s, c) :: x :: l
theorem sumd_same (s : List Int) (c : Int) : ∀ cs, sumdP s c cs = sumdL s c cs
  | [] => rfl
  | x :: l => by
    have ih := sumd_same s c l
    unfold sumdL
    cases e : ltB x.1 s with
    | true =>
      have hp : posP s (x :: l) = posP s l + 1 := by rw [posP, if_pos e]
      rw [if_pos rfl, ← ih]
      unfold sumdP
      rw [hp]
      simp only [List.length_cons, Nat.add_lt_add_iff_right, List.getD_cons_succ, List.set_cons_succ, List.take_succ_cons, List.drop_succ_cons, List.cons_append]
      split <;> rfl
    | false =>
      have hp : posP s (x :: l) = 0 := by rw [posP, if_neg (by rw [e]; decide)]
      rw [if_neg (by decide)]
      unfold sumdP
      rw [hp]
      by_cases h : x.1 = s
      · rw [if_pos ⟨by simp, by simpa using h⟩, if_pos h]; rfl
      · rw [if_neg (fun c => h (by simpa using c.2)), if_neg h]; rfl
/-- keys put in order -/
def insK (s : List Int) : List (List Int) → List (List Int)
  | [] => [s]
  | x :: l => if ltB x s = true then x :: insK s l else if x = s then x :: l else s :: x :: l
theorem insK_mem (s : List Int) : ∀ l x, x ∈ insK s l ↔ x = s ∨ x ∈ l
  | [], x => by simp [insK]
  | y :: l, x => by
    have ih := insK_mem s l x
    unfold insK
    split
    · rw [List.mem_cons, ih, List.mem_cons]
      constructor
      · rintro (h | h | h)
        · exact .inr (.inl h)
        · exact .inl h
        · exact .inr (.inr h)
      · rintro (h | h | h)
        · exact .inr (.inl h)
        · exact .inl h
        · exact .inr (.inr h)
    · split
      · rename_i h
        rw [List.mem_cons, h]
        constructor
        · exact fun h => .inr h
        · rintro (h | h)
          · exact .inl h
          · exact h
      · rw [List.mem_cons]
theorem lt_or (a b : List Int) (h1 : ltB a b = false) (h2 : a ≠ b) : ltB b a = true := by
  have h3 := cmpB_neg a b
  have h4 := cmpB_lt b a
  rcases cmpB_cases a b with h | h | h
  · rw [h, h1] at h3; simp at h3
  · exact absurd ((cmpB_zero a b).1 h) h2
  · cases e : ltB b a with
    | true => rfl
    | false =>
      exfalso
      have h5 : ∀ xs ys : List Int, cmpB xs ys = 1 → ltB ys xs = true := fun xs => by
        induction xs with
        | nil => intro ys; cases ys <;> simp [cmpB]
        | cons x xs ih =>
          intro ys
          cases ys with
          | nil => intro _; rfl
          | cons y ys =>
            intro h
            unfold cmpB at h
            unfold ltB
            by_cases c1 : x < y
            · rw [if_pos c1] at h; cases h
            · rw [if_neg c1] at h
              by_cases c2 : y < x
              · simp [c2]
              · rw [if_neg c2] at h
                have : x = y := by omega
                simp [this, ih ys h]
      rw [h5 a b h] at e
      cases e
theorem insK_asc (s : List Int) : ∀ l : List (List Int), l.Pairwise (fun a b => ltB a b = true) → (insK s l).Pairwise fun a b => ltB a b = true
  | [], _ => List.pairwise_singleton _ _
  | x :: l, h => by
    obtain ⟨h1, h2⟩ := List.pairwise_cons.1 h
    unfold insK
    cases e : ltB x s with
    | true =>
      rw [if_pos rfl]
      refine List.pairwise_cons.2 ⟨fun y hy => ?_, insK_asc s l h2⟩
      rcases (insK_mem s l y).1 hy with rfl | hy
      · exact e
      · exact h1 y hy
    | false =>
      rw [if_neg (by decide)]
      by_cases e2 : x = s
      · rw [if_pos e2]; exact h
      · rw [if_neg e2]
        have e3 := lt_or x s e e2
        refine List.pairwise_cons.2 ⟨fun y hy => ?_, h⟩
        rcases List.mem_cons.1 hy with rfl | hy
        · exact e3
        · exact ltB_trans _ _ _ e3 (h1 y hy)
/-- the sum, key by key -/
theorem sumd_keys (s : List Int) (c : Int) (f : List Int → Int) : ∀ ks : List (List Int), ks.Pairwise (fun a b => ltB a b = true) → (s ∉ ks → f s = 0) →
    sumdL s c (ks.map fun t => (t, f t)) = (insK s ks).map fun t => (t, if t = s then f t + c else f t)
  | [], _, h0 => by simp [sumdL, insK, h0]
  | x :: l, h, h0 => by
    obtain ⟨h1, h2⟩ := List.pairwise_cons.1 h
    rw [List.map_cons]
    unfold sumdL insK
    dsimp only
    cases e : ltB x s with
    | true =>
      have hne : x ≠ s := fun e2 => by rw [e2, ltB_irrefl] at e; cases e
      rw [if_pos rfl, if_pos rfl, List.map_cons, if_neg hne, sumd_keys s c f l h2 fun hn => h0 fun hm => by
        rcases List.mem_cons.1 hm with h | h
        · exact hne h.symm
        · exact hn h]
    | false =>
      simp only [Bool.false_eq_true, if_false]
      by_cases e2 : x = s
      · rw [if_pos e2, if_pos e2, List.map_cons, if_pos e2, e2]
        congr 1
        refine List.map_congr_left fun t ht => ?_
        rw [if_neg fun e3 => ?_]
        have := h1 t ht
        rw [e3, e2, ltB_irrefl] at this
        cases this
      · have e3 := lt_or x s e e2
        have hns : s ∉ x :: l := fun hm => by
          rcases List.mem_cons.1 hm with h | h
          · exact e2 h.symm
          · have := ltB_trans _ _ _ e3 (h1 s h)
            rw [ltB_irrefl] at this
            cases this
        rw [if_neg e2, if_neg e2, List.map_cons, List.map_cons, if_pos rfl, if_neg e2, h0 hns, Int.zero_add]
        congr 2
        refine List.map_congr_left fun t ht => ?_
        rw [if_neg fun e4 => hns (by rw [← e4]; exact List.mem_cons_of_mem _ ht)]

end Go.Proofs.YtnpghgpejnlebaaGreat
