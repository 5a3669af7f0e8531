/-
  IsGkm of the reference.
-/
import Derived.Test.YtajilmfaconjbaaGkS2
namespace Go.Proofs.Ytajilmfaconjbaa
set_option linter.all false
open Go.RowKit

theorem plA_le {xs : List Int} (h : xs.length ≤ 4) : ∀ i, plA xs i + 1 ≤ 5 ^ i
  | 0 => by simp [plA]
  | i + 1 => by
    have a := plA_le h i
    have b : cdA xs i ≤ 3 := by unfold cdA; have := cdK_le xs i (xs.length - (i + 1)); omega
    have c : plA xs i * (xs.length - i) ≤ plA xs i * 4 := Nat.mul_le_mul_left _ (by omega)
    rw [plA, Nat.pow_succ]
    omega
theorem plA_small {xs : List Int} (h : xs.length ≤ 4) : ∀ i, i ≤ xs.length → plA xs i ≤ 1000000 := fun i hi => by
  have a := plA_le h i
  have b : 5 ^ i ≤ 5 ^ 4 := Nat.pow_le_pow_right (by omega) (by omega)
  omega

set_option maxRecDepth 100000 in
set_option maxHeartbeats 8000000 in
theorem specIsGkm_ex (N : Int) (v u : Value) (vs y : List Int) (w : World) (hv : Ints w v vs) (hy : Ints w u y) :
    Calls Try.prog 5 #[.int .i64 N, v, u] w fun e w' => ∃ b, e = .returned (.bool b) ∧ GkIs N vs y b ∧ Below w.heap.size w w' := by
  have HV := Lib.hid hv
  have HY := Lib.hid hy
  obtain ⟨pv, cv, rfl, ⟨hv1, hv2⟩, hvc⟩ := hv
  obtain ⟨py, cy, rfl, ⟨hy1, hy2⟩, hyc⟩ := hy
  unfold maxLen at hv2 hy2
  go_enter Try.func5, Try.ntmps5
  go_wp2_with fail
  refine (l8Apart_any _ _ y _ HY.out).mono ?_
  rintro e w1 ⟨rfl, hq1⟩
  cases ha : apOk N y with
  | false =>
    go_wp2_with fail
    go_ret
    exact ⟨false, rfl, GkIs.no1 ha, hq1.below _⟩
  | true =>
  obtain ⟨n, rfl, hn1, hn4, hyl, hyr, hyd⟩ := ap_facts ha
  have Ha := Lib.hid ha
  have Hyl := Lib.hid hyl
  have Hyr := Lib.hid hyr
  have Hyd := Lib.hid hyd
  clear ha hyl hyr hyd
  go_wp2_with fail
  refine (l8Values_any n _ vs _ (HV.out.qt hq1) hn4).mono ?_
  rintro e w2 ⟨rfl, hq2⟩
  have HQ2 := Lib.hid (hq1.trans hq2)
  clear hq1 hq2
  by_cases hl : vs.length = fact n
  case neg =>
    rw [decide_eq_false hl, Bool.false_and]
    go_wp2_with fail
    go_ret
    exact ⟨false, rfl, GkIs.no2 (by simpa using hl), HQ2.out.below _⟩
  cases hm : mostB vs with
  | false =>
    rw [Bool.and_false]
    go_wp2_with fail
    go_ret
    exact ⟨false, rfl, GkIs.no3 hm, HQ2.out.below _⟩
  | true =>
  rw [decide_eq_true hl]
  have Hl := Lib.hid hl
  have Hm := Lib.hid hm
  clear hl hm
  go_wp2_with fail
  refine (specPerms_any n hn1 (by omega) _).mono ?_
  rintro e w3 ⟨ul, rfl, hol, hb3⟩
  obtain ⟨L, hL⟩ : ∃ L, L = permsL n := ⟨_, rfl⟩
  have hLl : L.length = fact n := by rw [hL]; simp [permsL]
  obtain ⟨F, hF⟩ : ∃ F, F = fact n := ⟨_, rfl⟩
  have hF24 : F ≤ 24 := by rw [hF]; exact Nat.le_trans (fact_le hn4) (by decide)
  have hG := gkN hn1 hn4
  rw [← hL] at hol
  obtain ⟨f, hf1, hf2⟩ := hol.rd
  rw [hLl, ← hF] at hf1 hf2
  obtain ⟨pl, cl, rfl, hcl, hcl2⟩ := hol.shape
  rw [hLl, ← hF] at hf1 hcl ⊢
  unfold maxLen at hcl2
  have HL := Lib.hid hL
  have HF := Lib.hid hF
  have Hf1 := Lib.hid hf1
  have Hf2 := Lib.hid hf2
  have HG := Lib.hid hG
  have HB3 := Lib.hid ((HQ2.out.below _).trans (hb3.mono (by rw [HQ2.out.size]; exact Nat.le_refl _)))
  have hvF : vs.length = F := by rw [Hl.out, hF]
  rw [hvF] at HV hvc hv1 ⊢
  have HvF := Lib.hid hvF
  rw [Hyl.out] at HY hyc hy1 ⊢
  clear hol hL hLl hF hG hf1 hf2 hb3 HQ2 hvF
  go_wp2_with fail
  go_loopg [8, 9, 10, 11] F (fun g s8 s9 s10 s11 wr => ∃ x : Nat, x ≤ F ∧ g = F - x ∧ s8 = .int .i64 x ∧ Hid (∀ x' i j, x' < x → i < j → j < n → gkAt n vs y x' i j) ∧ Hid (Below w3.heap.size w3 wr))
  case atStart => exact ⟨0, Nat.zero_le _, rfl, rfl, Lib.hid fun x' _ _ h => absurd h (Nat.not_lt_zero _), Lib.hid (Below.refl _ _)⟩
  case round =>
    obtain ⟨x, hx, rfl, rfl, hp, hb⟩ := hrel
    obtain ⟨w4, rfl⟩ : ∃ x : World, x = wr := ⟨_, rfl⟩
    have Hp := Lib.hid hp.out
    have Hb := Lib.hid hb.out
    clear hp hb
    by_cases hxF : x < F
    · have hxi : (x : Int) < (F : Int) := by omega
      go_wp2_with fail
      go_loopg [9, 10, 11] n (fun g s9 s10 s11 wr => ∃ i : Nat, i ≤ n ∧ g = n - i ∧ s9 = .int .i64 i ∧ Hid (∀ i' j, i' < i → i' < j → j < n → gkAt n vs y x i' j) ∧ Hid (Below w3.heap.size w3 wr))
      case atStart => exact ⟨0, Nat.zero_le _, rfl, rfl, Lib.hid fun i' _ h => absurd h (Nat.not_lt_zero _), Hb⟩
      case round =>
        obtain ⟨i, hi, rfl, rfl, hp1, hb1⟩ := hrel
        obtain ⟨w5, rfl⟩ : ∃ x : World, x = wr := ⟨_, rfl⟩
        have Hp1 := Lib.hid hp1.out
        have Hb1 := Lib.hid hb1.out
        clear hp1 hb1
        by_cases hin : i < n
        · have hini : (i : Int) < (n : Int) := by omega
          go_wp2_with fail
          go_loopg [10, 11] (n - (i + 1)) (fun g s10 s11 wr => ∃ j : Nat, i < j ∧ j ≤ n ∧ g = n - j ∧ s10 = .int .i64 j ∧ Hid (∀ j', i < j' → j' < j → gkAt n vs y x i j') ∧ Hid (Below w3.heap.size w3 wr))
          case atStart => exact ⟨i + 1, by omega, by omega, by omega, by go_num, Lib.hid fun j' h1 h2 => absurd h1 (by omega), Hb1⟩
          case round =>
            obtain ⟨j, hij, hjn, rfl, rfl, hp2, hb2⟩ := hrel
            obtain ⟨w6, rfl⟩ : ∃ x : World, x = wr := ⟨_, rfl⟩
            have Hp2 := Lib.hid hp2.out
            have Hb2 := Lib.hid hb2.out
            clear hp2 hb2
            by_cases hj : j < n
            · have hji : (j : Int) < (n : Int) := by omega
              obtain ⟨row, hrow⟩ : ∃ row, row = (permsL n).getD x [] := ⟨_, rfl⟩
              have hrl : row.length = n := by rw [hrow]; exact HG.out.len x (by rw [← HF.out]; exact hxF)
              obtain ⟨mi, hmi, hmin⟩ := HG.out.rng x i (by rw [← HF.out]; exact hxF) hin
              obtain ⟨mj, hmj, hmjn⟩ := HG.out.rng x j (by rw [← HF.out]; exact hxF) hj
              have hmne : mi ≠ mj := fun e => HG.out.inj x i j (by rw [← HF.out]; exact hxF) hij hj (by rw [hmi, hmj, e])
              rw [← hrow] at hmi hmj
              obtain ⟨o, ho⟩ : ∃ o, o = plN (swapL row i j) := ⟨_, rfl⟩
              have hoF : o < F := by rw [ho, hrow, HF.out]; exact (HG.out.plc x i j (by rw [← HF.out]; exact hxF) hij hj).1
              have hr := Hf2.out x hxF
              rw [HL.out, ← hrow] at hr
              have hr' := hr
              obtain ⟨pr, kr, er, ⟨hkr, hkr2⟩, hrc0⟩ := hr'
              unfold maxLen at hkr2
              rw [er, hrl] at hr
              rw [hrl] at hkr hrc0 er
              obtain ⟨br, orr, hpr, hrc⟩ := hrc0 (by omega)
              subst hpr
              have hf1 := Hf1.out
              obtain ⟨_, _, e0, _, hlc0⟩ := hf1
              injection e0 with e1 e2 e3
              subst e1 e3
              obtain ⟨bl, ol, hpl, hlc⟩ := hlc0 (by omega)
              subst hpl
              obtain ⟨bv, ov, hpv, hvc'⟩ := hvc (by omega)
              subst hpv
              obtain ⟨by', oy, hpy, hyc'⟩ := hyc (by omega)
              subst hpy
              have d0 := hlc x hxF
              rw [er] at d0
              obtain ⟨v1, hv1'⟩ : ∃ v1, v1 = vs.getD x 0 := ⟨_, rfl⟩
              obtain ⟨v2, hv2'⟩ : ∃ v2, v2 = vs.getD o 0 := ⟨_, rfl⟩
              obtain ⟨y1, hy1'⟩ : ∃ y1, y1 = y.getD mi 0 := ⟨_, rfl⟩
              obtain ⟨y2, hy2'⟩ : ∃ y2, y2 = y.getD mj 0 := ⟨_, rfl⟩
              have hv1b := most_at Hm.out (k := x) (by rw [HvF.out]; exact hxF)
              have hv2b := most_at Hm.out (k := o) (by rw [HvF.out]; exact hoF)
              have hy1b := Hyr.out mi hmin
              have hy2b := Hyr.out mj hmjn
              have hyne := Hyd.out mi mj hmin hmjn hmne
              rw [← hv1'] at hv1b
              rw [← hv2'] at hv2b
              rw [← hy1'] at hy1b hyne
              rw [← hy2'] at hy2b hyne
              have hby3 : ∀ {a : Addr} {z : Value}, w.cell? a = some z → w6.cell? a = some z := fun h => cell_below Hb2.out (cell_below HB3.out h)
              have d1 : w6.cell? ⟨bl, ol + x, none⟩ = some (.slice (some ⟨br, orr, none⟩) n kr) := cell_below Hb2.out d0
              have d2 : w6.cell? ⟨br, orr + i, none⟩ = some (.int .i64 (mi : Int)) := by
                have := cell_below Hb2.out (hrc i hin)
                unfold iv at this
                rwa [hmi] at this
              have d3 : w6.cell? ⟨br, orr + j, none⟩ = some (.int .i64 (mj : Int)) := by
                have := cell_below Hb2.out (hrc j hj)
                unfold iv at this
                rwa [hmj] at this
              have d4 : w6.cell? ⟨bv, ov + x, none⟩ = some (.int .i64 v1) := by rw [hv1']; exact hby3 (hvc' x hxF)
              have d5 : w6.cell? ⟨bv, ov + o, none⟩ = some (.int .i64 v2) := by rw [hv2']; exact hby3 (hvc' o hoF)
              have d6 : w6.cell? ⟨by', oy + mi, none⟩ = some (.int .i64 y1) := by rw [hy1']; exact hby3 (hyc' mi hmin)
              have d7 : w6.cell? ⟨by', oy + mj, none⟩ = some (.int .i64 y2) := by rw [hy2']; exact hby3 (hyc' mj hmjn)
              have Hgk := Lib.hid (show gkAt n vs y x i j ↔ (v1 - v2).tmod (y1 - y2) = 0 by
                unfold gkAt
                rw [← hrow, ← ho, hmi, hmj, Int.toNat_natCast, Int.toNat_natCast, ← hv1', ← hv2', ← hy1', ← hy2'])
              have Hr := Lib.hid (hr.below Hb2.out)
              have Hrl := Lib.hid hrl
              have Ho := Lib.hid ho
              have hoi : (o : Int) < (F : Int) := by omega
              have hmii : (mi : Int) < (n : Int) := by omega
              have hmji : (mj : Int) < (n : Int) := by omega
              have hyz : ¬ y1 - y2 = 0 := by omega
              clear hrow hrl hmi hmj ho hr er hrc hlc hvc' hyc' d0 e2 hrc0 hlc0 hv1' hv2' hy1' hy2' hby3
              go_wp2_with fail
              refine (l1Swap_any _ row i j _ Hr.out (by rw [Hrl.out]; exact hin) (by rw [Hrl.out]; exact hj) (by rw [Hrl.out]; omega)).mono ?_
              rintro e w7 ⟨us, rfl, hos, hb7⟩
              have Hos := Lib.hid hos.ints
              obtain ⟨ps, ks, rfl, _, _⟩ := hos.shape
              have d1' := cell_below hb7 d1
              have d2' := cell_below hb7 d2
              have d3' := cell_below hb7 d3
              have d4' := cell_below hb7 d4
              have d5' := cell_below hb7 d5
              have d6' := cell_below hb7 d6
              have d7' := cell_below hb7 d7
              have Hb7 := Lib.hid (Hb2.out.trans (hb7.mono Hb2.out.size))
              clear hos hb7 d1 d2 d3 d4 d5 d6 d7
              go_wp2_with fail
              refine (l1Place_any _ (swapL row i j) _ Hos.out (by rw [swapL_length, Hrl.out]; exact hn4) (plA_small (by rw [swapL_length, Hrl.out]; exact hn4))).mono ?_
              rintro e w8 ⟨rfl, hb8⟩
              rw [← Ho.out]
              have d1 := cell_below hb8 d1'
              have d2 := cell_below hb8 d2'
              have d3 := cell_below hb8 d3'
              have d4 := cell_below hb8 d4'
              have d5 := cell_below hb8 d5'
              have d6 := cell_below hb8 d6'
              have d7 := cell_below hb8 d7'
              have Hb8 := Lib.hid (Hb7.out.trans (hb8.mono Hb7.out.size))
              clear hb8 d1' d2' d3' d4' d5' d6' d7'
              by_cases hz : (v1 - v2).tmod (y1 - y2) = 0
              · go_wp2_with fail
                go_quiet (fail)
                have Hb9 := Lib.hid (Below.drewN Hb8.out nq)
                go_wp2_with fail
                go_roundg (n - (j + 1))
                case measure => omega
                case rel =>
                  refine ⟨j + 1, by omega, by omega, rfl, by go_num, Lib.hid fun j' h1 h2 => ?_, Hb9⟩
                  by_cases e : j' = j
                  · subst e; exact Hgk.out.2 hz
                  · exact Hp2.out j' h1 (by omega)
              · go_wp2_with fail
                go_quiet (fail)
                have Hb9 := Lib.hid (Below.drewN Hb8.out nq)
                go_wp2_with fail
                go_ret
                exact ⟨false, rfl, GkIs.no4 (x := x) (i := i) (j := j) (by rw [Int.toNat_natCast, ← HF.out]; exact hxF) hij (by rw [Int.toNat_natCast]; exact hj) (by rw [Int.toNat_natCast, Hgk.out]; exact hz), HB3.out.trans (Hb9.out.mono HB3.out.size)⟩
            · have hji : ¬ (j : Int) < (n : Int) := by omega
              go_wp2_with fail
              go_roundg (n - (i + 1))
              case measure => omega
              case rel =>
                refine ⟨i + 1, by omega, rfl, by go_num, Lib.hid fun i' j' h1 h2 h3 => ?_, Hb2⟩
                by_cases e : i' = i
                · subst e; exact Hp2.out j' h2 (by omega)
                · exact Hp1.out i' j' (by omega) h2 h3
        · have hini : ¬ (i : Int) < (n : Int) := by omega
          go_wp2_with fail
          go_roundg (F - (x + 1))
          case measure => omega
          case rel =>
            refine ⟨x + 1, by omega, rfl, by go_num, Lib.hid fun x' i' j' h1 h2 h3 => ?_, Hb1⟩
            by_cases e : x' = x
            · subst e; exact Hp1.out i' j' (by omega) h2 h3
            · exact Hp.out x' i' j' (by omega) h2 h3
    · have hxi : ¬ (x : Int) < (F : Int) := by omega
      go_wp2_with fail
      go_ret
      refine .inr ⟨rfl, ⟨fun _ => ⟨Ha.out, by rw [Int.toNat_natCast]; exact Hl.out, Hm.out, fun x' i' j' h1 h2 h3 => ?_⟩, fun _ => rfl⟩, HB3.out.trans (Hb.out.mono HB3.out.size)⟩
      rw [Int.toNat_natCast] at h1 h3 ⊢
      exact Hp.out x' i' j' (by rw [← HF.out] at h1; omega) h2 h3
theorem specIsGkm_any (N : Int) (v u : Value) (vs y : List Int) (w : World) (hv : Ints w v vs) (hy : Ints w u y) :
    Calls Try.prog 5 #[.int .i64 N, v, u] w fun e w' => e = .returned (.bool (Classical.epsilon (GkIs N vs y))) ∧ Below w.heap.size w w' :=
  (specIsGkm_ex N v u vs y w hv hy).mono fun e w' ⟨b, h1, h2, h3⟩ => ⟨by rw [h1, h2.eps], h3⟩

end Go.Proofs.Ytajilmfaconjbaa
