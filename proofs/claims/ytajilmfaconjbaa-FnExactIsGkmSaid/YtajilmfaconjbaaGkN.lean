/-
  IsGkm of the program.
-/
import Derived.Test.YtajilmfaconjbaaGkI
import Derived.Test.YtajilmfaconjbaaGkB
import Derived.Test.YtajilmfaconjbaaPermsI
namespace Go.Proofs.Ytajilmfaconjbaa
set_option linter.all false
open Go.RowKit

set_option maxRecDepth 100000 in
set_option maxHeartbeats 8000000 in
theorem implIsGkm_ex (N : Int) (v u : Value) (vs y : List Int) (w : World) (hv : Ints w v vs) (hy : Ints w u y) :
    Calls Try.prog 7 #[.int .i64 N, v, u] w fun e w' => ∃ b, e = .returned (.bool b) ∧ GkIs N vs y b ∧ Below w.heap.size w w' := by
  have HV := Lib.hid hv
  have HY := Lib.hid hy
  obtain ⟨pv, cv, rfl, ⟨hv1, hv2⟩, hvc⟩ := hv
  obtain ⟨py, cy, rfl, ⟨hy1, hy2⟩, hyc⟩ := hy
  unfold maxLen at hv2 hy2
  go_enter Try.func7, Try.ntmps7
  go_wp2_with fail
  refine (weightsOk_any _ _ y _ HY.out).mono ?_
  rintro e w1 ⟨rfl, hq1⟩
  cases ha : apOk N y with
  | false =>
    go_wp2_with fail
    go_ret
    exact ⟨false, rfl, GkIs.no1 ha, hq1.below _⟩
  | true =>
  obtain ⟨n, rfl, hn1, hn4, hyl, hyr, hyd⟩ := ap_facts ha
  have Ha := Lib.hid ha
  have Hyl := Lib.hid hyl
  have Hyr := Lib.hid hyr
  have Hyd := Lib.hid hyd
  have HQ2 := Lib.hid hq1
  clear ha hyl hyr hyd hq1
  go_wp2_with fail
  refine (implAllPerms_any (n : Int) _).mono ?_
  rintro e w3 ⟨ul, rfl, hol, hb3⟩
  rw [show allPermsL (n : Int) = permsL n by simp only [allPermsL, Int.toNat_natCast]; rw [if_pos (by omega)]] at hol
  obtain ⟨L, hL⟩ : ∃ L, L = permsL n := ⟨_, rfl⟩
  have hLl : L.length = fact n := by rw [hL]; simp [permsL]
  obtain ⟨F, hF⟩ : ∃ F, F = fact n := ⟨_, rfl⟩
  have hF24 : F ≤ 24 := by rw [hF]; exact Nat.le_trans (fact_le hn4) (by decide)
  have hG := gkN hn1 hn4
  rw [← hL] at hol
  have HRD := Lib.hid hol.rd
  obtain ⟨f, hf1, hf2⟩ := hol.rd
  rw [hLl, ← hF] at hf1 hf2
  obtain ⟨pl, cl, rfl, hcl, hcl2⟩ := hol.shape
  rw [hLl, ← hF] at hcl HRD ⊢
  unfold maxLen at hcl2
  have HL := Lib.hid hL
  have HF := Lib.hid hF
  have HLl := Lib.hid hLl
  have Hf1 := Lib.hid hf1
  have Hf2 := Lib.hid hf2
  have HG := Lib.hid hG
  have HB3 := Lib.hid ((HQ2.out.below _).trans (hb3.mono (by rw [HQ2.out.size]; exact Nat.le_refl _)))
  clear hol hL hLl hF hG hf1 hf2 hb3 HQ2
  by_cases hvF : vs.length = F
  case neg =>
    have hvi : ((vs.length : Int) != (F : Int)) = true := by simp; omega
    go_wp2_with fail
    go_ret
    first | exact ⟨false, rfl, GkIs.no2 (by rw [Int.toNat_natCast, ← HF.out]; exact hvF), HB3.out⟩ | exact .inl ⟨rfl, GkIs.no2 (by rw [Int.toNat_natCast, ← HF.out]; exact hvF), HB3.out⟩
  rw [hvF] at HV hvc hv1 ⊢
  have HvF := Lib.hid hvF
  have hvi : ((F : Int) != (F : Int)) = false := by simp
  rw [Hyl.out] at HY hyc hy1 ⊢
  clear hvF
  go_wp2_with fail
  go_loopg [9, 29] F (fun g s9 s29 wr => ∃ k : Nat, k ≤ F ∧ g = F - k ∧ s29 = .int .i64 (k : Int) ∧ w3 = wr ∧ Hid (∀ j, j < k → -1000000000000 ≤ vs.getD j 0 ∧ vs.getD j 0 ≤ 1000000000000))
  case atStart => exact ⟨0, Nat.zero_le _, rfl, rfl, rfl, Lib.hid fun j hj => absurd hj (Nat.not_lt_zero _)⟩
  case round =>
    obtain ⟨k, hk, rfl, rfl, rfl, hp⟩ := hrel
    by_cases hlt : k < F
    · obtain ⟨bv, ov, hpv, hvc'⟩ := hvc (by omega)
      subst hpv
      obtain ⟨x, hx'⟩ : ∃ x, x = vs.getD k 0 := ⟨_, rfl⟩
      have c1 := cell_below HB3.out (hvc' k hlt)
      unfold iv at c1
      rw [← hx'] at c1
      have Hx := Lib.hid hx'
      have hki : (k : Int) < (F : Int) := by omega
      have bad : ¬ (-1000000000000 ≤ x ∧ x ≤ 1000000000000) → mostB vs = false := fun hr => by
        unfold mostB
        exact decide_eq_false fun e => hr (by rw [Hx.out]; exact e _ (getD_mem (by rw [HvF.out]; exact hlt)))
      have Bad := Lib.hid bad
      clear hx' hvc' bad
      by_cases h1 : x < -1000000000000
      · go_wp2_with fail
        go_ret
        first | exact ⟨false, rfl, GkIs.no3 (Bad.out (by omega)), HB3.out⟩ | exact .inl ⟨rfl, GkIs.no3 (Bad.out (by omega)), HB3.out⟩
      by_cases h2 : 1000000000000 < x
      · go_wp2_with fail
        go_ret
        first | exact ⟨false, rfl, GkIs.no3 (Bad.out (by omega)), HB3.out⟩ | exact .inl ⟨rfl, GkIs.no3 (Bad.out (by omega)), HB3.out⟩
      go_wp2_with fail
      go_roundg (F - (k + 1))
      case measure => omega
      case rel =>
        refine ⟨k + 1, by omega, rfl, by go_num, rfl, Lib.hid fun j hj => ?_⟩
        by_cases e : j = k
        · subst e; rw [← Hx.out]; omega
        · exact hp.out j (by omega)
    · have hki : ¬ (k : Int) < (F : Int) := by omega
      obtain rfl : k = F := by omega
      have Hm := Lib.hid (show mostB vs = true by unfold mostB; exact decide_eq_true (all_of_getD fun j hj => hp.out j (by have := HvF.out; omega)))
      clear hp
      go_wp2_with fail
      go_loopg [10, 11, 12, 13, 14, 15, 42] k (fun g s10 s11 s12 s13 s14 s15 s42 wr => ∃ x : Nat, x ≤ k ∧ g = k - x ∧ s42 = .int .i64 (x : Int) ∧ Hid (∀ x' i j, x' < x → i < j → j < n → gkAt n vs y x' i j) ∧ Hid (Below w3.heap.size w3 wr))
      case atStart => exact ⟨0, Nat.zero_le _, rfl, rfl, Lib.hid fun x' _ _ h => absurd h (Nat.not_lt_zero _), Lib.hid (Below.refl _ _)⟩
      case round =>
        obtain ⟨x, hx, rfl, rfl, hp, hb⟩ := hrel
        obtain ⟨w4, rfl⟩ : ∃ x : World, x = wr := ⟨_, rfl⟩
        have Hp := Lib.hid hp.out
        have Hb := Lib.hid hb.out
        clear hp hb
        by_cases hxF : x < k
        · have hxi : (x : Int) < (k : Int) := by omega
          obtain ⟨row, hrow⟩ : ∃ row, row = (permsL n).getD x [] := ⟨_, rfl⟩
          have hrl : row.length = n := by rw [hrow]; exact HG.out.len x (by rw [← HF.out]; exact hxF)
          have hr := Hf2.out x hxF
          rw [HL.out, ← hrow] at hr
          have hr' := hr
          obtain ⟨pr, kr, er, ⟨hkr, hkr2⟩, hrc0⟩ := hr'
          unfold maxLen at hkr2
          rw [er, hrl] at hr
          rw [hrl] at hkr hrc0 er
          obtain ⟨br, orr, hpr, hrc⟩ := hrc0 (by omega)
          subst hpr
          have hf1 := Hf1.out
          obtain ⟨_, _, e0, _, hlc0⟩ := hf1
          injection e0 with e1 e2 e3
          subst e1 e3
          obtain ⟨bl, ol, hpl, hlc⟩ := hlc0 (by omega)
          subst hpl
          have d0 := hlc x hxF
          rw [er] at d0
          have d0' := cell_below Hb.out d0
          have Hr := Lib.hid hr
          have Hrl := Lib.hid hrl
          have Hrow := Lib.hid hrow
          have Hrc := Lib.hid hrc
          clear hrow hrl hr er hrc0 hrc hlc0 hlc d0 e2
          go_wp2_with fail
          go_loopg [12, 13, 14, 15, 48] n (fun g s12 s13 s14 s15 s48 wr => ∃ j : Nat, j ≤ n ∧ g = n - j ∧ s48 = .int .i64 (j : Int) ∧ Hid (∀ i' j', j' < j → i' < j' → gkAt n vs y x i' j') ∧ Hid (Below w3.heap.size w3 wr))
          case atStart => exact ⟨0, Nat.zero_le _, rfl, rfl, Lib.hid fun _ j' h => absurd h (Nat.not_lt_zero _), Hb⟩
          case round =>
            obtain ⟨j, hjn, rfl, rfl, hp1, hb1⟩ := hrel
            obtain ⟨w5, rfl⟩ : ∃ x : World, x = wr := ⟨_, rfl⟩
            have Hp1 := Lib.hid hp1.out
            have Hb1 := Lib.hid hb1.out
            clear hp1 hb1
            by_cases hj : j < n
            · have hji : (j : Int) < (n : Int) := by omega
              go_wp2_with fail
              go_loopg [13, 14, 15, 52] j (fun g s13 s14 s15 s52 wr => ∃ i : Nat, i ≤ j ∧ g = j - i ∧ s52 = .int .i64 (i : Int) ∧ Hid (∀ i', i' < i → gkAt n vs y x i' j) ∧ Hid (Below w3.heap.size w3 wr))
              case atStart => exact ⟨0, Nat.zero_le _, rfl, rfl, Lib.hid fun i' h => absurd h (Nat.not_lt_zero _), Hb1⟩
              case round =>
                obtain ⟨i, hij0, rfl, rfl, hp2, hb2⟩ := hrel
                obtain ⟨w6, rfl⟩ : ∃ x : World, x = wr := ⟨_, rfl⟩
                have Hp2 := Lib.hid hp2.out
                have Hb2 := Lib.hid hb2.out
                clear hp2 hb2
                by_cases hij : i < j
                · have hiji : (i : Int) < (j : Int) := by omega
                  have hin : i < n := by omega
                  obtain ⟨mi, hmi, hmin⟩ := HG.out.rng x i (by rw [← HF.out]; exact hxF) hin
                  obtain ⟨mj, hmj, hmjn⟩ := HG.out.rng x j (by rw [← HF.out]; exact hxF) hj
                  have hmne : mi ≠ mj := fun e => HG.out.inj x i j (by rw [← HF.out]; exact hxF) hij hj (by rw [hmi, hmj, e])
                  rw [← Hrow.out] at hmi hmj
                  obtain ⟨o, ho⟩ : ∃ o, o = plN (swapL row i j) := ⟨_, rfl⟩
                  have hpl := HG.out.plc x i j (by rw [← HF.out]; exact hxF) hij hj
                  rw [← Hrow.out, ← ho, ← HF.out] at hpl
                  obtain ⟨hoF, hoL⟩ := hpl
                  obtain ⟨bv, ov, hpv, hvc'⟩ := hvc (by omega)
                  subst hpv
                  obtain ⟨by', oy, hpy, hyc'⟩ := hyc (by omega)
                  subst hpy
                  obtain ⟨v1, hv1'⟩ : ∃ v1, v1 = vs.getD x 0 := ⟨_, rfl⟩
                  obtain ⟨v2, hv2'⟩ : ∃ v2, v2 = vs.getD o 0 := ⟨_, rfl⟩
                  obtain ⟨y1, hy1'⟩ : ∃ y1, y1 = y.getD mi 0 := ⟨_, rfl⟩
                  obtain ⟨y2, hy2'⟩ : ∃ y2, y2 = y.getD mj 0 := ⟨_, rfl⟩
                  have hv1b := most_at Hm.out (k := x) (by rw [HvF.out]; exact hxF)
                  have hv2b := most_at Hm.out (k := o) (by rw [HvF.out]; exact hoF)
                  have hy1b := Hyr.out mi hmin
                  have hy2b := Hyr.out mj hmjn
                  have hyne := Hyd.out mi mj hmin hmjn hmne
                  rw [← hv1'] at hv1b
                  rw [← hv2'] at hv2b
                  rw [← hy1'] at hy1b hyne
                  rw [← hy2'] at hy2b hyne
                  have hby3 : ∀ {a : Addr} {z : Value}, w.cell? a = some z → w6.cell? a = some z := fun h => cell_below Hb2.out (cell_below HB3.out h)
                  have d2 : w6.cell? ⟨br, orr + i, none⟩ = some (.int .i64 (mi : Int)) := by
                    have := cell_below Hb2.out (Hrc.out i hin)
                    unfold iv at this
                    rwa [hmi] at this
                  have d3 : w6.cell? ⟨br, orr + j, none⟩ = some (.int .i64 (mj : Int)) := by
                    have := cell_below Hb2.out (Hrc.out j hj)
                    unfold iv at this
                    rwa [hmj] at this
                  have d4 : w6.cell? ⟨bv, ov + x, none⟩ = some (.int .i64 v1) := by rw [hv1']; exact hby3 (hvc' x hxF)
                  have d5 : w6.cell? ⟨bv, ov + o, none⟩ = some (.int .i64 v2) := by rw [hv2']; exact hby3 (hvc' o hoF)
                  have d6 : w6.cell? ⟨by', oy + mi, none⟩ = some (.int .i64 y1) := by rw [hy1']; exact hby3 (hyc' mi hmin)
                  have d7 : w6.cell? ⟨by', oy + mj, none⟩ = some (.int .i64 y2) := by rw [hy2']; exact hby3 (hyc' mj hmjn)
                  have Hgk := Lib.hid (show gkAt n vs y x i j ↔ (v1 - v2).tmod (y1 - y2) = 0 by
                    unfold gkAt
                    rw [← Hrow.out, ← ho, hmi, hmj, Int.toNat_natCast, Int.toNat_natCast, ← hv1', ← hv2', ← hy1', ← hy2'])
                  have Ho := Lib.hid ho
                  have HoL := Lib.hid hoL
                  have Hr6 := Lib.hid (Hr.out.below Hb2.out)
                  have HRD6 := Lib.hid (HRD.out.below Hb2.out)
                  have hoi : (o : Int) < (k : Int) := by omega
                  have hmii : (mi : Int) < (n : Int) := by omega
                  have hmji : (mj : Int) < (n : Int) := by omega
                  have hyz : ¬ y1 - y2 = 0 := by omega
                  clear hmi hmj ho hoL hvc' hyc' hv1' hv2' hy1' hy2' hby3
                  go_wp2_with fail
                  refine (exchanged_any _ row i j _ Hr6.out (by rw [Hrl.out]; exact hin) (by rw [Hrl.out]; exact hj) (by omega) (by rw [Hrl.out]; omega)).mono ?_
                  rintro e w7 ⟨us, rfl, hos, hb7⟩
                  have Hos := Lib.hid hos.ints
                  obtain ⟨ps, ks, rfl, _, _⟩ := hos.shape
                  have d2' := cell_below hb7 d2
                  have d3' := cell_below hb7 d3
                  have d4' := cell_below hb7 d4
                  have d5' := cell_below hb7 d5
                  have d6' := cell_below hb7 d6
                  have d7' := cell_below hb7 d7
                  have HRD7 := Lib.hid (HRD6.out.below hb7)
                  have Hb7 := Lib.hid (Hb2.out.trans (hb7.mono Hb2.out.size))
                  clear hos hb7 d2 d3 d4 d5 d6 d7
                  go_wp2_with fail
                  refine (search_any _ _ L (swapL row i j) o _ HRD7.out Hos.out (by rw [HLl.out, ← HF.out]; omega) (by rw [HLl.out, ← HF.out]; exact hoF) (by rw [HL.out]; exact HoL.out) (fun a ha => ?_)).mono ?_
                  · rw [← HoL.out, HL.out, ← ltL_ltB]
                    exact HG.out.lt a o (by rwa [HLl.out] at ha) (by rw [← HF.out]; exact hoF)
                  rintro e w8 ⟨rfl, rfl⟩
                  by_cases hz : (v1 - v2).tmod (y1 - y2) = 0
                  · go_wp2_with fail
                    go_quiet (fail)
                    have Hb9 := Lib.hid (Below.drewN Hb7.out nq)
                    go_wp2_with fail
                    go_roundg (j - (i + 1))
                    case measure => omega
                    case rel =>
                      refine ⟨i + 1, by omega, rfl, by go_num, Lib.hid fun i' h1 => ?_, Hb9⟩
                      by_cases e : i' = i
                      · subst e; exact Hgk.out.2 hz
                      · exact Hp2.out i' (by omega)
                  · go_wp2_with fail
                    go_quiet (fail)
                    have Hb9 := Lib.hid (Below.drewN Hb7.out nq)
                    go_wp2_with fail
                    go_ret
                    first | exact ⟨false, rfl, GkIs.no4 (x := x) (i := i) (j := j) (by rw [Int.toNat_natCast, ← HF.out]; exact hxF) hij (by rw [Int.toNat_natCast]; exact hj) (by rw [Int.toNat_natCast, Hgk.out]; exact hz), HB3.out.trans (Hb9.out.mono HB3.out.size)⟩ | exact .inl ⟨rfl, GkIs.no4 (x := x) (i := i) (j := j) (by rw [Int.toNat_natCast, ← HF.out]; exact hxF) hij (by rw [Int.toNat_natCast]; exact hj) (by rw [Int.toNat_natCast, Hgk.out]; exact hz), HB3.out.trans (Hb9.out.mono HB3.out.size)⟩
                · have hiji : ¬ (i : Int) < (j : Int) := by omega
                  go_wp2_with fail
                  go_roundg (n - (j + 1))
                  case measure => omega
                  case rel =>
                    refine ⟨j + 1, by omega, rfl, by go_num, Lib.hid fun i' j' h1 h2 => ?_, Hb2⟩
                    by_cases e : j' = j
                    · subst e; exact Hp2.out i' (by omega)
                    · exact Hp1.out i' j' (by omega) h2
            · have hji : ¬ (j : Int) < (n : Int) := by omega
              go_wp2_with fail
              go_roundg (k - (x + 1))
              case measure => omega
              case rel =>
                refine ⟨x + 1, by omega, rfl, by go_num, Lib.hid fun x' i' j' h1 h2 h3 => ?_, Hb1⟩
                by_cases e : x' = x
                · subst e; exact Hp1.out i' j' (by omega) h2
                · exact Hp.out x' i' j' (by omega) h2 h3
        · have hxi : ¬ (x : Int) < (k : Int) := by omega
          go_wp2_with fail
          go_ret
          refine .inr ⟨rfl, ⟨fun _ => ⟨Ha.out, by rw [Int.toNat_natCast, HvF.out]; exact HF.out, Hm.out, fun x' i' j' h1 h2 h3 => ?_⟩, fun _ => rfl⟩, HB3.out.trans (Hb.out.mono HB3.out.size)⟩
          rw [Int.toNat_natCast] at h1 h3 ⊢
          exact Hp.out x' i' j' (by rw [← HF.out] at h1; omega) h2 h3
theorem implIsGkm_any (N : Int) (v u : Value) (vs y : List Int) (w : World) (hv : Ints w v vs) (hy : Ints w u y) :
    Calls Try.prog 7 #[.int .i64 N, v, u] w fun e w' => e = .returned (.bool (Classical.epsilon (GkIs N vs y))) ∧ Below w.heap.size w w' :=
  (implIsGkm_ex N v u vs y w hv hy).mono fun e w' ⟨b, h1, h2, h3⟩ => ⟨by rw [h1, h2.eps], h3⟩

end Go.Proofs.Ytajilmfaconjbaa
