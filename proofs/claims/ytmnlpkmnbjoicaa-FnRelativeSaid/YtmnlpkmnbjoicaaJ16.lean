/-
  The draws: a flag, walked.
  The draws: a space, two spaces.
-/
import Derived.Test.YtmnlpkmnbjoicaaJ14
import Derived.Test.YtmnlpkmnbjoicaaJ5
import Derived.Test.YtmnlpkmnbjoicaaJ11
namespace Go.Proofs.Ytmnlpkmnbjoicaa
set_option linter.all false
open Go.RowKit

theorem flS_call {w : World} {k : Nat} {P : Int} {n N bA bL bH gl kl gh kh la : Nat} {vA : Value} {DA : List Int} {W w' : World} {c : Prop} (h : c ∧ Hid (FlS w k P n N bA bL bH gl kl gh kh la vA DA W)) (hn : FlN w k n N bA bL bH gl gh la) (hf : Frm k (k + 1) W w') (hc : Cur w' k) : Hid (FlS w k P n N bA bL bH gl kl gh kh la vA DA w') := h.2.out.frm hn hf hc
theorem specMul2 (P : Int) (n : Nat) (da db : Value) (DA DB D : List Int) (w : World) (he : mulMx ⟨P, n, n, DA⟩ ⟨P, n, n, DB⟩ = ⟨P, n, n, D⟩) (ha : Ints w da DA) (hb : Ints w db DB) :
    Calls Try.prog 59 #[.agg #[.int .i64 P, .int .i64 (n : Int), .int .i64 (n : Int), da], .agg #[.int .i64 P, .int .i64 (n : Int), .int .i64 (n : Int), db]] w fun e w' =>
      ∃ (pd : Option Addr) (kd : Nat) (b : Bool), e = .returned (.tuple #[.agg #[.int .i64 P, .int .i64 (n : Int), .int .i64 (n : Int), .slice pd D.length kd], .bool b]) ∧ OwnI 3 w' w.heap.size w'.heap.size (.slice pd D.length kd) D ∧ Below w.heap.size w w' :=
  (specMul_any ⟨P, n, n, DA⟩ ⟨P, n, n, DB⟩ da db w ha hb).mono fun e w' h => by
    rw [he] at h
    obtain ⟨u, h1, h2, h3⟩ := h
    obtain ⟨pd, kd, rfl, _, _⟩ := h2.shape
    exact ⟨pd, kd, _, h1, h2, h3⟩
theorem idx_facts {K i N : Nat} (h : K + i < N) (hN : N ≤ 1000000) : Hid (wrap64 ((K : Int) + (i : Int)) = (K : Int) + (i : Int)) ∧ Hid (IntKind.i64.wrap ((K : Int) + (i : Int)) = (K : Int) + (i : Int)) ∧ (0 : Int) ≤ (K : Int) + i ∧ (K : Int) + i < (N : Int) ∧ ((K : Int) + (i : Int)).toNat = K + i := by
  have h0 : -1000000000000000000 ≤ (K : Int) + (i : Int) := by omega
  have h1 : (K : Int) + (i : Int) ≤ 1000000000000000000 := by omega
  exact ⟨w64 h0 h1, k64 h0 h1, by omega, by omega, by omega⟩
theorem wrap_1x {x p : Nat} (h : x < p - 1) (hp : p ≤ 256) : IntKind.i64.wrap (1 + (x : Int)) = 1 + (x : Int) := k64 (by omega) (by omega)
theorem bound_one {x p : Nat} (h : x < p - 1) (hp : p ≤ 256) : 0 ≤ IntKind.i64.wrap (1 + (x : Int)) ∧ IntKind.i64.wrap (1 + (x : Int)) < (p : Int) := by rw [wrap_1x h hp]; omega
theorem bound_two {x p : Nat} (h : x < p - 1) (hp : p ≤ 256) : (1 : Int) ≤ IntKind.i64.wrap (1 + (x : Int)) := by rw [wrap_1x h hp]; omega
theorem bound_x {x p : Nat} (h : x < p) : 0 ≤ (x : Int) ∧ (x : Int) < (p : Int) := by omega
theorem mul_row {i n N j : Nat} (hN : N = n * n) (hb : N ≤ 1000000) (hi : i < n) (hj : j < n) : ∃ K, Hid (K = i * n) ∧ Hid (wrap64 ((i : Int) * (n : Int)) = (K : Int)) ∧ Hid (IntKind.i64.wrap ((i : Int) * (n : Int)) = (K : Int)) ∧ K + j < N := by
  have h := flat_ltW (C := n) hi hj
  rw [← hN] at h
  obtain ⟨K, hK, h1, h2⟩ := mul_named i n (by omega)
  exact ⟨K, hK, h1, h2, by omega⟩
theorem FlS.drew {w : World} {k : Nat} {P : Int} {n N bA bL bH gl kl gh kh la : Nat} {vA : Value} {DA : List Int} {wr : World} (h : FlS w k P n N bA bL bH gl kl gh kh la vA DA wr) (hn : FlN w k n N bA bL bH gl gh la) : FlS w k P n N bA bL bH gl kl gh kh la vA DA wr.drew := h.drewN hn 1
theorem flS_holdL {w : World} {k : Nat} {P : Int} {n N bA bL bH gl kl gh kh la : Nat} {vA : Value} {DA : List Int} {W : World} (h : FlS w k P n N bA bL bH gl kl gh kh la vA DA W) : W.cell? ⟨bL, 3, none⟩ = some (.slice (some ⟨gl, 0, none⟩) N kl) ∧ Hid (FlS w k P n N bA bL bH gl kl gh kh la vA DA W) := ⟨(blk4 h.l).2.2.2.1, h⟩
theorem flS_holdH {w : World} {k : Nat} {P : Int} {n N bA bL bH gl kl gh kh la : Nat} {vA : Value} {DA : List Int} {W : World} (h : FlS w k P n N bA bL bH gl kl gh kh la vA DA W) : W.cell? ⟨bH, 3, none⟩ = some (.slice (some ⟨gh, 0, none⟩) N kh) ∧ Hid (FlS w k P n N bA bL bH gl kl gh kh la vA DA W) := ⟨(blk4 h.h).2.2.2.1, h⟩
theorem flS_cur {w : World} {k : Nat} {P : Int} {n N bA bL bH gl kl gh kh la : Nat} {vA : Value} {DA : List Int} {W : World} {c : Prop} (h : c ∧ Hid (FlS w k P n N bA bL bH gl kl gh kh la vA DA W)) : Cur W k := h.2.out.cur

set_option maxRecDepth 100000 in
set_option maxHeartbeats 8000000 in
/-- a flag -/
theorem dFlag_nat (k n p : Nat) (w : World) (h : Cur w k) (hp : primeOk (p : Int) = true) (h1 : 1 ≤ n) (h5 : n ≤ 5) :
    Calls Try.prog 39 #[.pointer (some ⟨k, 0, none⟩), .int .i64 (p : Int), .int .i64 (n : Int)] w fun e w' =>
      ∃ (pd : Option Addr) (kd : Nat) (D : List Int), e = .returned (.agg #[.int .i64 (p : Int), .int .i64 (n : Int), .int .i64 (n : Int), .slice pd D.length kd]) ∧ OwnI 3 w' w.heap.size w'.heap.size (.slice pd D.length kd) D ∧ IsFl p n n D ∧ Cur w' k ∧ Frm k (k + 1) w w' := by
  obtain ⟨hP2, hP7⟩ := primeOk_range hp
  have Hp := Lib.hid hp
  have Hp2 := Lib.hid (show IntKind.i64.wrap ((p : Int) - 1) = ((p - 1 : Nat) : Int) by rw [k64 (by omega) (by omega)]; omega)
  have Hp3 := Lib.hid (show IntKind.i64.wrap ((p - 1 : Nat) : Int) = ((p - 1 : Nat) : Int) from k64 (by omega) (by omega))
  have hk := h.lt
  have z0 := heap_alloc_top w (.cells #[.int .i64 0, .int .i64 0, .int .i64 0, .slice none 0 0] 26)
  have Hc1 := Lib.hid (h.below (below_alloc w (.cells #[.int .i64 0, .int .i64 0, .int .i64 0, .slice none 0 0] 26)))
  have Z1 := Lib.hid z0
  have Hf1 := Lib.hid (Frm.of_below (below_alloc w (.cells #[.int .i64 0, .int .i64 0, .int .i64 0, .slice none 0 0] 26)) k (k + 1))
  have hs1 : (w.alloc (.cells #[.int .i64 0, .int .i64 0, .int .i64 0, .slice none 0 0] 26)).heap.size = w.heap.size + 1 := size_alloc _ _
  obtain ⟨N, hN⟩ : ∃ N, N = n * n := ⟨_, rfl⟩
  have HN := Lib.hid hN
  have hN1 : 1 ≤ N := by rw [hN]; exact Nat.mul_pos h1 h1
  have hN25 : N ≤ 25 := by rw [hN]; exact Nat.mul_le_mul h5 h5
  clear h z0 hp hN
  go_enter Try.func39, Try.ntmps39
  go_wp2_with fail
  generalize w.alloc (.cells #[.int .i64 0, .int .i64 0, .int .i64 0, .slice none 0 0] 26) = w1 at *
  refine (dPerm_any k n _ Hc1.out h1 h5).mono ?_
  rintro e w2 ⟨u, xs, rfl, hox, hpx, hlx, hc2, hf2⟩
  have Z2 := Lib.hid ((hf2.block w.heap.size (by omega) (Or.inr (by omega))).trans Z1.out)
  have Hf2 := Lib.hid (Hf1.out.trans hf2)
  have Hc2 := Lib.hid hc2
  have Hox := Lib.hid hox.ints
  have Hpx := Lib.hid hpx
  have Hlx := Lib.hid hlx
  have hs2 := hf2.size
  obtain ⟨px, kx, rfl, _, _⟩ := hox.shape
  rw [hlx] at Hox ⊢
  clear hox hpx hlx hc2 hf2 Z1 Hf1 Hc1
  go_wp2_with fail
  refine (l7Perm_any (p : Int) _ xs _ Hox.out Hpx.out).mono ?_
  rintro e w3 ⟨u, rfl, hoA, hb3⟩
  rw [Hlx.out]
  have hnA : (permRows xs).flatten.length = N := by rw [permRows_flat_length, Hlx.out, HN.out]
  obtain ⟨pA, kA, rfl, _, _⟩ := hoA.shape
  rw [hnA] at hoA ⊢
  have HoA := Lib.hid hoA
  have Z3 := Lib.hid (blk_later Z2.out hb3)
  have Hc3 := Lib.hid (Hc2.out.below hb3)
  have Hf3 := Lib.hid (Hf2.out.thenB hb3 (by omega))
  have hs3 := hb3.size
  clear hnA hoA hb3 Z2 Hf2 Hc2
  go_wp2_with fail

  refine (specIdentity_any n _ h1 (by omega)).mono ?_
  rintro e w4 ⟨u, rfl, hoi, hb4⟩
  have bl4 : Below w3.heap.size w3 w4 := (below_alloc w3 (.cells #[.int .i64 (p : Int), .int .i64 (n : Int), .int .i64 (n : Int), .slice pA N kA] 26)).trans (hb4.mono (by simp))
  have hs4 : w3.heap.size + 1 ≤ w4.heap.size := by have := hb4.size; rwa [size_alloc] at this
  have Z4 := Lib.hid (blk_later Z3.out bl4)
  have BA4 := Lib.hid ((hb4.block _ (by simp)).trans (heap_alloc_top w3 (.cells #[.int .i64 (p : Int), .int .i64 (n : Int), .int .i64 (n : Int), .slice pA N kA] 26)))
  have Hc4 := Lib.hid (Hc3.out.below bl4)
  have Hf4 := Lib.hid (Hf3.out.thenB bl4 (by omega))
  have HoA4 := Lib.hid (HoA.out.below bl4)
  have Hoi := Lib.hid hoi.ints
  obtain ⟨pi, ki, rfl, _, _⟩ := hoi.shape
  rw [idL_length] at Hoi ⊢
  clear hoi hb4 bl4
  go_wp2_with fail
  refine (l7Perm_any (p : Int) _ (idL n) _ Hoi.out (idL_ok h1 (by omega))).mono ?_
  rintro e w5 ⟨u, rfl, hoL, hb5⟩
  rw [idL_length]
  have hnL : (permRows (idL n)).flatten.length = N := by rw [permRows_flat_length, idL_length, HN.out]
  obtain ⟨pL, kL, rfl, _, _⟩ := hoL.shape
  rw [hnL] at hoL ⊢
  have hof := hoL.fn
  rw [hnL] at hof
  obtain ⟨gL, rfl, hgL1, hgL2, _⟩ := hof.at_ (by omega)
  have HoL5 := Lib.hid (hoL.widen (lo := gL) (hi := gL + 1) fun b hb => by simp [Value.ownBlock] at hb; omega)
  have hs5 := hb5.size
  have Z5 := Lib.hid (blk_later Z4.out hb5)
  have Hc5 := Lib.hid (Hc4.out.below hb5)
  have Hf5 := Lib.hid (Hf4.out.thenB hb5 (by omega))
  have BA5 := Lib.hid (blk_later BA4.out hb5)
  have HoA5 := Lib.hid (HoA4.out.below hb5)
  clear hof hnL hoL hb5
  go_wp2_with fail
  refine (specIdentity_any n _ h1 (by omega)).mono ?_
  rintro e w6 ⟨u, rfl, hoi, hb6⟩
  have bl6 : Below w5.heap.size w5 w6 := (below_alloc w5 (.cells #[.int .i64 (p : Int), .int .i64 (n : Int), .int .i64 (n : Int), .slice (some ⟨gL, 0, none⟩) N kL] 26)).trans (hb6.mono (by simp))
  have hs6 : w5.heap.size + 1 ≤ w6.heap.size := by have := hb6.size; rwa [size_alloc] at this
  have Z6 := Lib.hid (blk_later Z5.out bl6)
  have BL6 := Lib.hid ((hb6.block _ (by simp)).trans (heap_alloc_top w5 (.cells #[.int .i64 (p : Int), .int .i64 (n : Int), .int .i64 (n : Int), .slice (some ⟨gL, 0, none⟩) N kL] 26)))
  have Hc6 := Lib.hid (Hc5.out.below bl6)
  have Hf6 := Lib.hid (Hf5.out.thenB bl6 (by omega))
  have HoA6 := Lib.hid (HoA5.out.below bl6)
  have HoL6 := Lib.hid (HoL5.out.below bl6)
  have BA6 := Lib.hid (blk_later BA5.out bl6)
  have Hoi := Lib.hid hoi.ints
  obtain ⟨pi, ki, rfl, _, _⟩ := hoi.shape
  rw [idL_length] at Hoi ⊢
  clear hoi hb6 bl6
  go_wp2_with fail
  refine (l7Perm_any (p : Int) _ (idL n) _ Hoi.out (idL_ok h1 (by omega))).mono ?_
  rintro e w7 ⟨u, rfl, hoH, hb7⟩
  rw [idL_length]
  have hnH : (permRows (idL n)).flatten.length = N := by rw [permRows_flat_length, idL_length, HN.out]
  obtain ⟨pH, kH, rfl, _, _⟩ := hoH.shape
  rw [hnH] at hoH ⊢
  have hof := hoH.fn
  rw [hnH] at hof
  obtain ⟨gH, rfl, hgH1, hgH2, _⟩ := hof.at_ (by omega)
  have HoH7 := Lib.hid (hoH.widen (lo := gH) (hi := gH + 1) fun b hb => by simp [Value.ownBlock] at hb; omega)
  have hs7 := hb7.size
  have Z7 := Lib.hid (blk_later Z6.out hb7)
  have Hc7 := Lib.hid (Hc6.out.below hb7)
  have Hf7 := Lib.hid (Hf6.out.thenB hb7 (by omega))
  have BA7 := Lib.hid (blk_later BA6.out hb7)
  have BL7 := Lib.hid (blk_later BL6.out hb7)
  have HoA7 := Lib.hid (HoA6.out.below hb7)
  have HoL7 := Lib.hid (HoL6.out.below hb7)
  clear hof hnH hoH hb7
  go_wp2_with fail
  have hNN : FlN w k n N w3.heap.size w5.heap.size w7.heap.size gL gH w2.heap.size := ⟨hk, by omega, by omega, by omega, by omega, by omega, by omega, HN.out⟩
  have hFl : FlS w k (p : Int) n N w3.heap.size w5.heap.size w7.heap.size gL kL gH kH w2.heap.size (.slice pA N kA) (permRows xs).flatten (w7.alloc (.cells #[.int .i64 (p : Int), .int .i64 (n : Int), .int .i64 (n : Int), .slice (some ⟨gH, 0, none⟩) N kH] 26)) := by
    have hb := below_alloc w7 (.cells #[.int .i64 (p : Int), .int .i64 (n : Int), .int .i64 (n : Int), .slice (some ⟨gH, 0, none⟩) N kH] 26)
    refine ⟨blk_later Z7.out hb, blk_later BA7.out hb, blk_later BL7.out hb, heap_alloc_top _ _, HoA7.out.below hb, ⟨_, id_low hP2, HoL7.out.below hb⟩, ⟨_, id_high hP2, HoH7.out.below hb⟩, Hc7.out.below hb, Hf7.out.thenB hb (by omega)⟩
  have HNN := Lib.hid hNN
  have HF8 := Lib.hid hFl
  have HQ1 := Lib.hid (show 1 ≤ p - 1 by omega)
  have HQ2 := Lib.hid (show p - 1 ≤ 256 by omega)
  have HQ3 := Lib.hid (show 1 ≤ p by omega)
  have HQ4 := Lib.hid (show p ≤ 256 by omega)
  have HCur := Lib.hid (fun (c : Prop) (W : World) (h : c ∧ Hid (FlS w k (p : Int) n N w3.heap.size w5.heap.size w7.heap.size gL kL gH kH w2.heap.size (.slice pA N kA) (permRows xs).flatten W)) => flS_cur h)
  have HCall := Lib.hid (fun (c : Prop) (W w' : World) (h : c ∧ Hid (FlS w k (p : Int) n N w3.heap.size w5.heap.size w7.heap.size gL kL gH kH w2.heap.size (.slice pA N kA) (permRows xs).flatten W)) (hf : Frm k (k + 1) W w') (hc : Cur w' k) => flS_call h hNN hf hc)
  have hp1 : (p : Int) - 1 = ((p - 1 : Nat) : Int) := by omega
  have Hp1 := Lib.hid hp1
  clear hNN hFl hp1
  clear Z3 Z4 Z5 Z6 Z7 Hc3 Hc4 Hc5 Hc6 Hc7 Hf3 Hf4 Hf5 Hf6 Hf7 BA4 BA5 BA6 BA7 BL6 BL7 HoA HoA4 HoA5 HoA6 HoA7 HoL5 HoL6 HoL7 HoH7 Hoi Hox
  go_loopg [10] n (fun g s10 wr => ∃ i : Nat, i ≤ n ∧ g = n - i ∧ s10 = .int .i64 i ∧ Hid (FlS w k (p : Int) n N w3.heap.size w5.heap.size w7.heap.size gL kL gH kH w2.heap.size (.slice pA N kA) (permRows xs).flatten wr))
  case atStart => exact ⟨0, Nat.zero_le _, rfl, rfl, HF8.out⟩
  case round =>
    obtain ⟨i, hi, rfl, rfl, hF⟩ := hrel
    by_cases hlt : i < n
    · have hlt2 : (i : Int) < (n : Int) := by omega
      have HF := Lib.hid hF.out
      clear hF
      obtain ⟨K, HK, Hkr, Hkk, hKl⟩ := mul_row HN.out (by omega) hlt hlt
      obtain ⟨Hs1, Hs2, hi0, hi1, hi2⟩ := idx_facts hKl (by omega)
      go_wp2_with fail
      have hkr := Hkr.out
      have hkk := Hkk.out
      have hs1' := Hs1.out
      have hs2' := Hs2.out
      go_region_held3 (fun w' => w'.cell? ⟨w5.heap.size, 3, none⟩ = some (.slice (some ⟨gL, 0, none⟩) N kL) ∧ Hid (FlS w k (p : Int) n N w3.heap.size w5.heap.size w7.heap.size gL kL gH kH w2.heap.size (.slice pA N kA) (permRows xs).flatten w'))
          (first | exact flS_holdL (HF.out.drew HNN.out) | exact flS_holdL hF1.out | exact flS_holdL (hF1.out.setL HNN.out (show K + i = i * n + i by rw [HK.out]) hlt (Nat.le_refl _) hx1 (fun _ => hx2)))
          (first
            | (go_at_call 29; (first | rw [Hp2.out] | rw [Hp3.out] | rw [Hp1.out]); refine (l1Below_any k (p - 1) _ (HCur.out _ _ (by assumption)) HQ1.out HQ2.out).mono ?_; rintro e w' ⟨x, rfl, hx, hc1, hf1⟩; have hF1 := HCall.out _ _ _ (by assumption) hf1 hc1; obtain ⟨z, hz⟩ := hF1.out.cellL HNN.out (show K + i < N by exact hKl); have hzf := hF1.out.frzL (K + i); have cB := (flS_holdL hF1.out).1; have hx1 := bound_one hx HQ4.out; have hx2 := bound_two hx HQ4.out))
      all_goals clear hkr hkk hs1' hs2'
      have HF7 := Lib.hid (hF1.out.setL HNN.out (show K + i = i * n + i by rw [HK.out]) hlt (Nat.le_refl _) hx1 (fun _ => hx2))
      clear hF1 hz hzf cB hx1 hx2 hc1 hf1 hi0 hi1 hi2
      generalize World.setCell _ _ _ = wy at *
      go_wp2_with fail
      go_loopg [11] i (fun g s11 wr => ∃ j : Nat, j ≤ i ∧ g = i - j ∧ s11 = .int .i64 j ∧ Hid (FlS w k (p : Int) n N w3.heap.size w5.heap.size w7.heap.size gL kL gH kH w2.heap.size (.slice pA N kA) (permRows xs).flatten wr))
      case atStart => exact ⟨0, Nat.zero_le _, rfl, rfl, HF7.out⟩
      case round =>
        obtain ⟨j, hj, rfl, rfl, hF⟩ := hrel
        have HF := Lib.hid hF.out
        clear hF
        by_cases hjl : j < i
        · have hjl2 : (j : Int) < (i : Int) := by omega
          have hjn : j < n := by omega
          obtain ⟨Ka, HKa, Hkra, Hkka, hKal⟩ := mul_row HN.out (by omega) hlt hjn
          obtain ⟨Ha1, Ha2, ha0, ha1, ha2⟩ := idx_facts hKal (by omega)
          obtain ⟨Kb, HKb, Hkrb, Hkkb, hKbl⟩ := mul_row HN.out (by omega) hjn hlt
          obtain ⟨Hb1, Hb2, hb0, hb1', hb2⟩ := idx_facts hKbl (by omega)
          go_wp2_with fail
          have ka1 := Hkra.out
          have ka2 := Hkka.out
          have ka3 := Ha1.out
          have ka4 := Ha2.out
          go_region_held3 (fun w' => w'.cell? ⟨w5.heap.size, 3, none⟩ = some (.slice (some ⟨gL, 0, none⟩) N kL) ∧ Hid (FlS w k (p : Int) n N w3.heap.size w5.heap.size w7.heap.size gL kL gH kH w2.heap.size (.slice pA N kA) (permRows xs).flatten w'))
          (first | exact flS_holdL (HF.out.drew HNN.out) | exact flS_holdL hF1.out | exact flS_holdL (hF1.out.setL HNN.out (show Ka + j = i * n + j by rw [HKa.out]) hlt (Nat.le_of_lt hjl) hx1 (fun e => absurd e (Nat.ne_of_lt hjl))))
          (first
            | (go_at_call 29; skip; refine (l1Below_any k p _ (HCur.out _ _ (by assumption)) HQ3.out HQ4.out).mono ?_; rintro e w' ⟨x, rfl, hx, hc1, hf1⟩; have hF1 := HCall.out _ _ _ (by assumption) hf1 hc1; obtain ⟨z, hz⟩ := hF1.out.cellL HNN.out (show Ka + j < N by exact hKal); have hzf := hF1.out.frzL (Ka + j); have cB := (flS_holdL hF1.out).1; have hx1 := bound_x hx))
          all_goals clear ka1 ka2 ka3 ka4
          have HF8 := Lib.hid (hF1.out.setL HNN.out (show Ka + j = i * n + j by rw [HKa.out]) hlt (Nat.le_of_lt hjl) hx1 (fun e => absurd e (Nat.ne_of_lt hjl)))
          clear hF1 hz hzf cB hx1 hc1 hf1 HF
          have HF := HF8
          clear HF8
          generalize World.setCell _ _ _ = wy2 at *
          go_wp2_with fail
          have kb1 := Hkrb.out
          have kb2 := Hkkb.out
          have kb3 := Hb1.out
          have kb4 := Hb2.out
          go_region_held3 (fun w' => w'.cell? ⟨w7.heap.size, 3, none⟩ = some (.slice (some ⟨gH, 0, none⟩) N kH) ∧ Hid (FlS w k (p : Int) n N w3.heap.size w5.heap.size w7.heap.size gL kL gH kH w2.heap.size (.slice pA N kA) (permRows xs).flatten w'))
          (first | exact flS_holdH (HF.out.drew HNN.out) | exact flS_holdH hF1.out | exact flS_holdH (hF1.out.setH HNN.out (show Kb + i = j * n + i by rw [HKb.out]) hlt hjl hx1))
          (first
            | (go_at_call 29; skip; refine (l1Below_any k p _ (HCur.out _ _ (by assumption)) HQ3.out HQ4.out).mono ?_; rintro e w' ⟨x, rfl, hx, hc1, hf1⟩; have hF1 := HCall.out _ _ _ (by assumption) hf1 hc1; obtain ⟨z, hz⟩ := hF1.out.cellH HNN.out (show Kb + i < N by exact hKbl); have hzf := hF1.out.frzH (Kb + i); have cB := (flS_holdH hF1.out).1; have hx1 := bound_x hx))
          all_goals clear kb1 kb2 kb3 kb4
          have HF9 := Lib.hid (hF1.out.setH HNN.out (show Kb + i = j * n + i by rw [HKb.out]) hlt hjl hx1)
          clear hF1 hz hzf cB hx1 hc1 hf1 ha0 ha1 ha2 hb0 hb1' hb2
          generalize World.setCell _ _ _ = wy3 at *
          go_wp2_with fail
          go_roundg (i - (j + 1))
          case measure => omega
          case rel => exact ⟨j + 1, by omega, rfl, by go_num, HF9.out⟩
        · obtain rfl : j = i := by omega
          have hjl2 : ¬ (j : Int) < (j : Int) := by omega
          go_wp2_with fail
          go_roundg (n - (j + 1))
          case measure => omega
          case rel => exact ⟨j + 1, by omega, rfl, by go_num, HF.out⟩
    · obtain rfl : i = n := by omega
      have hlt2 : ¬ (i : Int) < (i : Int) := by omega
      obtain ⟨zz, aa, ll, hh, oa, ⟨DL, fl1, fl2⟩, ⟨DH, fh1, fh2⟩, cu, fr⟩ := hF.out
      obtain ⟨DX, DY, e1, e2, hfl⟩ := draw_flag Hp.out h1 (by omega) fl1 fh1 Hpx.out Hlx.out
      have Ia := Lib.hid oa.ints
      have Il := Lib.hid fl2.ints
      have Ih := Lib.hid fh2.ints
      have Zz := Lib.hid zz
      have Za := Lib.hid aa
      have Zl := Lib.hid ll
      have Zh := Lib.hid hh
      have Cu := Lib.hid cu
      have Fr := Lib.hid fr
      have E1 := Lib.hid e1
      have E2 := Lib.hid e2
      have Hfl := Lib.hid hfl
      have hsr := fr.size
      have hz := blk_lt zz
      obtain ⟨a0, a1, a2, a3, af, az⟩ := blk4 aa
      obtain ⟨l0, l1, l2, l3, lf, lz⟩ := blk4 ll
      clear hF zz aa ll hh oa fl1 fl2 fh1 fh2 cu fr e1 e2 hfl
      go_wp2_with fail
      refine (specMul2 (p : Int) i _ _ DL (permRows xs).flatten DX _ E1.out Il.out Ia.out).mono ?_
      rintro e wx ⟨pX, kX, b1, rfl, ho1, hb1⟩
      have Ix := Lib.hid ho1.ints
      have Ih1 := Lib.hid (Ih.out.below hb1)
      have Zz1 := Lib.hid (blk_later Zz.out hb1)
      have Zh1 := Lib.hid (blk_later Zh.out hb1)
      have Cu1 := Lib.hid (Cu.out.below hb1)
      have Fr1 := Lib.hid (Fr.out.thenB hb1 hsr)
      have hs1' := hb1.size
      clear ho1 hb1 a0 a1 a2 a3 af az l0 l1 l2 l3 lf lz
      obtain ⟨q0, q1, q2, q3, qf, qz⟩ := blk4 Zh1.out
      go_wp2_with fail
      refine (specMul2 (p : Int) i _ _ DX DH DY _ E2.out (Ix.out.below (below_alloc wx _)) (Ih1.out.below (below_alloc wx _))).mono ?_
      rintro e wy ⟨pY, kY, b2, rfl, ho2, hb2⟩
      have bl2 : Below wx.heap.size wx wy := (below_alloc wx _).trans (hb2.mono (by simp))
      have Iy := Lib.hid (ho2.mono (lo' := wx.heap.size) (by rw [size_alloc]; omega) (Nat.le_refl _))
      have Zz2 := Lib.hid (blk_later Zz1.out bl2)
      have Cu2 := Lib.hid (Cu1.out.below bl2)
      have Fr2 := Lib.hid (Fr1.out.thenB bl2 (by omega))
      have hs2' := bl2.size
      have hs3' := hb2.size
      rw [size_alloc] at hs3'
      clear ho2 hb2 bl2 q0 q1 q2 q3 qf qz
      have hby := below_alloc wy (.cells #[.int .i64 (p : Int), .int .i64 (i : Int), .int .i64 (i : Int), .slice pY DY.length kY] 26)
      have Iy3 := Lib.hid (Iy.out.below hby)
      have Zz3 := Lib.hid (blk_later Zz2.out hby)
      have Cu3 := Lib.hid (Cu2.out.below hby)
      have Fr3 := Lib.hid (Fr2.out.thenB hby (by omega))
      have hs4' := hby.size
      obtain ⟨t0, t1, t2, t3, tf, tz⟩ := blk4 (heap_alloc_top wy (.cells #[.int .i64 (p : Int), .int .i64 (i : Int), .int .i64 (i : Int), .slice pY DY.length kY] 26))
      obtain ⟨z0, z1, z2, z3, zf, zz⟩ := blk4 Zz3.out
      clear hby
      go_wp2_with fail
      obtain ⟨f0, f1, f2, f3, ff, fz⟩ := blk4 (set4_all Zz3.out (.int .i64 (p : Int)) (.int .i64 (i : Int)) (.int .i64 (i : Int)) (.slice pY DY.length kY))
      refine bodyPost_ret (v := .agg #[.int .i64 (p : Int), .int .i64 (i : Int), .int .i64 (i : Int), .slice pY DY.length kY]) (by simp [results, Try.results39, go_sem, f0, f1, f2, f3, fz]) rfl ⟨pY, kY, DY, rfl, ?_, Hfl.out, ?_, ?_⟩
      · exact (own_set4 Iy3.out (.inl (by omega)) _ _ _ _).mono (by omega) (by simp only [size_setCell]; omega)
      · exact Cu3.out.keepB (below_set4 (Below.refl w.heap.size _) (Nat.le_refl _) _ _ _ _) hk
      · exact Fr3.out.thenB (below_set4 (Below.refl w.heap.size _) (Nat.le_refl _) _ _ _ _) (Nat.le_refl _)
theorem dFlag_any (k n : Nat) (P : Int) (w : World) (h : Cur w k) (hp : primeOk P = true) (h1 : 1 ≤ n) (h5 : n ≤ 5) :
    Calls Try.prog 39 #[.pointer (some ⟨k, 0, none⟩), .int .i64 P, .int .i64 (n : Int)] w fun e w' =>
      ∃ (pd : Option Addr) (kd : Nat) (D : List Int), e = .returned (.agg #[.int .i64 P, .int .i64 (n : Int), .int .i64 (n : Int), .slice pd D.length kd]) ∧ OwnI 3 w' w.heap.size w'.heap.size (.slice pd D.length kd) D ∧ IsFl P n n D ∧ Cur w' k ∧ Frm k (k + 1) w w' := by
  obtain ⟨hP2, _⟩ := primeOk_range hp
  obtain ⟨p, rfl⟩ := Int.eq_ofNat_of_zero_le (show 0 ≤ P by omega)
  exact dFlag_nat k n p w h hp h1 h5

end Go.Proofs.Ytmnlpkmnbjoicaa

namespace Go.Proofs.Ytmnlpkmnbjoicaa
set_option linter.all false
open Go.RowKit

set_option maxRecDepth 100000 in
set_option maxHeartbeats 4000000 in
theorem dSpace_any (k : Nat) (P : Int) (n : Nat) (w : World) (h : Cur w k) (hp : primeOk P = true) (h1 : 1 ≤ n) (hn : n ≤ 7) :
    Calls Try.prog 30 #[.pointer (some ⟨k, 0, none⟩), .int .i64 P, .int .i64 (n : Int)] w fun e w' =>
      ∃ (r : Nat) (u : Value) (D : List Int), e = .returned (.agg #[.int .i64 P, .int .i64 (r : Int), .int .i64 (n : Int), u]) ∧ OwnI 3 w' w.heap.size w'.heap.size u D ∧ IsSp P r n D ∧ Cur w' k ∧ Frm k (k + 1) w w' := by
  obtain ⟨hP2, hP7⟩ := primeOk_range hp
  have Hp := Lib.hid hp
  have hk := h.lt
  have z0 := heap_alloc_top w (.cells #[.int .i64 0, .int .i64 0, .int .i64 0, .slice none 0 0] 26)
  have Hc := Lib.hid (h.below (below_alloc w (.cells #[.int .i64 0, .int .i64 0, .int .i64 0, .slice none 0 0] 26)))
  have HZ1 := Lib.hid z0
  have Hb1 := Lib.hid (below_alloc w (.cells #[.int .i64 0, .int .i64 0, .int .i64 0, .slice none 0 0] 26))
  have hs1 : (w.alloc (.cells #[.int .i64 0, .int .i64 0, .int .i64 0, .slice none 0 0] 26)).heap.size = w.heap.size + 1 := size_alloc _ _
  clear h z0 hp
  have hnn : (n : Int) + 1 = ((n + 1 : Nat) : Int) := by omega
  have Hnn := Lib.hid hnn
  clear hnn
  go_enter Try.func30, Try.ntmps30
  go_wp2_with fail
  generalize w.alloc (.cells #[.int .i64 0, .int .i64 0, .int .i64 0, .slice none 0 0] 26) = w1 at *
  rw [Hnn.out]
  refine (l1Below_any k (n + 1) _ Hc.out (by omega) (by omega)).mono ?_
  rintro e w2 ⟨r, rfl, hr, hc2, hf2⟩
  have HZ2 := Lib.hid ((hf2.block w.heap.size (by omega) (Or.inr (by omega))).trans HZ1.out)
  have Hf2 := Lib.hid ((Frm.of_below Hb1.out _ _).trans hf2)
  have hs2 := hf2.size
  clear hf2
  have Hc2 := Lib.hid hc2
  clear hc2
  go_wp2_with fail
  refine (dMatrix_any k P r n _ Hc2.out Hp.out (by omega) hn).mono ?_
  rintro e w3 ⟨u, D, rfl, ho3, hl3, hD3, hc3, hf3⟩
  have HZ3 := Lib.hid ((hf3.block w.heap.size (by omega) (Or.inr (by omega))).trans HZ2.out)
  have Hf3 := Lib.hid (Hf2.out.trans hf3)
  have hs3 := hf3.size
  have Hc3 := Lib.hid hc3
  have Ho3 := Lib.hid ho3
  have Hl3 := Lib.hid hl3
  have HD3 := Lib.hid (fun t => getD_range hD3 (by omega) t)
  clear hf3 hc3 ho3 hl3 hD3
  obtain ⟨p3, k3, rfl, _, _⟩ := Ho3.out.shape
  go_wp2_with fail
  refine (l7Span_any P r n _ D _ Ho3.out.ints Hl3.out HD3.out Hp.out (by omega) (by omega)).mono ?_
  rintro e w4 ⟨m, M, q, hred, hm, v, rfl, ho4, hb4⟩
  obtain ⟨L, hL⟩ : ∃ L, L = flatM m n M := ⟨_, rfl⟩
  rw [← hL] at ho4 ⊢
  have HL := Lib.hid hL
  have Ho4 := Lib.hid ho4
  have hs4 := hb4.size
  have HZ4 := Lib.hid (blk_later HZ3.out hb4)
  have Hc4 := Lib.hid (Hc3.out.below hb4)
  have Hf4 := Lib.hid (Hf3.out.trans (Frm.of_below hb4 _ _))
  have Hred := Lib.hid hred
  obtain ⟨p4, k4, rfl, _, _⟩ := ho4.shape
  clear hL ho4 hb4 hred
  obtain ⟨n0, n1, n2, n3, nf', nz⟩ := blk4 HZ4.out
  go_wp2_with fail
  obtain ⟨f0, f1, f2, f3, ff, fz⟩ := blk4 (set4_all HZ4.out (.int .i64 P) (.int .i64 m) (.int .i64 n) (.slice p4 L.length k4))
  refine bodyPost_ret (v := .agg #[.int .i64 P, .int .i64 m, .int .i64 n, .slice p4 L.length k4]) (by simp [results, Try.results30, go_sem, f0, f1, f2, f3, fz]) rfl ⟨m, _, L, rfl, ?_, ?_, ?_, ?_⟩
  · exact (own_set4 Ho4.out (.inl (by omega)) _ _ _ _).mono (by omega) (by simp only [size_setCell]; omega)
  · rw [HL.out]; exact Hred.out.isSp Hp.out h1 hn
  · exact Hc4.out.keepB (below_set4 (Below.refl w.heap.size w4) (Nat.le_refl _) _ _ _ _) hk
  · exact Hf4.out.thenB (below_set4 (Below.refl w.heap.size w4) (Nat.le_refl _) _ _ _ _) (Nat.le_refl _)

theorem set4_other {w : World} {b b' : Nat} {o : Obj} (h : w.heap[b]? = some o) (hne : b ≠ b') (x0 x1 x2 x3 : Value) : ((((w.setCell ⟨b', 0, none⟩ x0).setCell ⟨b', 1, none⟩ x1).setCell ⟨b', 2, none⟩ x2).setCell ⟨b', 3, none⟩ x3).heap[b]? = some o := by
  rw [heap_set4 hne]; exact h

set_option maxRecDepth 100000 in
set_option maxHeartbeats 4000000 in
theorem DrawTwoSpaces_any (v : Value) (l : Nat) (w : World) (h : Byts w v l) :
    Calls Try.prog 7 #[v] w fun e w' =>
      ∃ (P : Int) (c ra rb : Nat) (ua ub : Value) (DA DB : List Int), e = .returned (.tuple #[.agg #[.int .i64 P, .int .i64 (ra : Int), .int .i64 (c : Int), ua], .agg #[.int .i64 P, .int .i64 (rb : Int), .int .i64 (c : Int), ub]]) ∧
        OwnI 3 w' w.heap.size w'.heap.size ua DA ∧ OwnI 3 w' w.heap.size w'.heap.size ub DB ∧ IsSp P ra c DA ∧ IsSp P rb c DB ∧ Below w.heap.size w w' := by
  have Hc := Lib.hid (h.below (below_alloc2 w (.cells #[.int .i64 0, .int .i64 0, .int .i64 0, .slice none 0 0] 26) (.cells #[.int .i64 0, .int .i64 0, .int .i64 0, .slice none 0 0] 26)))
  obtain ⟨z0, z1⟩ := boxes_ab w (.cells #[.int .i64 0, .int .i64 0, .int .i64 0, .slice none 0 0] 26) (.cells #[.int .i64 0, .int .i64 0, .int .i64 0, .slice none 0 0] 26)
  have HA1 := Lib.hid z0
  have HB1 := Lib.hid z1
  have Hb1 := Lib.hid (below_alloc2 w (.cells #[.int .i64 0, .int .i64 0, .int .i64 0, .slice none 0 0] 26) (.cells #[.int .i64 0, .int .i64 0, .int .i64 0, .slice none 0 0] 26))
  have hs1 : ((w.alloc (.cells #[.int .i64 0, .int .i64 0, .int .i64 0, .slice none 0 0] 26)).alloc (.cells #[.int .i64 0, .int .i64 0, .int .i64 0, .slice none 0 0] 26)).heap.size = w.heap.size + 1 + 1 := by simp
  obtain ⟨_, _, cap, rfl, _⟩ := h
  clear z0 z1
  go_enter Try.func7, Try.ntmps7
  go_wp2_with fail
  generalize (w.alloc (.cells #[.int .i64 0, .int .i64 0, .int .i64 0, .slice none 0 0] 26)).alloc (.cells #[.int .i64 0, .int .i64 0, .int .i64 0, .slice none 0 0] 26) = w1 at *
  refine (l1New_any _ l _ Hc.out).mono ?_
  rintro e w2 ⟨rfl, hc2, hb2⟩
  rw [hs1] at hc2 ⊢
  have HA2 := Lib.hid (blk_later HA1.out hb2)
  have HB2 := Lib.hid (blk_later HB1.out hb2)
  have Hb2 := Lib.hid (Hb1.out.trans (hb2.mono (by omega)))
  have hs2 := hb2.size
  have hk2 := hc2.lt
  have Hc2 := Lib.hid hc2
  clear hc2 hb2 HA1 HB1 Hc
  go_wp2_with fail
  refine (dPrime_any (w.heap.size + 1 + 1) _ Hc2.out).mono ?_
  rintro e w3 ⟨P, rfl, hp, hc3, hf3⟩
  have Hp := Lib.hid hp
  have Hc3 := Lib.hid hc3
  have HA3 := Lib.hid ((hf3.block w.heap.size (by omega) (Or.inl (by omega))).trans HA2.out)
  have HB3 := Lib.hid ((hf3.block (w.heap.size + 1) (by omega) (Or.inl (by omega))).trans HB2.out)
  have Hb3 := Lib.hid (Hb2.out.trans (hf3.below (B := w.heap.size) (by omega) (by omega)))
  have hs3 := hf3.size
  clear hp hc3 hf3
  go_wp2_with fail
  refine (l1Below_any (w.heap.size + 1 + 1) 5 _ Hc3.out (by omega) (by omega)).mono ?_
  rintro e w4 ⟨m, rfl, hm, hc4, hf4⟩
  have Hc4 := Lib.hid hc4
  have HA4 := Lib.hid ((hf4.block w.heap.size (by omega) (Or.inl (by omega))).trans HA3.out)
  have HB4 := Lib.hid ((hf4.block (w.heap.size + 1) (by omega) (Or.inl (by omega))).trans HB3.out)
  have Hb4 := Lib.hid (Hb3.out.trans (hf4.below (B := w.heap.size) (by omega) (by omega)))
  have hs4 := hf4.size
  have hmm : 1 + (m : Int) = ((m + 1 : Nat) : Int) := by omega
  obtain ⟨n, hn⟩ : ∃ n, n = m + 1 := ⟨_, rfl⟩
  rw [← hn] at hmm
  have Hmm := Lib.hid hmm
  have hn1 : 1 ≤ n := by omega
  have hn5 : n ≤ 5 := by omega
  clear hn
  clear hc4 hf4 hmm
  go_wp2_with fail
  rw [Hmm.out]
  refine (dSpace_any (w.heap.size + 1 + 1) P n _ Hc4.out Hp.out (by omega) (by omega)).mono ?_
  rintro e w5 ⟨ra, ua, DA, rfl, hoA, hsA, hc5, hf5⟩
  have HsA := Lib.hid hsA
  have HoA := Lib.hid hoA
  have Hc5 := Lib.hid hc5
  have HA5 := Lib.hid ((hf5.block w.heap.size (by omega) (Or.inl (by omega))).trans HA4.out)
  have HB5 := Lib.hid ((hf5.block (w.heap.size + 1) (by omega) (Or.inl (by omega))).trans HB4.out)
  have Hb5 := Lib.hid (Hb4.out.trans (hf5.below (B := w.heap.size) (by omega) (by omega)))
  have hs5 := hf5.size
  obtain ⟨pa, ka, rfl, _, _⟩ := hoA.shape
  clear hsA hoA hc5 hf5
  go_wp2_with fail
  refine (dSpace_any (w.heap.size + 1 + 1) P n _ Hc5.out Hp.out (by omega) (by omega)).mono ?_
  rintro e w6 ⟨rb, ub, DB, rfl, hoB, hsB, hc6, hf6⟩
  have HsB := Lib.hid hsB
  have HoB := Lib.hid hoB
  have HoA6 := Lib.hid (HoA.out.frm hf6 (Or.inr (by omega)))
  have HA6 := Lib.hid ((hf6.block w.heap.size (by omega) (Or.inl (by omega))).trans HA5.out)
  have HB6 := Lib.hid ((hf6.block (w.heap.size + 1) (by omega) (Or.inl (by omega))).trans HB5.out)
  have Hb6 := Lib.hid (Hb5.out.trans (hf6.below (B := w.heap.size) (by omega) (by omega)))
  have hs6 := hf6.size
  obtain ⟨pb, kb, rfl, _, _⟩ := hoB.shape
  clear hsB hoB hc6 hf6
  obtain ⟨m0, m1, m2, m3, mf', mz⟩ := blk4 HA6.out
  obtain ⟨n0, n1, n2, n3, nf', nz⟩ := blk4 HB6.out
  have hy1 := set4_all HA6.out (.int .i64 P) (.int .i64 ra) (.int .i64 n) (.slice pa DA.length ka)
  have hy2 := set4_other HB6.out (show w.heap.size + 1 ≠ w.heap.size by omega) (.int .i64 P) (.int .i64 ra) (.int .i64 n) (.slice pa DA.length ka)
  have Hy1 := Lib.hid hy1
  have Hy2 := Lib.hid hy2
  clear hy1 hy2
  go_wp2_with fail
  obtain ⟨f0, f1, f2, f3, ff, fz⟩ := blk4 (set4_other Hy1.out (show w.heap.size ≠ w.heap.size + 1 by omega) (.int .i64 P) (.int .i64 rb) (.int .i64 n) (.slice pb DB.length kb))
  obtain ⟨g0, g1, g2, g3, gf, gz⟩ := blk4 (set4_all Hy2.out (.int .i64 P) (.int .i64 rb) (.int .i64 n) (.slice pb DB.length kb))
  refine bodyPost_ret (v := .tuple #[.agg #[.int .i64 P, .int .i64 ra, .int .i64 n, .slice pa DA.length ka], .agg #[.int .i64 P, .int .i64 rb, .int .i64 n, .slice pb DB.length kb]]) (by simp [results, Try.results7, go_sem, f0, f1, f2, f3, fz, g0, g1, g2, g3, gz]) rfl ⟨P, n, ra, rb, _, _, DA, DB, rfl, ?_, ?_, HsA.out, HsB.out, ?_⟩
  · exact (own_set4 (own_set4 HoA6.out (.inl (by omega)) _ _ _ _) (.inl (by omega)) _ _ _ _).mono (by omega) (by simp only [size_setCell]; omega)
  · exact (own_set4 (own_set4 HoB.out (.inl (by omega)) _ _ _ _) (.inl (by omega)) _ _ _ _).mono (by omega) (by simp only [size_setCell]; omega)
  · exact below_set4 (below_set4 Hb6.out (Nat.le_refl _) _ _ _ _) (by omega) _ _ _ _

end Go.Proofs.Ytmnlpkmnbjoicaa
