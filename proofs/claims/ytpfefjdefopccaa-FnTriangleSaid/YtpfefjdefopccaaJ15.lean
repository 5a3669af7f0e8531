/-
  The draws: a flag, walked.
  The draws: a space, two spaces.
  The draws: three flags, and one more.
-/
import Derived.Test.YtpfefjdefopccaaJ10
import Derived.Test.YtpfefjdefopccaaJ4
import Derived.Test.YtpfefjdefopccaaJ8
namespace Go.Proofs.Ytpfefjdefopccaa
set_option linter.all false
open Go.RowKit

theorem flS_call {w : World} {k : Nat} {P : Int} {n N bA bL bH gl kl gh kh la : Nat} {vA : Value} {DA : List Int} {W w' : World} {c : Prop} (h : c ∧ Hid (FlS w k P n N bA bL bH gl kl gh kh la vA DA W)) (hn : FlN w k n N bA bL bH gl gh la) (hf : Frm k (k + 1) W w') (hc : Cur w' k) : Hid (FlS w k P n N bA bL bH gl kl gh kh la vA DA w') := h.2.out.frm hn hf hc
theorem specMul2 (P : Int) (n : Nat) (da db : Value) (DA DB D : List Int) (w : World) (he : mulMx ⟨P, n, n, DA⟩ ⟨P, n, n, DB⟩ = ⟨P, n, n, D⟩) (ha : Ints w da DA) (hb : Ints w db DB) :
    Calls Try.prog 35 #[.agg #[.int .i64 P, .int .i64 (n : Int), .int .i64 (n : Int), da], .agg #[.int .i64 P, .int .i64 (n : Int), .int .i64 (n : Int), db]] w fun e w' =>
      ∃ (pd : Option Addr) (kd : Nat) (b : Bool), e = .returned (.tuple #[.agg #[.int .i64 P, .int .i64 (n : Int), .int .i64 (n : Int), .slice pd D.length kd], .bool b]) ∧ OwnI 3 w' w.heap.size w'.heap.size (.slice pd D.length kd) D ∧ Below w.heap.size w w' :=
  (specMul_any ⟨P, n, n, DA⟩ ⟨P, n, n, DB⟩ da db w ha hb).mono fun e w' h => by
    rw [he] at h
    obtain ⟨u, h1, h2, h3⟩ := h
    obtain ⟨pd, kd, rfl, _, _⟩ := h2.shape
    exact ⟨pd, kd, _, h1, h2, h3⟩
theorem idx_facts {K i N : Nat} (h : K + i < N) (hN : N ≤ 1000000) : Hid (wrap64 ((K : Int) + (i : Int)) = (K : Int) + (i : Int)) ∧ Hid (IntKind.i64.wrap ((K : Int) + (i : Int)) = (K : Int) + (i : Int)) ∧ (0 : Int) ≤ (K : Int) + i ∧ (K : Int) + i < (N : Int) ∧ ((K : Int) + (i : Int)).toNat = K + i := by
  have h0 : -1000000000000000000 ≤ (K : Int) + (i : Int) := by omega
  have h1 : (K : Int) + (i : Int) ≤ 1000000000000000000 := by omega
  exact ⟨w64 h0 h1, k64 h0 h1, by omega, by omega, by omega⟩
theorem wrap_1x {x p : Nat} (h : x < p - 1) (hp : p ≤ 256) : IntKind.i64.wrap (1 + (x : Int)) = 1 + (x : Int) := k64 (by omega) (by omega)
theorem bound_one {x p : Nat} (h : x < p - 1) (hp : p ≤ 256) : 0 ≤ IntKind.i64.wrap (1 + (x : Int)) ∧ IntKind.i64.wrap (1 + (x : Int)) < (p : Int) := by rw [wrap_1x h hp]; omega
theorem bound_two {x p : Nat} (h : x < p - 1) (hp : p ≤ 256) : (1 : Int) ≤ IntKind.i64.wrap (1 + (x : Int)) := by rw [wrap_1x h hp]; omega
theorem bound_x {x p : Nat} (h : x < p) : 0 ≤ (x : Int) ∧ (x : Int) < (p : Int) := by omega
theorem mul_row {i n N j : Nat} (hN : N = n * n) (hb : N ≤ 1000000) (hi : i < n) (hj : j < n) : ∃ K, Hid (K = i * n) ∧ Hid (wrap64 ((i : Int) * (n : Int)) = (K : Int)) ∧ Hid (IntKind.i64.wrap ((i : Int) * (n : Int)) = (K : Int)) ∧ K + j < N := by
  have h := flat_ltW (C := n) hi hj
  rw [← hN] at h
  obtain ⟨K, hK, h1, h2⟩ := mul_named i n (by omega)
  exact ⟨K, hK, h1, h2, by omega⟩
theorem FlS.drew {w : World} {k : Nat} {P : Int} {n N bA bL bH gl kl gh kh la : Nat} {vA : Value} {DA : List Int} {wr : World} (h : FlS w k P n N bA bL bH gl kl gh kh la vA DA wr) (hn : FlN w k n N bA bL bH gl gh la) : FlS w k P n N bA bL bH gl kl gh kh la vA DA wr.drew := h.drewN hn 1
theorem flS_holdL {w : World} {k : Nat} {P : Int} {n N bA bL bH gl kl gh kh la : Nat} {vA : Value} {DA : List Int} {W : World} (h : FlS w k P n N bA bL bH gl kl gh kh la vA DA W) : W.cell? ⟨bL, 3, none⟩ = some (.slice (some ⟨gl, 0, none⟩) N kl) ∧ Hid (FlS w k P n N bA bL bH gl kl gh kh la vA DA W) := ⟨(blk4 h.l).2.2.2.1, h⟩
theorem flS_holdH {w : World} {k : Nat} {P : Int} {n N bA bL bH gl kl gh kh la : Nat} {vA : Value} {DA : List Int} {W : World} (h : FlS w k P n N bA bL bH gl kl gh kh la vA DA W) : W.cell? ⟨bH, 3, none⟩ = some (.slice (some ⟨gh, 0, none⟩) N kh) ∧ Hid (FlS w k P n N bA bL bH gl kl gh kh la vA DA W) := ⟨(blk4 h.h).2.2.2.1, h⟩
theorem flS_cur {w : World} {k : Nat} {P : Int} {n N bA bL bH gl kl gh kh la : Nat} {vA : Value} {DA : List Int} {W : World} {c : Prop} (h : c ∧ Hid (FlS w k P n N bA bL bH gl kl gh kh la vA DA W)) : Cur W k := h.2.out.cur

set_option maxRecDepth 100000 in
set_option maxHeartbeats 8000000 in
/-- a flag -/
theorem dFlag_nat (k n p : Nat) (w : World) (h : Cur w k) (hp : primeOk (p : Int) = true) (h1 : 1 ≤ n) (h5 : n ≤ 5) :
    Calls Try.prog 16 #[.pointer (some ⟨k, 0, none⟩), .int .i64 (p : Int), .int .i64 (n : Int)] w fun e w' =>
      ∃ (pd : Option Addr) (kd : Nat) (D : List Int), e = .returned (.agg #[.int .i64 (p : Int), .int .i64 (n : Int), .int .i64 (n : Int), .slice pd D.length kd]) ∧ OwnI 3 w' w.heap.size w'.heap.size (.slice pd D.length kd) D ∧ IsFl p n n D ∧ Cur w' k ∧ Frm k (k + 1) w w' := by
  obtain ⟨hP2, hP7⟩ := primeOk_range hp
  have Hp := Lib.hid hp
  have Hp2 := Lib.hid (show IntKind.i64.wrap ((p : Int) - 1) = ((p - 1 : Nat) : Int) by rw [k64 (by omega) (by omega)]; omega)
  have Hp3 := Lib.hid (show IntKind.i64.wrap ((p - 1 : Nat) : Int) = ((p - 1 : Nat) : Int) from k64 (by omega) (by omega))
  have hk := h.lt
  have z0 := heap_alloc_top w (.cells #[.int .i64 0, .int .i64 0, .int .i64 0, .slice none 0 0] 26)
  have Hc1 := Lib.hid (h.below (below_alloc w (.cells #[.int .i64 0, .int .i64 0, .int .i64 0, .slice none 0 0] 26)))
  have Z1 := Lib.hid z0
  have Hf1 := Lib.hid (Frm.of_below (below_alloc w (.cells #[.int .i64 0, .int .i64 0, .int .i64 0, .slice none 0 0] 26)) k (k + 1))
  have hs1 : (w.alloc (.cells #[.int .i64 0, .int .i64 0, .int .i64 0, .slice none 0 0] 26)).heap.size = w.heap.size + 1 := size_alloc _ _
  obtain ⟨N, hN⟩ : ∃ N, N = n * n := ⟨_, rfl⟩
  have HN := Lib.hid hN
  have hN1 : 1 ≤ N := by rw [hN]; exact Nat.mul_pos h1 h1
  have hN25 : N ≤ 25 := by rw [hN]; exact Nat.mul_le_mul h5 h5
  clear h z0 hp hN
  go_enter Try.func16, Try.ntmps16
  go_wp2_with fail
  generalize w.alloc (.cells #[.int .i64 0, .int .i64 0, .int .i64 0, .slice none 0 0] 26) = w1 at *
  refine (dPerm_any k n _ Hc1.out h1 h5).mono ?_
  rintro e w2 ⟨u, xs, rfl, hox, hpx, hlx, hc2, hf2⟩
  have Z2 := Lib.hid ((hf2.block w.heap.size (by omega) (Or.inr (by omega))).trans Z1.out)
  have Hf2 := Lib.hid (Hf1.out.trans hf2)
  have Hc2 := Lib.hid hc2
  have Hox := Lib.hid hox.ints
  have Hpx := Lib.hid hpx
  have Hlx := Lib.hid hlx
  have hs2 := hf2.size
  obtain ⟨px, kx, rfl, _, _⟩ := hox.shape
  rw [hlx] at Hox ⊢
  clear hox hpx hlx hc2 hf2 Z1 Hf1 Hc1
  go_wp2_with fail
  refine (l7Perm_any (p : Int) _ xs _ Hox.out Hpx.out).mono ?_
  rintro e w3 ⟨u, rfl, hoA, hb3⟩
  rw [Hlx.out]
  have hnA : (permRows xs).flatten.length = N := by rw [permRows_flat_length, Hlx.out, HN.out]
  obtain ⟨pA, kA, rfl, _, _⟩ := hoA.shape
  rw [hnA] at hoA ⊢
  have HoA := Lib.hid hoA
  have Z3 := Lib.hid (blk_later Z2.out hb3)
  have Hc3 := Lib.hid (Hc2.out.below hb3)
  have Hf3 := Lib.hid (Hf2.out.thenB hb3 (by omega))
  have hs3 := hb3.size
  clear hnA hoA hb3 Z2 Hf2 Hc2
  go_wp2_with fail

  refine (specIdentity_any n _ h1 (by omega)).mono ?_
  rintro e w4 ⟨u, rfl, hoi, hb4⟩
  have bl4 : Below w3.heap.size w3 w4 := (below_alloc w3 (.cells #[.int .i64 (p : Int), .int .i64 (n : Int), .int .i64 (n : Int), .slice pA N kA] 26)).trans (hb4.mono (by simp))
  have hs4 : w3.heap.size + 1 ≤ w4.heap.size := by have := hb4.size; rwa [size_alloc] at this
  have Z4 := Lib.hid (blk_later Z3.out bl4)
  have BA4 := Lib.hid ((hb4.block _ (by simp)).trans (heap_alloc_top w3 (.cells #[.int .i64 (p : Int), .int .i64 (n : Int), .int .i64 (n : Int), .slice pA N kA] 26)))
  have Hc4 := Lib.hid (Hc3.out.below bl4)
  have Hf4 := Lib.hid (Hf3.out.thenB bl4 (by omega))
  have HoA4 := Lib.hid (HoA.out.below bl4)
  have Hoi := Lib.hid hoi.ints
  obtain ⟨pi, ki, rfl, _, _⟩ := hoi.shape
  rw [idL_length] at Hoi ⊢
  clear hoi hb4 bl4
  go_wp2_with fail
  refine (l7Perm_any (p : Int) _ (idL n) _ Hoi.out (idL_ok h1 (by omega))).mono ?_
  rintro e w5 ⟨u, rfl, hoL, hb5⟩
  rw [idL_length]
  have hnL : (permRows (idL n)).flatten.length = N := by rw [permRows_flat_length, idL_length, HN.out]
  obtain ⟨pL, kL, rfl, _, _⟩ := hoL.shape
  rw [hnL] at hoL ⊢
  have hof := hoL.fn
  rw [hnL] at hof
  obtain ⟨gL, rfl, hgL1, hgL2, _⟩ := hof.at_ (by omega)
  have HoL5 := Lib.hid (hoL.widen (lo := gL) (hi := gL + 1) fun b hb => by simp [Value.ownBlock] at hb; omega)
  have hs5 := hb5.size
  have Z5 := Lib.hid (blk_later Z4.out hb5)
  have Hc5 := Lib.hid (Hc4.out.below hb5)
  have Hf5 := Lib.hid (Hf4.out.thenB hb5 (by omega))
  have BA5 := Lib.hid (blk_later BA4.out hb5)
  have HoA5 := Lib.hid (HoA4.out.below hb5)
  clear hof hnL hoL hb5
  go_wp2_with fail
  refine (specIdentity_any n _ h1 (by omega)).mono ?_
  rintro e w6 ⟨u, rfl, hoi, hb6⟩
  have bl6 : Below w5.heap.size w5 w6 := (below_alloc w5 (.cells #[.int .i64 (p : Int), .int .i64 (n : Int), .int .i64 (n : Int), .slice (some ⟨gL, 0, none⟩) N kL] 26)).trans (hb6.mono (by simp))
  have hs6 : w5.heap.size + 1 ≤ w6.heap.size := by have := hb6.size; rwa [size_alloc] at this
  have Z6 := Lib.hid (blk_later Z5.out bl6)
  have BL6 := Lib.hid ((hb6.block _ (by simp)).trans (heap_alloc_top w5 (.cells #[.int .i64 (p : Int), .int .i64 (n : Int), .int .i64 (n : Int), .slice (some ⟨gL, 0, none⟩) N kL] 26)))
  have Hc6 := Lib.hid (Hc5.out.below bl6)
  have Hf6 := Lib.hid (Hf5.out.thenB bl6 (by omega))
  have HoA6 := Lib.hid (HoA5.out.below bl6)
  have HoL6 := Lib.hid (HoL5.out.below bl6)
  have BA6 := Lib.hid (blk_later BA5.out bl6)
  have Hoi := Lib.hid hoi.ints
  obtain ⟨pi, ki, rfl, _, _⟩ := hoi.shape
  rw [idL_length] at Hoi ⊢
  clear hoi hb6 bl6
  go_wp2_with fail
  refine (l7Perm_any (p : Int) _ (idL n) _ Hoi.out (idL_ok h1 (by omega))).mono ?_
  rintro e w7 ⟨u, rfl, hoH, hb7⟩
  rw [idL_length]
  have hnH : (permRows (idL n)).flatten.length = N := by rw [permRows_flat_length, idL_length, HN.out]
  obtain ⟨pH, kH, rfl, _, _⟩ := hoH.shape
  rw [hnH] at hoH ⊢
  have hof := hoH.fn
  rw [hnH] at hof
  obtain ⟨gH, rfl, hgH1, hgH2, _⟩ := hof.at_ (by omega)
  have HoH7 := Lib.hid (hoH.widen (lo := gH) (hi := gH + 1) fun b hb => by simp [Value.ownBlock] at hb; omega)
  have hs7 := hb7.size
  have Z7 := Lib.hid (blk_later Z6.out hb7)
  have Hc7 := Lib.hid (Hc6.out.below hb7)
  have Hf7 := Lib.hid (Hf6.out.thenB hb7 (by omega))
  have BA7 := Lib.hid (blk_later BA6.out hb7)
  have BL7 := Lib.hid (blk_later BL6.out hb7)
  have HoA7 := Lib.hid (HoA6.out.below hb7)
  have HoL7 := Lib.hid (HoL6.out.below hb7)
  clear hof hnH hoH hb7
  go_wp2_with fail
  have hNN : FlN w k n N w3.heap.size w5.heap.size w7.heap.size gL gH w2.heap.size := ⟨hk, by omega, by omega, by omega, by omega, by omega, by omega, HN.out⟩
  have hFl : FlS w k (p : Int) n N w3.heap.size w5.heap.size w7.heap.size gL kL gH kH w2.heap.size (.slice pA N kA) (permRows xs).flatten (w7.alloc (.cells #[.int .i64 (p : Int), .int .i64 (n : Int), .int .i64 (n : Int), .slice (some ⟨gH, 0, none⟩) N kH] 26)) := by
    have hb := below_alloc w7 (.cells #[.int .i64 (p : Int), .int .i64 (n : Int), .int .i64 (n : Int), .slice (some ⟨gH, 0, none⟩) N kH] 26)
    refine ⟨blk_later Z7.out hb, blk_later BA7.out hb, blk_later BL7.out hb, heap_alloc_top _ _, HoA7.out.below hb, ⟨_, id_low hP2, HoL7.out.below hb⟩, ⟨_, id_high hP2, HoH7.out.below hb⟩, Hc7.out.below hb, Hf7.out.thenB hb (by omega)⟩
  have HNN := Lib.hid hNN
  have HF8 := Lib.hid hFl
  have HQ1 := Lib.hid (show 1 ≤ p - 1 by omega)
  have HQ2 := Lib.hid (show p - 1 ≤ 256 by omega)
  have HQ3 := Lib.hid (show 1 ≤ p by omega)
  have HQ4 := Lib.hid (show p ≤ 256 by omega)
  have HCur := Lib.hid (fun (c : Prop) (W : World) (h : c ∧ Hid (FlS w k (p : Int) n N w3.heap.size w5.heap.size w7.heap.size gL kL gH kH w2.heap.size (.slice pA N kA) (permRows xs).flatten W)) => flS_cur h)
  have HCall := Lib.hid (fun (c : Prop) (W w' : World) (h : c ∧ Hid (FlS w k (p : Int) n N w3.heap.size w5.heap.size w7.heap.size gL kL gH kH w2.heap.size (.slice pA N kA) (permRows xs).flatten W)) (hf : Frm k (k + 1) W w') (hc : Cur w' k) => flS_call h hNN hf hc)
  have hp1 : (p : Int) - 1 = ((p - 1 : Nat) : Int) := by omega
  have Hp1 := Lib.hid hp1
  clear hNN hFl hp1
  clear Z3 Z4 Z5 Z6 Z7 Hc3 Hc4 Hc5 Hc6 Hc7 Hf3 Hf4 Hf5 Hf6 Hf7 BA4 BA5 BA6 BA7 BL6 BL7 HoA HoA4 HoA5 HoA6 HoA7 HoL5 HoL6 HoL7 HoH7 Hoi Hox
  go_loopg [10] n (fun g s10 wr => ∃ i : Nat, i ≤ n ∧ g = n - i ∧ s10 = .int .i64 i ∧ Hid (FlS w k (p : Int) n N w3.heap.size w5.heap.size w7.heap.size gL kL gH kH w2.heap.size (.slice pA N kA) (permRows xs).flatten wr))
  case atStart => exact ⟨0, Nat.zero_le _, rfl, rfl, HF8.out⟩
  case round =>
    obtain ⟨i, hi, rfl, rfl, hF⟩ := hrel
    by_cases hlt : i < n
    · have hlt2 : (i : Int) < (n : Int) := by omega
      have HF := Lib.hid hF.out
      clear hF
      obtain ⟨K, HK, Hkr, Hkk, hKl⟩ := mul_row HN.out (by omega) hlt hlt
      obtain ⟨Hs1, Hs2, hi0, hi1, hi2⟩ := idx_facts hKl (by omega)
      go_wp2_with fail
      have hkr := Hkr.out
      have hkk := Hkk.out
      have hs1' := Hs1.out
      have hs2' := Hs2.out
      go_region_held3 (fun w' => w'.cell? ⟨w5.heap.size, 3, none⟩ = some (.slice (some ⟨gL, 0, none⟩) N kL) ∧ Hid (FlS w k (p : Int) n N w3.heap.size w5.heap.size w7.heap.size gL kL gH kH w2.heap.size (.slice pA N kA) (permRows xs).flatten w'))
          (first | exact flS_holdL (HF.out.drew HNN.out) | exact flS_holdL hF1.out | exact flS_holdL (hF1.out.setL HNN.out (show K + i = i * n + i by rw [HK.out]) hlt (Nat.le_refl _) hx1 (fun _ => hx2)))
          (first
            | (go_at_call 15; (first | rw [Hp2.out] | rw [Hp3.out] | rw [Hp1.out]); refine (l1Below_any k (p - 1) _ (HCur.out _ _ (by assumption)) HQ1.out HQ2.out).mono ?_; rintro e w' ⟨x, rfl, hx, hc1, hf1⟩; have hF1 := HCall.out _ _ _ (by assumption) hf1 hc1; obtain ⟨z, hz⟩ := hF1.out.cellL HNN.out (show K + i < N by exact hKl); have hzf := hF1.out.frzL (K + i); have cB := (flS_holdL hF1.out).1; have hx1 := bound_one hx HQ4.out; have hx2 := bound_two hx HQ4.out))
      all_goals clear hkr hkk hs1' hs2'
      have HF7 := Lib.hid (hF1.out.setL HNN.out (show K + i = i * n + i by rw [HK.out]) hlt (Nat.le_refl _) hx1 (fun _ => hx2))
      clear hF1 hz hzf cB hx1 hx2 hc1 hf1 hi0 hi1 hi2
      generalize World.setCell _ _ _ = wy at *
      go_wp2_with fail
      go_loopg [11] i (fun g s11 wr => ∃ j : Nat, j ≤ i ∧ g = i - j ∧ s11 = .int .i64 j ∧ Hid (FlS w k (p : Int) n N w3.heap.size w5.heap.size w7.heap.size gL kL gH kH w2.heap.size (.slice pA N kA) (permRows xs).flatten wr))
      case atStart => exact ⟨0, Nat.zero_le _, rfl, rfl, HF7.out⟩
      case round =>
        obtain ⟨j, hj, rfl, rfl, hF⟩ := hrel
        have HF := Lib.hid hF.out
        clear hF
        by_cases hjl : j < i
        · have hjl2 : (j : Int) < (i : Int) := by omega
          have hjn : j < n := by omega
          obtain ⟨Ka, HKa, Hkra, Hkka, hKal⟩ := mul_row HN.out (by omega) hlt hjn
          obtain ⟨Ha1, Ha2, ha0, ha1, ha2⟩ := idx_facts hKal (by omega)
          obtain ⟨Kb, HKb, Hkrb, Hkkb, hKbl⟩ := mul_row HN.out (by omega) hjn hlt
          obtain ⟨Hb1, Hb2, hb0, hb1', hb2⟩ := idx_facts hKbl (by omega)
          go_wp2_with fail
          have ka1 := Hkra.out
          have ka2 := Hkka.out
          have ka3 := Ha1.out
          have ka4 := Ha2.out
          go_region_held3 (fun w' => w'.cell? ⟨w5.heap.size, 3, none⟩ = some (.slice (some ⟨gL, 0, none⟩) N kL) ∧ Hid (FlS w k (p : Int) n N w3.heap.size w5.heap.size w7.heap.size gL kL gH kH w2.heap.size (.slice pA N kA) (permRows xs).flatten w'))
          (first | exact flS_holdL (HF.out.drew HNN.out) | exact flS_holdL hF1.out | exact flS_holdL (hF1.out.setL HNN.out (show Ka + j = i * n + j by rw [HKa.out]) hlt (Nat.le_of_lt hjl) hx1 (fun e => absurd e (Nat.ne_of_lt hjl))))
          (first
            | (go_at_call 15; skip; refine (l1Below_any k p _ (HCur.out _ _ (by assumption)) HQ3.out HQ4.out).mono ?_; rintro e w' ⟨x, rfl, hx, hc1, hf1⟩; have hF1 := HCall.out _ _ _ (by assumption) hf1 hc1; obtain ⟨z, hz⟩ := hF1.out.cellL HNN.out (show Ka + j < N by exact hKal); have hzf := hF1.out.frzL (Ka + j); have cB := (flS_holdL hF1.out).1; have hx1 := bound_x hx))
          all_goals clear ka1 ka2 ka3 ka4
          have HF8 := Lib.hid (hF1.out.setL HNN.out (show Ka + j = i * n + j by rw [HKa.out]) hlt (Nat.le_of_lt hjl) hx1 (fun e => absurd e (Nat.ne_of_lt hjl)))
          clear hF1 hz hzf cB hx1 hc1 hf1 HF
          have HF := HF8
          clear HF8
          generalize World.setCell _ _ _ = wy2 at *
          go_wp2_with fail
          have kb1 := Hkrb.out
          have kb2 := Hkkb.out
          have kb3 := Hb1.out
          have kb4 := Hb2.out
          go_region_held3 (fun w' => w'.cell? ⟨w7.heap.size, 3, none⟩ = some (.slice (some ⟨gH, 0, none⟩) N kH) ∧ Hid (FlS w k (p : Int) n N w3.heap.size w5.heap.size w7.heap.size gL kL gH kH w2.heap.size (.slice pA N kA) (permRows xs).flatten w'))
          (first | exact flS_holdH (HF.out.drew HNN.out) | exact flS_holdH hF1.out | exact flS_holdH (hF1.out.setH HNN.out (show Kb + i = j * n + i by rw [HKb.out]) hlt hjl hx1))
          (first
            | (go_at_call 15; skip; refine (l1Below_any k p _ (HCur.out _ _ (by assumption)) HQ3.out HQ4.out).mono ?_; rintro e w' ⟨x, rfl, hx, hc1, hf1⟩; have hF1 := HCall.out _ _ _ (by assumption) hf1 hc1; obtain ⟨z, hz⟩ := hF1.out.cellH HNN.out (show Kb + i < N by exact hKbl); have hzf := hF1.out.frzH (Kb + i); have cB := (flS_holdH hF1.out).1; have hx1 := bound_x hx))
          all_goals clear kb1 kb2 kb3 kb4
          have HF9 := Lib.hid (hF1.out.setH HNN.out (show Kb + i = j * n + i by rw [HKb.out]) hlt hjl hx1)
          clear hF1 hz hzf cB hx1 hc1 hf1 ha0 ha1 ha2 hb0 hb1' hb2
          generalize World.setCell _ _ _ = wy3 at *
          go_wp2_with fail
          go_roundg (i - (j + 1))
          case measure => omega
          case rel => exact ⟨j + 1, by omega, rfl, by go_num, HF9.out⟩
        · obtain rfl : j = i := by omega
          have hjl2 : ¬ (j : Int) < (j : Int) := by omega
          go_wp2_with fail
          go_roundg (n - (j + 1))
          case measure => omega
          case rel => exact ⟨j + 1, by omega, rfl, by go_num, HF.out⟩
    · obtain rfl : i = n := by omega
      have hlt2 : ¬ (i : Int) < (i : Int) := by omega
      obtain ⟨zz, aa, ll, hh, oa, ⟨DL, fl1, fl2⟩, ⟨DH, fh1, fh2⟩, cu, fr⟩ := hF.out
      obtain ⟨DX, DY, e1, e2, hfl⟩ := draw_flag Hp.out h1 (by omega) fl1 fh1 Hpx.out Hlx.out
      have Ia := Lib.hid oa.ints
      have Il := Lib.hid fl2.ints
      have Ih := Lib.hid fh2.ints
      have Zz := Lib.hid zz
      have Za := Lib.hid aa
      have Zl := Lib.hid ll
      have Zh := Lib.hid hh
      have Cu := Lib.hid cu
      have Fr := Lib.hid fr
      have E1 := Lib.hid e1
      have E2 := Lib.hid e2
      have Hfl := Lib.hid hfl
      have hsr := fr.size
      have hz := blk_lt zz
      obtain ⟨a0, a1, a2, a3, af, az⟩ := blk4 aa
      obtain ⟨l0, l1, l2, l3, lf, lz⟩ := blk4 ll
      clear hF zz aa ll hh oa fl1 fl2 fh1 fh2 cu fr e1 e2 hfl
      go_wp2_with fail
      refine (specMul2 (p : Int) i _ _ DL (permRows xs).flatten DX _ E1.out Il.out Ia.out).mono ?_
      rintro e wx ⟨pX, kX, b1, rfl, ho1, hb1⟩
      have Ix := Lib.hid ho1.ints
      have Ih1 := Lib.hid (Ih.out.below hb1)
      have Zz1 := Lib.hid (blk_later Zz.out hb1)
      have Zh1 := Lib.hid (blk_later Zh.out hb1)
      have Cu1 := Lib.hid (Cu.out.below hb1)
      have Fr1 := Lib.hid (Fr.out.thenB hb1 hsr)
      have hs1' := hb1.size
      clear ho1 hb1 a0 a1 a2 a3 af az l0 l1 l2 l3 lf lz
      obtain ⟨q0, q1, q2, q3, qf, qz⟩ := blk4 Zh1.out
      go_wp2_with fail
      refine (specMul2 (p : Int) i _ _ DX DH DY _ E2.out (Ix.out.below (below_alloc wx _)) (Ih1.out.below (below_alloc wx _))).mono ?_
      rintro e wy ⟨pY, kY, b2, rfl, ho2, hb2⟩
      have bl2 : Below wx.heap.size wx wy := (below_alloc wx _).trans (hb2.mono (by simp))
      have Iy := Lib.hid (ho2.mono (lo' := wx.heap.size) (by rw [size_alloc]; omega) (Nat.le_refl _))
      have Zz2 := Lib.hid (blk_later Zz1.out bl2)
      have Cu2 := Lib.hid (Cu1.out.below bl2)
      have Fr2 := Lib.hid (Fr1.out.thenB bl2 (by omega))
      have hs2' := bl2.size
      have hs3' := hb2.size
      rw [size_alloc] at hs3'
      clear ho2 hb2 bl2 q0 q1 q2 q3 qf qz
      have hby := below_alloc wy (.cells #[.int .i64 (p : Int), .int .i64 (i : Int), .int .i64 (i : Int), .slice pY DY.length kY] 26)
      have Iy3 := Lib.hid (Iy.out.below hby)
      have Zz3 := Lib.hid (blk_later Zz2.out hby)
      have Cu3 := Lib.hid (Cu2.out.below hby)
      have Fr3 := Lib.hid (Fr2.out.thenB hby (by omega))
      have hs4' := hby.size
      obtain ⟨t0, t1, t2, t3, tf, tz⟩ := blk4 (heap_alloc_top wy (.cells #[.int .i64 (p : Int), .int .i64 (i : Int), .int .i64 (i : Int), .slice pY DY.length kY] 26))
      obtain ⟨z0, z1, z2, z3, zf, zz⟩ := blk4 Zz3.out
      clear hby
      go_wp2_with fail
      obtain ⟨f0, f1, f2, f3, ff, fz⟩ := blk4 (set4_all Zz3.out (.int .i64 (p : Int)) (.int .i64 (i : Int)) (.int .i64 (i : Int)) (.slice pY DY.length kY))
      refine bodyPost_ret (v := .agg #[.int .i64 (p : Int), .int .i64 (i : Int), .int .i64 (i : Int), .slice pY DY.length kY]) (by simp [results, Try.results16, go_sem, f0, f1, f2, f3, fz]) rfl ⟨pY, kY, DY, rfl, ?_, Hfl.out, ?_, ?_⟩
      · exact (own_set4 Iy3.out (.inl (by omega)) _ _ _ _).mono (by omega) (by simp only [size_setCell]; omega)
      · exact Cu3.out.keepB (below_set4 (Below.refl w.heap.size _) (Nat.le_refl _) _ _ _ _) hk
      · exact Fr3.out.thenB (below_set4 (Below.refl w.heap.size _) (Nat.le_refl _) _ _ _ _) (Nat.le_refl _)
theorem dFlag_any (k n : Nat) (P : Int) (w : World) (h : Cur w k) (hp : primeOk P = true) (h1 : 1 ≤ n) (h5 : n ≤ 5) :
    Calls Try.prog 16 #[.pointer (some ⟨k, 0, none⟩), .int .i64 P, .int .i64 (n : Int)] w fun e w' =>
      ∃ (pd : Option Addr) (kd : Nat) (D : List Int), e = .returned (.agg #[.int .i64 P, .int .i64 (n : Int), .int .i64 (n : Int), .slice pd D.length kd]) ∧ OwnI 3 w' w.heap.size w'.heap.size (.slice pd D.length kd) D ∧ IsFl P n n D ∧ Cur w' k ∧ Frm k (k + 1) w w' := by
  obtain ⟨hP2, _⟩ := primeOk_range hp
  obtain ⟨p, rfl⟩ := Int.eq_ofNat_of_zero_le (show 0 ≤ P by omega)
  exact dFlag_nat k n p w h hp h1 h5

end Go.Proofs.Ytpfefjdefopccaa

namespace Go.Proofs.Ytpfefjdefopccaa
set_option linter.all false
open Go.RowKit

theorem set4_other {w : World} {b b' : Nat} {o : Obj} (h : w.heap[b]? = some o) (hne : b ≠ b') (x0 x1 x2 x3 : Value) : ((((w.setCell ⟨b', 0, none⟩ x0).setCell ⟨b', 1, none⟩ x1).setCell ⟨b', 2, none⟩ x2).setCell ⟨b', 3, none⟩ x3).heap[b]? = some o := by
  rw [heap_set4 hne]; exact h

end Go.Proofs.Ytpfefjdefopccaa

namespace Go.Proofs.Ytpfefjdefopccaa
set_option linter.all false
open Go.RowKit

/-- the cells of four results, and the cursor -/
structure R4 (w : World) (k : Nat) (W : World) : Prop where
  z0 : ∃ y0 y1 y2 y3, W.heap[w.heap.size]? = some (.cells #[y0, y1, y2, y3] 26 (0, 0))
  z1 : ∃ y0 y1 y2 y3, W.heap[w.heap.size + 1]? = some (.cells #[y0, y1, y2, y3] 26 (0, 0))
  z2 : ∃ y0 y1 y2 y3, W.heap[w.heap.size + 2]? = some (.cells #[y0, y1, y2, y3] 26 (0, 0))
  z3 : ∃ y0 y1 y2 y3, W.heap[w.heap.size + 3]? = some (.cells #[y0, y1, y2, y3] 26 (0, 0))
  cu : Cur W k
  kk : w.heap.size + 3 < k
  be : Below w.heap.size w W
theorem R4.frm {w W W' : World} {k : Nat} (h : R4 w k W) (hf : Frm k (k + 1) W W') (hc : Cur W' k) : R4 w k W' := by
  obtain ⟨⟨a0, a1, a2, a3, a⟩, ⟨b0, b1, b2, b3, b⟩, ⟨c0, c1, c2, c3, c⟩, ⟨d0, d1, d2, d3, d⟩, cu, kk, be⟩ := h
  exact ⟨⟨a0, a1, a2, a3, (hf.block _ (blk_lt a) (Or.inl (by omega))).trans a⟩, ⟨b0, b1, b2, b3, (hf.block _ (blk_lt b) (Or.inl (by omega))).trans b⟩, ⟨c0, c1, c2, c3, (hf.block _ (blk_lt c) (Or.inl (by omega))).trans c⟩, ⟨d0, d1, d2, d3, (hf.block _ (blk_lt d) (Or.inl (by omega))).trans d⟩, hc, kk, be.trans (hf.below (by omega) be.size)⟩
theorem R4.below {w W W' : World} {k : Nat} (h : R4 w k W) (hb : Below W.heap.size W W') : R4 w k W' := h.frm (Frm.of_below hb _ _) (h.cu.below hb)

/-- two boxes -/
structure Q2 (bA bB : Nat) (P : Int) (n : Nat) (vA vB : Value) (W : World) : Prop where
  a : W.heap[bA]? = some (.cells #[.int .i64 P, .int .i64 (n : Int), .int .i64 (n : Int), vA] 26 (0, 0))
  b : W.heap[bB]? = some (.cells #[.int .i64 P, .int .i64 (n : Int), .int .i64 (n : Int), vB] 26 (0, 0))
theorem Q2.frm {bA bB n k : Nat} {P : Int} {vA vB : Value} {W W' : World} (h : Q2 bA bB P n vA vB W) (hf : Frm k (k + 1) W W') (ha : k < bA) (hb : k < bB) : Q2 bA bB P n vA vB W' :=
  ⟨(hf.block _ (blk_lt h.a) (Or.inr (by omega))).trans h.a, (hf.block _ (blk_lt h.b) (Or.inr (by omega))).trans h.b⟩
theorem Q2.set {bA bB n r : Nat} {P : Int} {vA vB : Value} {W : World} (h : Q2 bA bB P n vA vB W) (ha : bA ≠ r) (hb : bB ≠ r) (x0 x1 x2 x3 : Value) : Q2 bA bB P n vA vB ((((W.setCell ⟨r, 0, none⟩ x0).setCell ⟨r, 1, none⟩ x1).setCell ⟨r, 2, none⟩ x2).setCell ⟨r, 3, none⟩ x3) :=
  ⟨set4_other h.a ha _ _ _ _, set4_other h.b hb _ _ _ _⟩
theorem Q2.drew {bA bB n : Nat} {P : Int} {vA vB : Value} {W : World} (h : Q2 bA bB P n vA vB W) : Q2 bA bB P n vA vB W.drew := ⟨h.a, h.b⟩
theorem Q2.hold {bA bB n : Nat} {P : Int} {vA vB : Value} {W : World} (h : Q2 bA bB P n vA vB W) :
    (W.cell? ⟨bA, 0, none⟩ = some (.int .i64 P) ∧ W.cell? ⟨bA, 1, none⟩ = some (.int .i64 (n : Int)) ∧ W.cell? ⟨bA, 2, none⟩ = some (.int .i64 (n : Int)) ∧ W.cell? ⟨bA, 3, none⟩ = some vA ∧ W.cell? ⟨bB, 0, none⟩ = some (.int .i64 P) ∧ W.cell? ⟨bB, 1, none⟩ = some (.int .i64 (n : Int)) ∧ W.cell? ⟨bB, 2, none⟩ = some (.int .i64 (n : Int)) ∧ W.cell? ⟨bB, 3, none⟩ = some vB) := by
  obtain ⟨a0, a1, a2, a3, _, _⟩ := blk4 h.a
  obtain ⟨b0, b1, b2, b3, _, _⟩ := blk4 h.b
  exact ⟨a0, a1, a2, a3, b0, b1, b2, b3⟩

theorem R4.set4' {w W : World} {k r : Nat} (h : R4 w k W) (hr : k < r) (x0 x1 x2 x3 : Value) : R4 w k (((((W).setCell ⟨r, 0, none⟩ (x0)).setCell ⟨r, 1, none⟩ (x1)).setCell ⟨r, 2, none⟩ (x2)).setCell ⟨r, 3, none⟩ (x3)) := by
  obtain ⟨⟨a0, a1, a2, a3, a⟩, ⟨b0, b1, b2, b3, b⟩, ⟨c0, c1, c2, c3, c⟩, ⟨d0, d1, d2, d3, d⟩, cu, kk, be⟩ := h
  exact ⟨⟨a0, a1, a2, a3, set4_other a (by omega) _ _ _ _⟩, ⟨b0, b1, b2, b3, set4_other b (by omega) _ _ _ _⟩, ⟨c0, c1, c2, c3, set4_other c (by omega) _ _ _ _⟩, ⟨d0, d1, d2, d3, set4_other d (by omega) _ _ _ _⟩, cu.keepB (below_set4 (Below.refl r W) (Nat.le_refl _) _ _ _ _) hr, kk, below_set4 be (by omega) _ _ _ _⟩
theorem R4.fin {w W : World} {k : Nat} (h : R4 w k W) (x0 x1 x2 x3 y0 y1 y2 y3 z0 z1 z2 z3 u0 u1 u2 u3 : Value) :
    (((((((((((((((((W).setCell ⟨w.heap.size, 0, none⟩ (x0)).setCell ⟨w.heap.size, 1, none⟩ (x1)).setCell ⟨w.heap.size, 2, none⟩ (x2)).setCell ⟨w.heap.size, 3, none⟩ (x3)).setCell ⟨w.heap.size + 1, 0, none⟩ (y0)).setCell ⟨w.heap.size + 1, 1, none⟩ (y1)).setCell ⟨w.heap.size + 1, 2, none⟩ (y2)).setCell ⟨w.heap.size + 1, 3, none⟩ (y3)).setCell ⟨w.heap.size + 1 + 1, 0, none⟩ (z0)).setCell ⟨w.heap.size + 1 + 1, 1, none⟩ (z1)).setCell ⟨w.heap.size + 1 + 1, 2, none⟩ (z2)).setCell ⟨w.heap.size + 1 + 1, 3, none⟩ (z3)).setCell ⟨w.heap.size + 1 + 1 + 1, 0, none⟩ (u0)).setCell ⟨w.heap.size + 1 + 1 + 1, 1, none⟩ (u1)).setCell ⟨w.heap.size + 1 + 1 + 1, 2, none⟩ (u2)).setCell ⟨w.heap.size + 1 + 1 + 1, 3, none⟩ (u3)).heap[w.heap.size]? = some (.cells #[x0, x1, x2, x3] 26 (0, 0)) ∧
    (((((((((((((((((W).setCell ⟨w.heap.size, 0, none⟩ (x0)).setCell ⟨w.heap.size, 1, none⟩ (x1)).setCell ⟨w.heap.size, 2, none⟩ (x2)).setCell ⟨w.heap.size, 3, none⟩ (x3)).setCell ⟨w.heap.size + 1, 0, none⟩ (y0)).setCell ⟨w.heap.size + 1, 1, none⟩ (y1)).setCell ⟨w.heap.size + 1, 2, none⟩ (y2)).setCell ⟨w.heap.size + 1, 3, none⟩ (y3)).setCell ⟨w.heap.size + 1 + 1, 0, none⟩ (z0)).setCell ⟨w.heap.size + 1 + 1, 1, none⟩ (z1)).setCell ⟨w.heap.size + 1 + 1, 2, none⟩ (z2)).setCell ⟨w.heap.size + 1 + 1, 3, none⟩ (z3)).setCell ⟨w.heap.size + 1 + 1 + 1, 0, none⟩ (u0)).setCell ⟨w.heap.size + 1 + 1 + 1, 1, none⟩ (u1)).setCell ⟨w.heap.size + 1 + 1 + 1, 2, none⟩ (u2)).setCell ⟨w.heap.size + 1 + 1 + 1, 3, none⟩ (u3)).heap[w.heap.size + 1]? = some (.cells #[y0, y1, y2, y3] 26 (0, 0)) ∧
    (((((((((((((((((W).setCell ⟨w.heap.size, 0, none⟩ (x0)).setCell ⟨w.heap.size, 1, none⟩ (x1)).setCell ⟨w.heap.size, 2, none⟩ (x2)).setCell ⟨w.heap.size, 3, none⟩ (x3)).setCell ⟨w.heap.size + 1, 0, none⟩ (y0)).setCell ⟨w.heap.size + 1, 1, none⟩ (y1)).setCell ⟨w.heap.size + 1, 2, none⟩ (y2)).setCell ⟨w.heap.size + 1, 3, none⟩ (y3)).setCell ⟨w.heap.size + 1 + 1, 0, none⟩ (z0)).setCell ⟨w.heap.size + 1 + 1, 1, none⟩ (z1)).setCell ⟨w.heap.size + 1 + 1, 2, none⟩ (z2)).setCell ⟨w.heap.size + 1 + 1, 3, none⟩ (z3)).setCell ⟨w.heap.size + 1 + 1 + 1, 0, none⟩ (u0)).setCell ⟨w.heap.size + 1 + 1 + 1, 1, none⟩ (u1)).setCell ⟨w.heap.size + 1 + 1 + 1, 2, none⟩ (u2)).setCell ⟨w.heap.size + 1 + 1 + 1, 3, none⟩ (u3)).heap[w.heap.size + 1 + 1]? = some (.cells #[z0, z1, z2, z3] 26 (0, 0)) ∧
    (((((((((((((((((W).setCell ⟨w.heap.size, 0, none⟩ (x0)).setCell ⟨w.heap.size, 1, none⟩ (x1)).setCell ⟨w.heap.size, 2, none⟩ (x2)).setCell ⟨w.heap.size, 3, none⟩ (x3)).setCell ⟨w.heap.size + 1, 0, none⟩ (y0)).setCell ⟨w.heap.size + 1, 1, none⟩ (y1)).setCell ⟨w.heap.size + 1, 2, none⟩ (y2)).setCell ⟨w.heap.size + 1, 3, none⟩ (y3)).setCell ⟨w.heap.size + 1 + 1, 0, none⟩ (z0)).setCell ⟨w.heap.size + 1 + 1, 1, none⟩ (z1)).setCell ⟨w.heap.size + 1 + 1, 2, none⟩ (z2)).setCell ⟨w.heap.size + 1 + 1, 3, none⟩ (z3)).setCell ⟨w.heap.size + 1 + 1 + 1, 0, none⟩ (u0)).setCell ⟨w.heap.size + 1 + 1 + 1, 1, none⟩ (u1)).setCell ⟨w.heap.size + 1 + 1 + 1, 2, none⟩ (u2)).setCell ⟨w.heap.size + 1 + 1 + 1, 3, none⟩ (u3)).heap[w.heap.size + 1 + 1 + 1]? = some (.cells #[u0, u1, u2, u3] 26 (0, 0)) ∧
    Below w.heap.size w (((((((((((((((((W).setCell ⟨w.heap.size, 0, none⟩ (x0)).setCell ⟨w.heap.size, 1, none⟩ (x1)).setCell ⟨w.heap.size, 2, none⟩ (x2)).setCell ⟨w.heap.size, 3, none⟩ (x3)).setCell ⟨w.heap.size + 1, 0, none⟩ (y0)).setCell ⟨w.heap.size + 1, 1, none⟩ (y1)).setCell ⟨w.heap.size + 1, 2, none⟩ (y2)).setCell ⟨w.heap.size + 1, 3, none⟩ (y3)).setCell ⟨w.heap.size + 1 + 1, 0, none⟩ (z0)).setCell ⟨w.heap.size + 1 + 1, 1, none⟩ (z1)).setCell ⟨w.heap.size + 1 + 1, 2, none⟩ (z2)).setCell ⟨w.heap.size + 1 + 1, 3, none⟩ (z3)).setCell ⟨w.heap.size + 1 + 1 + 1, 0, none⟩ (u0)).setCell ⟨w.heap.size + 1 + 1 + 1, 1, none⟩ (u1)).setCell ⟨w.heap.size + 1 + 1 + 1, 2, none⟩ (u2)).setCell ⟨w.heap.size + 1 + 1 + 1, 3, none⟩ (u3)) := by
  obtain ⟨⟨a0, a1, a2, a3, a⟩, ⟨b0, b1, b2, b3, b⟩, ⟨c0, c1, c2, c3, c⟩, ⟨d0, d1, d2, d3, d⟩, cu, kk, be⟩ := h
  have n1 : w.heap.size ≠ w.heap.size + 1 := by omega
  have n2 : w.heap.size ≠ w.heap.size + 1 + 1 := by omega
  have n3 : w.heap.size ≠ w.heap.size + 1 + 1 + 1 := by omega
  have n4 : w.heap.size + 1 ≠ w.heap.size + 1 + 1 := by omega
  have n5 : w.heap.size + 1 ≠ w.heap.size + 1 + 1 + 1 := by omega
  have n6 : w.heap.size + 1 + 1 ≠ w.heap.size + 1 + 1 + 1 := by omega
  refine ⟨?_, ?_, ?_, ?_, ?_⟩
  · exact set4_other (set4_other (set4_other (set4_all a _ _ _ _) n1 _ _ _ _) n2 _ _ _ _) n3 _ _ _ _
  · exact set4_other (set4_other (set4_all (set4_other b n1.symm _ _ _ _) _ _ _ _) n4 _ _ _ _) n5 _ _ _ _
  · exact set4_other (set4_all (set4_other (set4_other (show W.heap[w.heap.size + 1 + 1]? = _ from c) n2.symm _ _ _ _) n4.symm _ _ _ _) _ _ _ _) n6 _ _ _ _
  · exact set4_all (set4_other (set4_other (set4_other (show W.heap[w.heap.size + 1 + 1 + 1]? = _ from d) n3.symm _ _ _ _) n5.symm _ _ _ _) n6.symm _ _ _ _) _ _ _ _
  · exact below_set4 (below_set4 (below_set4 (below_set4 be (Nat.le_refl _) _ _ _ _) (by omega) _ _ _ _) (by omega) _ _ _ _) (by omega) _ _ _ _
theorem ints_set16 {T : TypeId} {r : Nat} {W : World} {lo hi : Nat} {v : Value} {xs : List Int} (h : OwnI T W lo hi v xs) (hr : r + 4 ≤ lo) (x0 x1 x2 x3 y0 y1 y2 y3 z0 z1 z2 z3 u0 u1 u2 u3 : Value) : Ints (((((((((((((((((W).setCell ⟨r, 0, none⟩ (x0)).setCell ⟨r, 1, none⟩ (x1)).setCell ⟨r, 2, none⟩ (x2)).setCell ⟨r, 3, none⟩ (x3)).setCell ⟨r + 1, 0, none⟩ (y0)).setCell ⟨r + 1, 1, none⟩ (y1)).setCell ⟨r + 1, 2, none⟩ (y2)).setCell ⟨r + 1, 3, none⟩ (y3)).setCell ⟨r + 1 + 1, 0, none⟩ (z0)).setCell ⟨r + 1 + 1, 1, none⟩ (z1)).setCell ⟨r + 1 + 1, 2, none⟩ (z2)).setCell ⟨r + 1 + 1, 3, none⟩ (z3)).setCell ⟨r + 1 + 1 + 1, 0, none⟩ (u0)).setCell ⟨r + 1 + 1 + 1, 1, none⟩ (u1)).setCell ⟨r + 1 + 1 + 1, 2, none⟩ (u2)).setCell ⟨r + 1 + 1 + 1, 3, none⟩ (u3)) v xs :=
  (own_set4 (own_set4 (own_set4 (own_set4 h (Or.inl (by omega)) _ _ _ _) (Or.inl (by omega)) _ _ _ _) (Or.inl (by omega)) _ _ _ _) (Or.inl (by omega)) _ _ _ _).ints

set_option maxRecDepth 100000 in
set_option maxHeartbeats 8000000 in
theorem DrawThreeFlags_any (v : Value) (l : Nat) (w : World) (h : Byts w v l) :
    Calls Try.prog 5 #[v] w fun e w' =>
      ∃ (P : Int) (n : Nat) (ua ub uc ug : Value) (DA DB DC DG : List Int), e = .returned (.tuple #[.agg #[.int .i64 P, .int .i64 (n : Int), .int .i64 (n : Int), ua], .agg #[.int .i64 P, .int .i64 (n : Int), .int .i64 (n : Int), ub], .agg #[.int .i64 P, .int .i64 (n : Int), .int .i64 (n : Int), uc], .agg #[.int .i64 P, .int .i64 (n : Int), .int .i64 (n : Int), ug]]) ∧
        n ≤ 5 ∧ (Ints w' ua DA ∧ IsFl P n n DA) ∧ (Ints w' ub DB ∧ IsFl P n n DB) ∧ (Ints w' uc DC ∧ IsFl P n n DC) ∧ (Ints w' ug DG ∧ IsFl P n n DG) ∧ Below w.heap.size w w' := by
  have hs1 : ((((w.alloc (.cells #[.int .i64 0, .int .i64 0, .int .i64 0, .slice none 0 0] 26)).alloc (.cells #[.int .i64 0, .int .i64 0, .int .i64 0, .slice none 0 0] 26)).alloc (.cells #[.int .i64 0, .int .i64 0, .int .i64 0, .slice none 0 0] 26)).alloc (.cells #[.int .i64 0, .int .i64 0, .int .i64 0, .slice none 0 0] 26)).heap.size = w.heap.size + 4 := by simp
  have hb4 : Below w.heap.size w ((((w.alloc (.cells #[.int .i64 0, .int .i64 0, .int .i64 0, .slice none 0 0] 26)).alloc (.cells #[.int .i64 0, .int .i64 0, .int .i64 0, .slice none 0 0] 26)).alloc (.cells #[.int .i64 0, .int .i64 0, .int .i64 0, .slice none 0 0] 26)).alloc (.cells #[.int .i64 0, .int .i64 0, .int .i64 0, .slice none 0 0] 26)) := (below_alloc3 w (.cells #[.int .i64 0, .int .i64 0, .int .i64 0, .slice none 0 0] 26) (.cells #[.int .i64 0, .int .i64 0, .int .i64 0, .slice none 0 0] 26) (.cells #[.int .i64 0, .int .i64 0, .int .i64 0, .slice none 0 0] 26)).alloc (by simp; omega) _
  obtain ⟨z0, z1, z2⟩ := boxes_abz w (.cells #[.int .i64 0, .int .i64 0, .int .i64 0, .slice none 0 0] 26) (.cells #[.int .i64 0, .int .i64 0, .int .i64 0, .slice none 0 0] 26) (.cells #[.int .i64 0, .int .i64 0, .int .i64 0, .slice none 0 0] 26)
  have y0 : ((((w.alloc (.cells #[.int .i64 0, .int .i64 0, .int .i64 0, .slice none 0 0] 26)).alloc (.cells #[.int .i64 0, .int .i64 0, .int .i64 0, .slice none 0 0] 26)).alloc (.cells #[.int .i64 0, .int .i64 0, .int .i64 0, .slice none 0 0] 26)).alloc (.cells #[.int .i64 0, .int .i64 0, .int .i64 0, .slice none 0 0] 26)).heap[w.heap.size]? = some (.cells #[.int .i64 0, .int .i64 0, .int .i64 0, .slice none 0 0] 26) := (heap_alloc_low _ _ (by simp; omega)).trans z0
  have y1 : ((((w.alloc (.cells #[.int .i64 0, .int .i64 0, .int .i64 0, .slice none 0 0] 26)).alloc (.cells #[.int .i64 0, .int .i64 0, .int .i64 0, .slice none 0 0] 26)).alloc (.cells #[.int .i64 0, .int .i64 0, .int .i64 0, .slice none 0 0] 26)).alloc (.cells #[.int .i64 0, .int .i64 0, .int .i64 0, .slice none 0 0] 26)).heap[w.heap.size + 1]? = some (.cells #[.int .i64 0, .int .i64 0, .int .i64 0, .slice none 0 0] 26) := (heap_alloc_low _ _ (by simp)).trans z1
  have y2 : ((((w.alloc (.cells #[.int .i64 0, .int .i64 0, .int .i64 0, .slice none 0 0] 26)).alloc (.cells #[.int .i64 0, .int .i64 0, .int .i64 0, .slice none 0 0] 26)).alloc (.cells #[.int .i64 0, .int .i64 0, .int .i64 0, .slice none 0 0] 26)).alloc (.cells #[.int .i64 0, .int .i64 0, .int .i64 0, .slice none 0 0] 26)).heap[w.heap.size + 2]? = some (.cells #[.int .i64 0, .int .i64 0, .int .i64 0, .slice none 0 0] 26) := (heap_alloc_low _ _ (by simp)).trans z2
  have y3 : ((((w.alloc (.cells #[.int .i64 0, .int .i64 0, .int .i64 0, .slice none 0 0] 26)).alloc (.cells #[.int .i64 0, .int .i64 0, .int .i64 0, .slice none 0 0] 26)).alloc (.cells #[.int .i64 0, .int .i64 0, .int .i64 0, .slice none 0 0] 26)).alloc (.cells #[.int .i64 0, .int .i64 0, .int .i64 0, .slice none 0 0] 26)).heap[w.heap.size + 3]? = some (.cells #[.int .i64 0, .int .i64 0, .int .i64 0, .slice none 0 0] 26) := heap_alloc_at _ _ (by simp)
  have Hh := Lib.hid (h.below hb4)
  have HB1 := Lib.hid hb4
  have Y0 := Lib.hid y0
  have Y1 := Lib.hid y1
  have Y2 := Lib.hid y2
  have Y3 := Lib.hid y3
  obtain ⟨_, _, cap, rfl, _⟩ := h
  clear z0 z1 z2 y0 y1 y2 y3 hb4
  go_enter Try.func5, Try.ntmps5
  go_wp2_with fail
  generalize (((w.alloc (.cells #[.int .i64 0, .int .i64 0, .int .i64 0, .slice none 0 0] 26)).alloc (.cells #[.int .i64 0, .int .i64 0, .int .i64 0, .slice none 0 0] 26)).alloc (.cells #[.int .i64 0, .int .i64 0, .int .i64 0, .slice none 0 0] 26)).alloc (.cells #[.int .i64 0, .int .i64 0, .int .i64 0, .slice none 0 0] 26) = w1 at *
  refine (l1New_any _ l _ Hh.out).mono ?_
  rintro e w2 ⟨rfl, hc2, hb2⟩
  rw [hs1] at hc2 ⊢
  have hR2 : R4 w (w.heap.size + 4) w2 := ⟨⟨_, _, _, _, blk_later Y0.out hb2⟩, ⟨_, _, _, _, blk_later Y1.out hb2⟩, ⟨_, _, _, _, blk_later Y2.out hb2⟩, ⟨_, _, _, _, blk_later Y3.out hb2⟩, hc2, by omega, HB1.out.trans (hb2.mono (by omega))⟩
  have HR2 := Lib.hid hR2
  have hk2 := hc2.lt
  clear hR2 hc2 hb2 Y0 Y1 Y2 Y3 HB1 Hh
  go_wp2_with fail
  refine (dPrime_any (w.heap.size + 4) _ HR2.out.cu).mono ?_
  rintro e w3 ⟨P, rfl, hp, hc3, hf3⟩
  have Hp := Lib.hid hp
  have HR3 := Lib.hid (HR2.out.frm hf3 hc3)
  have hs3 := hf3.size
  clear hp hc3 hf3
  go_wp2_with fail
  refine (l1Below_any (w.heap.size + 4) 5 _ HR3.out.cu (by omega) (by omega)).mono ?_
  rintro e w4 ⟨m, rfl, hm, hc4, hf4⟩
  have HR4 := Lib.hid (HR3.out.frm hf4 hc4)
  have hs4 := hf4.size
  have hmm : 1 + (m : Int) = ((m + 1 : Nat) : Int) := by omega
  obtain ⟨n, hn⟩ : ∃ n, n = m + 1 := ⟨_, rfl⟩
  rw [← hn] at hmm
  have Hmm := Lib.hid hmm
  have hn1 : 1 ≤ n := by omega
  have hn5 : n ≤ 5 := by omega
  clear hn hc4 hf4 hmm
  go_wp2_with fail
  rw [Hmm.out]
  refine (dFlag_any (w.heap.size + 4) n P _ HR4.out.cu Hp.out hn1 hn5).mono ?_
  rintro e w5 ⟨pA, kA, DA, rfl, hoA, hsA, hc5, hf5⟩
  have HoA := Lib.hid hoA
  have HsA := Lib.hid hsA
  have HR5 := Lib.hid (HR4.out.frm hf5 hc5)
  have hs5 := hf5.size
  clear hoA hsA hc5 hf5
  have hA := below_alloc w5 (.cells #[.int .i64 P, .int .i64 (n : Int), .int .i64 (n : Int), .slice pA DA.length kA] 26)
  have HA := Lib.hid hA
  clear hA
  go_wp2_with fail
  refine (dFlag_any (w.heap.size + 4) n P _ (HR5.out.below HA.out).cu Hp.out hn1 hn5).mono ?_
  rintro e w6 ⟨pB, kB, DB, rfl, hoB, hsB, hc6, hf6⟩
  have HoB := Lib.hid hoB
  have HsB := Lib.hid hsB
  have HR6 := Lib.hid ((HR5.out.below HA.out).frm hf6 hc6)
  have hs6 := hf6.size
  rw [size_alloc] at hs6
  have ZA6 := Lib.hid ((hf6.block w5.heap.size (by simp) (Or.inr (by omega))).trans (heap_alloc_top w5 (.cells #[.int .i64 P, .int .i64 (n : Int), .int .i64 (n : Int), .slice pA DA.length kA] 26)))
  have HoA6 := Lib.hid ((HoA.out.below HA.out).frm hf6 (Or.inr (by omega)))
  clear hoB hsB hc6 hf6
  have hB := below_alloc w6 (.cells #[.int .i64 P, .int .i64 (n : Int), .int .i64 (n : Int), .slice pB DB.length kB] 26)
  have HB := Lib.hid hB
  clear hB
  go_wp2_with fail
  refine (l1Once_any (w.heap.size + 4) 3 _ (HR6.out.below HB.out).cu (by omega) (by omega)).mono ?_
  rintro e w7 ⟨bo, rfl, hc7, hf7⟩
  have HR7 := Lib.hid ((HR6.out.below HB.out).frm hf7 hc7)
  have hs7 := hf7.size
  rw [size_alloc] at hs7
  have ZA7 := Lib.hid ((hf7.block w5.heap.size (by simp; omega) (Or.inr (by omega))).trans (blk_later ZA6.out HB.out))
  have ZB7 := Lib.hid ((hf7.block w6.heap.size (by simp) (Or.inr (by omega))).trans (heap_alloc_top w6 (.cells #[.int .i64 P, .int .i64 (n : Int), .int .i64 (n : Int), .slice pB DB.length kB] 26)))
  have HoA7 := Lib.hid ((HoA6.out.below HB.out).frm hf7 (Or.inr (by omega)))
  have HoB7 := Lib.hid ((HoB.out.below HB.out).frm hf7 (Or.inr (by rw [size_alloc]; omega)))
  clear hc7 hf7
  cases bo with
  | false =>
    have HQ := Lib.hid (show Q2 w5.heap.size w6.heap.size P n (.slice pA DA.length kA) (.slice pB DB.length kB) w7 from ⟨ZA7.out, ZB7.out⟩)
    obtain ⟨a0, a1, a2, a3, af, az⟩ := blk4 ZA7.out
    obtain ⟨b0, b1, b2, b3, bf, bz⟩ := blk4 ZB7.out
    have nkA : w.heap.size + 4 < w5.heap.size := by omega
    have nkB : w.heap.size + 4 < w6.heap.size := by omega
    have na0 : w5.heap.size ≠ w.heap.size := by omega
    have nb0 : w6.heap.size ≠ w.heap.size := by omega
    have na1 : w5.heap.size ≠ w.heap.size + 1 := by omega
    have nb1 : w6.heap.size ≠ w.heap.size + 1 := by omega
    have na2 : w5.heap.size ≠ w.heap.size + 2 := by omega
    have nb2 : w6.heap.size ≠ w.heap.size + 2 := by omega
    have na3 : w5.heap.size ≠ w.heap.size + 3 := by omega
    have nb3 : w6.heap.size ≠ w.heap.size + 3 := by omega
    go_wp2_with fail
    go_region_held3 (fun w' => w'.cell? ⟨w5.heap.size, 0, none⟩ = some (.int .i64 P) ∧ w'.cell? ⟨w5.heap.size, 1, none⟩ = some (.int .i64 (n : Int)) ∧ w'.cell? ⟨w5.heap.size, 2, none⟩ = some (.int .i64 (n : Int)) ∧ w'.cell? ⟨w5.heap.size, 3, none⟩ = some (.slice pA DA.length kA) ∧ w'.cell? ⟨w6.heap.size, 0, none⟩ = some (.int .i64 P) ∧ w'.cell? ⟨w6.heap.size, 1, none⟩ = some (.int .i64 (n : Int)) ∧ w'.cell? ⟨w6.heap.size, 2, none⟩ = some (.int .i64 (n : Int)) ∧ w'.cell? ⟨w6.heap.size, 3, none⟩ = some (.slice pB DB.length kB))
      (first | with_reducible exact HQ.out.drew.hold | with_reducible exact HQ.out.hold | with_reducible exact hq2.hold | with_reducible exact hq1.hold | with_reducible exact (hq2.set na0 nb0 _ _ _ _).hold | with_reducible exact ((hq2.set na0 nb0 _ _ _ _).set na1 nb1 _ _ _ _).hold | with_reducible exact (((hq2.set na0 nb0 _ _ _ _).set na1 nb1 _ _ _ _).set na2 nb2 _ _ _ _).hold | with_reducible exact ((((hq2.set na0 nb0 _ _ _ _).set na1 nb1 _ _ _ _).set na2 nb2 _ _ _ _).set na3 nb3 _ _ _ _).hold | (trace_state; fail))
      (first
        | (go_at_call 16; refine (dFlag_any (w.heap.size + 4) n P _ (hR1.below (by first | exact Below.refl _ _ | exact (Below.refl _ _).drew)).cu Hp.out hn1 hn5).mono ?_; rintro e w' ⟨pG, kG, DG, rfl, hoG, hsG, hc1, hf1⟩; have hoC2 := (OwnI.below hoC (by first | exact Below.refl _ _ | exact (Below.refl _ _).drew)).frm hf1 (Or.inr (Nat.le_of_lt_succ (Nat.lt_succ_of_le hlC))); have hR2 := (hR1.below (by first | exact Below.refl _ _ | exact (Below.refl _ _).drew)).frm hf1 hc1; have hq2 := (hq1.frm (Frm.of_below (by first | exact Below.refl _ _ | exact (Below.refl _ _).drew) (w.heap.size + 4) ((w.heap.size + 4) + 1)) nkA nkB).frm hf1 nkA nkB; obtain ⟨s0, s1, s2, s3, hz0⟩ := hR2.z0; obtain ⟨t0, t1, t2, t3, hz1⟩ := hR2.z1; obtain ⟨u0, u1, u2, u3, hz2⟩ := hR2.z2; obtain ⟨v0, v1, v2, v3, hz3⟩ := hR2.z3; obtain ⟨f0, f1, f2, f3, f4, f5⟩ := blk4 hz0; obtain ⟨g0, g1, g2, g3, g4, g5⟩ := blk4 hz1; obtain ⟨i0, i1, i2, i3, i4, i5⟩ := blk4 hz2; obtain ⟨j0, j1, j2, j3, j4, j5⟩ := blk4 hz3)
        | (go_at_call 16; refine (dFlag_any (w.heap.size + 4) n P _ (HR7.out.below (by first | exact Below.refl _ _ | exact (Below.refl _ _).drew)).cu Hp.out hn1 hn5).mono ?_; rintro e w' ⟨pC, kC, DC, rfl, hoC, hsC, hc1, hf1⟩; have hlC : w.heap.size + 4 + 1 ≤ w7.heap.size := HR7.out.cu.lt; have hR1 := (HR7.out.below (by first | exact Below.refl _ _ | exact (Below.refl _ _).drew)).frm hf1 hc1; have hq1 := (HQ.out.frm (Frm.of_below (by first | exact Below.refl _ _ | exact (Below.refl _ _).drew) (w.heap.size + 4) ((w.heap.size + 4) + 1)) nkA nkB).frm hf1 nkA nkB; have hf7 := Lib.hid ((Frm.of_below (by first | exact Below.refl _ _ | exact (Below.refl _ _).drew) (w.heap.size + 4) ((w.heap.size + 4) + 1)).trans hf1); clear hf1))
    have q0 := ints_set16 (r := w.heap.size) (((HoA7.out.below (Below.refl _ _).drew).frm hf7.out (Or.inr (by omega))).frm hf1 (Or.inr (by omega))) (by omega) (.int .i64 P) (.int .i64 (n : Int)) (.int .i64 (n : Int)) (.slice pA DA.length kA) (.int .i64 P) (.int .i64 (n : Int)) (.int .i64 (n : Int)) (.slice pB DB.length kB) (.int .i64 P) (.int .i64 (n : Int)) (.int .i64 (n : Int)) (.slice pC DC.length kC) (.int .i64 P) (.int .i64 (n : Int)) (.int .i64 (n : Int)) (.slice pG DG.length kG)
    have q1 := ints_set16 (r := w.heap.size) (((HoB7.out.below (Below.refl _ _).drew).frm hf7.out (Or.inr (by rw [size_alloc]; omega))).frm hf1 (Or.inr (by rw [size_alloc]; omega))) (by rw [size_alloc]; omega) (.int .i64 P) (.int .i64 (n : Int)) (.int .i64 (n : Int)) (.slice pA DA.length kA) (.int .i64 P) (.int .i64 (n : Int)) (.int .i64 (n : Int)) (.slice pB DB.length kB) (.int .i64 P) (.int .i64 (n : Int)) (.int .i64 (n : Int)) (.slice pC DC.length kC) (.int .i64 P) (.int .i64 (n : Int)) (.int .i64 (n : Int)) (.slice pG DG.length kG)
    have q2 := ints_set16 (r := w.heap.size) hoC2 (by simp; omega) (.int .i64 P) (.int .i64 (n : Int)) (.int .i64 (n : Int)) (.slice pA DA.length kA) (.int .i64 P) (.int .i64 (n : Int)) (.int .i64 (n : Int)) (.slice pB DB.length kB) (.int .i64 P) (.int .i64 (n : Int)) (.int .i64 (n : Int)) (.slice pC DC.length kC) (.int .i64 P) (.int .i64 (n : Int)) (.int .i64 (n : Int)) (.slice pG DG.length kG)
    have q3 := ints_set16 (r := w.heap.size) hoG (by have h8 : w7.heap.size ≤ _ := hf7.out.size; omega) (.int .i64 P) (.int .i64 (n : Int)) (.int .i64 (n : Int)) (.slice pA DA.length kA) (.int .i64 P) (.int .i64 (n : Int)) (.int .i64 (n : Int)) (.slice pB DB.length kB) (.int .i64 P) (.int .i64 (n : Int)) (.int .i64 (n : Int)) (.slice pC DC.length kC) (.int .i64 P) (.int .i64 (n : Int)) (.int .i64 (n : Int)) (.slice pG DG.length kG)
    obtain ⟨r0, r1, r2, r3, r4⟩ := hR2.fin (.int .i64 P) (.int .i64 (n : Int)) (.int .i64 (n : Int)) (.slice pA DA.length kA) (.int .i64 P) (.int .i64 (n : Int)) (.int .i64 (n : Int)) (.slice pB DB.length kB) (.int .i64 P) (.int .i64 (n : Int)) (.int .i64 (n : Int)) (.slice pC DC.length kC) (.int .i64 P) (.int .i64 (n : Int)) (.int .i64 (n : Int)) (.slice pG DG.length kG)
    clear hoC hc1 hf1 hf7 hoG hoC2 hR2 hq2 hz0 hz1 hz2 hz3 f0 f1 f2 f3 f4 f5 g0 g1 g2 g3 g4 g5 i0 i1 i2 i3 i4 i5 j0 j1 j2 j3 j4 j5
    generalize ((((((((((((((((w').setCell ⟨w.heap.size, 0, none⟩ (.int .i64 P)).setCell ⟨w.heap.size, 1, none⟩ (.int .i64 (n : Int))).setCell ⟨w.heap.size, 2, none⟩ (.int .i64 (n : Int))).setCell ⟨w.heap.size, 3, none⟩ (.slice pA DA.length kA)).setCell ⟨w.heap.size + 1, 0, none⟩ (.int .i64 P)).setCell ⟨w.heap.size + 1, 1, none⟩ (.int .i64 (n : Int))).setCell ⟨w.heap.size + 1, 2, none⟩ (.int .i64 (n : Int))).setCell ⟨w.heap.size + 1, 3, none⟩ (.slice pB DB.length kB)).setCell ⟨w.heap.size + 1 + 1, 0, none⟩ (.int .i64 P)).setCell ⟨w.heap.size + 1 + 1, 1, none⟩ (.int .i64 (n : Int))).setCell ⟨w.heap.size + 1 + 1, 2, none⟩ (.int .i64 (n : Int))).setCell ⟨w.heap.size + 1 + 1, 3, none⟩ (.slice pC DC.length kC)).setCell ⟨w.heap.size + 1 + 1 + 1, 0, none⟩ (.int .i64 P)).setCell ⟨w.heap.size + 1 + 1 + 1, 1, none⟩ (.int .i64 (n : Int))).setCell ⟨w.heap.size + 1 + 1 + 1, 2, none⟩ (.int .i64 (n : Int))).setCell ⟨w.heap.size + 1 + 1 + 1, 3, none⟩ (.slice pG DG.length kG) = wz at q0 q1 q2 q3 r0 r1 r2 r3 r4 ⊢
    obtain ⟨c00, c01, c02, c03, c0f, c0z⟩ := blk4 r0
    obtain ⟨c10, c11, c12, c13, c1f, c1z⟩ := blk4 r1
    obtain ⟨c20, c21, c22, c23, c2f, c2z⟩ := blk4 r2
    obtain ⟨c30, c31, c32, c33, c3f, c3z⟩ := blk4 r3
    go_wp2_with fail
    refine bodyPost_ret (v := .tuple #[.agg #[.int .i64 P, .int .i64 (n : Int), .int .i64 (n : Int), .slice pA DA.length kA], .agg #[.int .i64 P, .int .i64 (n : Int), .int .i64 (n : Int), .slice pB DB.length kB], .agg #[.int .i64 P, .int .i64 (n : Int), .int .i64 (n : Int), .slice pC DC.length kC], .agg #[.int .i64 P, .int .i64 (n : Int), .int .i64 (n : Int), .slice pG DG.length kG]]) (by simp [results, Try.results5, go_sem, c00, c01, c02, c03, c0z, c10, c11, c12, c13, c1z, c20, c21, c22, c23, c2z, c30, c31, c32, c33, c3z]) rfl ⟨P, n, _, _, _, _, DA, DB, DC, DG, rfl, hn5, ⟨q0, HsA.out⟩, ⟨q1, HsB.out⟩, ⟨q2, hsC⟩, ⟨q3, hsG⟩, r4⟩
  | true =>
    obtain ⟨a0, a1, a2, a3, af, az⟩ := blk4 ZA7.out
    obtain ⟨b0, b1, b2, b3, bf, bz⟩ := blk4 ZB7.out
    have nkA : w.heap.size + 4 < w5.heap.size := by omega
    have nkB : w.heap.size + 4 < w6.heap.size := by omega
    have hab : w5.heap.size ≠ w6.heap.size := by omega
    have HR8 := Lib.hid (HR7.out.set4' nkB (.int .i64 P) (.int .i64 (n : Int)) (.int .i64 (n : Int)) (.slice pA DA.length kA))
    have ZA8 := Lib.hid (set4_other ZA7.out hab (.int .i64 P) (.int .i64 (n : Int)) (.int .i64 (n : Int)) (.slice pA DA.length kA))
    have ZB8 := Lib.hid (set4_all ZB7.out (.int .i64 P) (.int .i64 (n : Int)) (.int .i64 (n : Int)) (.slice pA DA.length kA))
    have HoA8 := Lib.hid (own_set4 HoA7.out (Or.inr (show w5.heap.size ≤ w6.heap.size by omega)) (.int .i64 P) (.int .i64 (n : Int)) (.int .i64 (n : Int)) (.slice pA DA.length kA))
    go_wp2_with fail
    have hz8 : (((((w7).setCell ⟨w6.heap.size, 0, none⟩ (.int .i64 P)).setCell ⟨w6.heap.size, 1, none⟩ (.int .i64 (n : Int))).setCell ⟨w6.heap.size, 2, none⟩ (.int .i64 (n : Int))).setCell ⟨w6.heap.size, 3, none⟩ (.slice pA DA.length kA)).heap.size = w7.heap.size := by simp
    generalize ((((w7).setCell ⟨w6.heap.size, 0, none⟩ (.int .i64 P)).setCell ⟨w6.heap.size, 1, none⟩ (.int .i64 (n : Int))).setCell ⟨w6.heap.size, 2, none⟩ (.int .i64 (n : Int))).setCell ⟨w6.heap.size, 3, none⟩ (.slice pA DA.length kA) = w8 at *
    rw [← hz8] at hs7
    clear ZA7 ZB7 HR7 HoA7 HoB7 a0 a1 a2 a3 af az b0 b1 b2 b3 bf bz hz8
    have HQ := Lib.hid (show Q2 w5.heap.size w6.heap.size P n (.slice pA DA.length kA) (.slice pA DA.length kA) w8 from ⟨ZA8.out, ZB8.out⟩)
    obtain ⟨a0, a1, a2, a3, af, az⟩ := blk4 ZA8.out
    obtain ⟨b0, b1, b2, b3, bf, bz⟩ := blk4 ZB8.out
    have na0 : w5.heap.size ≠ w.heap.size := by omega
    have nb0 : w6.heap.size ≠ w.heap.size := by omega
    have na1 : w5.heap.size ≠ w.heap.size + 1 := by omega
    have nb1 : w6.heap.size ≠ w.heap.size + 1 := by omega
    have na2 : w5.heap.size ≠ w.heap.size + 2 := by omega
    have nb2 : w6.heap.size ≠ w.heap.size + 2 := by omega
    have na3 : w5.heap.size ≠ w.heap.size + 3 := by omega
    have nb3 : w6.heap.size ≠ w.heap.size + 3 := by omega
    go_region_held3 (fun w' => w'.cell? ⟨w5.heap.size, 0, none⟩ = some (.int .i64 P) ∧ w'.cell? ⟨w5.heap.size, 1, none⟩ = some (.int .i64 (n : Int)) ∧ w'.cell? ⟨w5.heap.size, 2, none⟩ = some (.int .i64 (n : Int)) ∧ w'.cell? ⟨w5.heap.size, 3, none⟩ = some (.slice pA DA.length kA) ∧ w'.cell? ⟨w6.heap.size, 0, none⟩ = some (.int .i64 P) ∧ w'.cell? ⟨w6.heap.size, 1, none⟩ = some (.int .i64 (n : Int)) ∧ w'.cell? ⟨w6.heap.size, 2, none⟩ = some (.int .i64 (n : Int)) ∧ w'.cell? ⟨w6.heap.size, 3, none⟩ = some (.slice pA DA.length kA))
      (first | with_reducible exact HQ.out.drew.hold | with_reducible exact HQ.out.hold | with_reducible exact hq2.hold | with_reducible exact hq1.hold | with_reducible exact (hq2.set na0 nb0 _ _ _ _).hold | with_reducible exact ((hq2.set na0 nb0 _ _ _ _).set na1 nb1 _ _ _ _).hold | with_reducible exact (((hq2.set na0 nb0 _ _ _ _).set na1 nb1 _ _ _ _).set na2 nb2 _ _ _ _).hold | with_reducible exact ((((hq2.set na0 nb0 _ _ _ _).set na1 nb1 _ _ _ _).set na2 nb2 _ _ _ _).set na3 nb3 _ _ _ _).hold | (trace_state; fail))
      (first
        | (go_at_call 16; refine (dFlag_any (w.heap.size + 4) n P _ (hR1.below (by first | exact Below.refl _ _ | exact (Below.refl _ _).drew)).cu Hp.out hn1 hn5).mono ?_; rintro e w' ⟨pG, kG, DG, rfl, hoG, hsG, hc1, hf1⟩; have hoC2 := (OwnI.below hoC (by first | exact Below.refl _ _ | exact (Below.refl _ _).drew)).frm hf1 (Or.inr (Nat.le_of_lt_succ (Nat.lt_succ_of_le hlC))); have hR2 := (hR1.below (by first | exact Below.refl _ _ | exact (Below.refl _ _).drew)).frm hf1 hc1; have hq2 := (hq1.frm (Frm.of_below (by first | exact Below.refl _ _ | exact (Below.refl _ _).drew) (w.heap.size + 4) ((w.heap.size + 4) + 1)) nkA nkB).frm hf1 nkA nkB; obtain ⟨s0, s1, s2, s3, hz0⟩ := hR2.z0; obtain ⟨t0, t1, t2, t3, hz1⟩ := hR2.z1; obtain ⟨u0, u1, u2, u3, hz2⟩ := hR2.z2; obtain ⟨v0, v1, v2, v3, hz3⟩ := hR2.z3; obtain ⟨f0, f1, f2, f3, f4, f5⟩ := blk4 hz0; obtain ⟨g0, g1, g2, g3, g4, g5⟩ := blk4 hz1; obtain ⟨i0, i1, i2, i3, i4, i5⟩ := blk4 hz2; obtain ⟨j0, j1, j2, j3, j4, j5⟩ := blk4 hz3)
        | (go_at_call 16; refine (dFlag_any (w.heap.size + 4) n P _ (HR8.out.below (by first | exact Below.refl _ _ | exact (Below.refl _ _).drew)).cu Hp.out hn1 hn5).mono ?_; rintro e w' ⟨pC, kC, DC, rfl, hoC, hsC, hc1, hf1⟩; have hlC : w.heap.size + 4 + 1 ≤ w8.heap.size := HR8.out.cu.lt; have hR1 := (HR8.out.below (by first | exact Below.refl _ _ | exact (Below.refl _ _).drew)).frm hf1 hc1; have hq1 := (HQ.out.frm (Frm.of_below (by first | exact Below.refl _ _ | exact (Below.refl _ _).drew) (w.heap.size + 4) ((w.heap.size + 4) + 1)) nkA nkB).frm hf1 nkA nkB; have hf7 := Lib.hid ((Frm.of_below (by first | exact Below.refl _ _ | exact (Below.refl _ _).drew) (w.heap.size + 4) ((w.heap.size + 4) + 1)).trans hf1); clear hf1))
    have q0 := ints_set16 (r := w.heap.size) (((HoA8.out.below (Below.refl _ _).drew).frm hf7.out (Or.inr (by omega))).frm hf1 (Or.inr (by omega))) (by omega) (.int .i64 P) (.int .i64 (n : Int)) (.int .i64 (n : Int)) (.slice pA DA.length kA) (.int .i64 P) (.int .i64 (n : Int)) (.int .i64 (n : Int)) (.slice pA DA.length kA) (.int .i64 P) (.int .i64 (n : Int)) (.int .i64 (n : Int)) (.slice pC DC.length kC) (.int .i64 P) (.int .i64 (n : Int)) (.int .i64 (n : Int)) (.slice pG DG.length kG)
    have q1 := ints_set16 (r := w.heap.size) (((HoA8.out.below (Below.refl _ _).drew).frm hf7.out (Or.inr (by omega))).frm hf1 (Or.inr (by omega))) (by omega) (.int .i64 P) (.int .i64 (n : Int)) (.int .i64 (n : Int)) (.slice pA DA.length kA) (.int .i64 P) (.int .i64 (n : Int)) (.int .i64 (n : Int)) (.slice pA DA.length kA) (.int .i64 P) (.int .i64 (n : Int)) (.int .i64 (n : Int)) (.slice pC DC.length kC) (.int .i64 P) (.int .i64 (n : Int)) (.int .i64 (n : Int)) (.slice pG DG.length kG)
    have q2 := ints_set16 (r := w.heap.size) hoC2 (by simp; omega) (.int .i64 P) (.int .i64 (n : Int)) (.int .i64 (n : Int)) (.slice pA DA.length kA) (.int .i64 P) (.int .i64 (n : Int)) (.int .i64 (n : Int)) (.slice pA DA.length kA) (.int .i64 P) (.int .i64 (n : Int)) (.int .i64 (n : Int)) (.slice pC DC.length kC) (.int .i64 P) (.int .i64 (n : Int)) (.int .i64 (n : Int)) (.slice pG DG.length kG)
    have q3 := ints_set16 (r := w.heap.size) hoG (by have h8 : w8.heap.size ≤ _ := hf7.out.size; omega) (.int .i64 P) (.int .i64 (n : Int)) (.int .i64 (n : Int)) (.slice pA DA.length kA) (.int .i64 P) (.int .i64 (n : Int)) (.int .i64 (n : Int)) (.slice pA DA.length kA) (.int .i64 P) (.int .i64 (n : Int)) (.int .i64 (n : Int)) (.slice pC DC.length kC) (.int .i64 P) (.int .i64 (n : Int)) (.int .i64 (n : Int)) (.slice pG DG.length kG)
    obtain ⟨r0, r1, r2, r3, r4⟩ := hR2.fin (.int .i64 P) (.int .i64 (n : Int)) (.int .i64 (n : Int)) (.slice pA DA.length kA) (.int .i64 P) (.int .i64 (n : Int)) (.int .i64 (n : Int)) (.slice pA DA.length kA) (.int .i64 P) (.int .i64 (n : Int)) (.int .i64 (n : Int)) (.slice pC DC.length kC) (.int .i64 P) (.int .i64 (n : Int)) (.int .i64 (n : Int)) (.slice pG DG.length kG)
    clear hoC hc1 hf1 hf7 hoG hoC2 hR2 hq2 hz0 hz1 hz2 hz3 f0 f1 f2 f3 f4 f5 g0 g1 g2 g3 g4 g5 i0 i1 i2 i3 i4 i5 j0 j1 j2 j3 j4 j5
    generalize ((((((((((((((((w').setCell ⟨w.heap.size, 0, none⟩ (.int .i64 P)).setCell ⟨w.heap.size, 1, none⟩ (.int .i64 (n : Int))).setCell ⟨w.heap.size, 2, none⟩ (.int .i64 (n : Int))).setCell ⟨w.heap.size, 3, none⟩ (.slice pA DA.length kA)).setCell ⟨w.heap.size + 1, 0, none⟩ (.int .i64 P)).setCell ⟨w.heap.size + 1, 1, none⟩ (.int .i64 (n : Int))).setCell ⟨w.heap.size + 1, 2, none⟩ (.int .i64 (n : Int))).setCell ⟨w.heap.size + 1, 3, none⟩ (.slice pA DA.length kA)).setCell ⟨w.heap.size + 1 + 1, 0, none⟩ (.int .i64 P)).setCell ⟨w.heap.size + 1 + 1, 1, none⟩ (.int .i64 (n : Int))).setCell ⟨w.heap.size + 1 + 1, 2, none⟩ (.int .i64 (n : Int))).setCell ⟨w.heap.size + 1 + 1, 3, none⟩ (.slice pC DC.length kC)).setCell ⟨w.heap.size + 1 + 1 + 1, 0, none⟩ (.int .i64 P)).setCell ⟨w.heap.size + 1 + 1 + 1, 1, none⟩ (.int .i64 (n : Int))).setCell ⟨w.heap.size + 1 + 1 + 1, 2, none⟩ (.int .i64 (n : Int))).setCell ⟨w.heap.size + 1 + 1 + 1, 3, none⟩ (.slice pG DG.length kG) = wz at q0 q1 q2 q3 r0 r1 r2 r3 r4 ⊢
    obtain ⟨c00, c01, c02, c03, c0f, c0z⟩ := blk4 r0
    obtain ⟨c10, c11, c12, c13, c1f, c1z⟩ := blk4 r1
    obtain ⟨c20, c21, c22, c23, c2f, c2z⟩ := blk4 r2
    obtain ⟨c30, c31, c32, c33, c3f, c3z⟩ := blk4 r3
    go_wp2_with fail
    refine bodyPost_ret (v := .tuple #[.agg #[.int .i64 P, .int .i64 (n : Int), .int .i64 (n : Int), .slice pA DA.length kA], .agg #[.int .i64 P, .int .i64 (n : Int), .int .i64 (n : Int), .slice pA DA.length kA], .agg #[.int .i64 P, .int .i64 (n : Int), .int .i64 (n : Int), .slice pC DC.length kC], .agg #[.int .i64 P, .int .i64 (n : Int), .int .i64 (n : Int), .slice pG DG.length kG]]) (by simp [results, Try.results5, go_sem, c00, c01, c02, c03, c0z, c10, c11, c12, c13, c1z, c20, c21, c22, c23, c2z, c30, c31, c32, c33, c3z]) rfl ⟨P, n, _, _, _, _, DA, DA, DC, DG, rfl, hn5, ⟨q0, HsA.out⟩, ⟨q1, HsA.out⟩, ⟨q2, hsC⟩, ⟨q3, hsG⟩, r4⟩

end Go.Proofs.Ytpfefjdefopccaa
