/-
  The law FnConditionsCounted: what it says of lists. Plain.
  The draws: a flag, walked.
  The draws: a space, two spaces.
  The draw of a shape in a box.
  The draws: a space and a flag with a shape; a small flag with two shapes.
-/
import Derived.Test.YtoodgbflaaabmaaJ20
import Derived.Test.YtoodgbflaaabmaaJ13
import Derived.Test.YtoodgbflaaabmaaJ5
import Derived.Test.YtoodgbflaaabmaaJ10
import Derived.Test.YtoodgbflaaabmaaJ17
import Derived.Test.YtoodgbflaaabmaaJ11
namespace Go.Proofs.Ytoodgbflaaabmaa
set_option linter.all false
open Go.RowKit

/-! ### every shape of a box is listed -/
def ShC : Int → List Int → Prop
  | _, [] => True
  | m, x :: t => 1 ≤ x ∧ x ≤ m ∧ ShC x t
theorem shC_of : ∀ (l : List Int) (m : Int), (∀ j, j < l.length → 1 ≤ l.getD j 0 ∧ (0 < j → l.getD j 0 ≤ l.getD (j - 1) 0)) → l.getD 0 0 ≤ m → ShC m l
  | [], _, _, _ => trivial
  | x :: t, m, h, hm => by
    have h0 := h 0 (by simp)
    refine ⟨by simpa using h0.1, by simpa using hm, shC_of t x (fun j hj => ?_) ?_⟩
    · have a := h (j + 1) (by simpa using hj)
      refine ⟨by simpa using a.1, fun hj0 => ?_⟩
      have b := a.2 (by omega)
      obtain ⟨i, rfl⟩ : ∃ i, j = i + 1 := ⟨j - 1, by omega⟩
      simpa using b
    · match t, h with
      | [], _ => simp; have := h0.1; simp at this; omega
      | y :: t, h =>
        have := (h 1 (by simp)).2 (by omega)
        simpa using this
theorem mem_shs : ∀ (r m : Nat) (front rest : List Int), rest.length ≤ r → ShC (m : Int) rest → front ++ rest ∈ shs r m front
  | 0, m, front, rest, hl, _ => by
    have : rest = [] := List.eq_nil_of_length_eq_zero (by omega)
    subst this
    simp [shs]
  | r + 1, m, front, [], _, _ => by simp [shs]
  | r + 1, m, front, x :: t, hl, h => by
    obtain ⟨h1, h2, h3⟩ := h
    rw [shs, List.mem_cons]
    refine .inr (List.mem_flatMap.2 ⟨(x - 1).toNat, List.mem_range.2 (by omega), ?_⟩)
    have e : (((x - 1).toNat + 1 : Nat) : Int) = x := by omega
    rw [e]
    have := mem_shs r ((x - 1).toNat + 1) (front ++ [x]) t (by simpa using hl) (by rw [e]; exact h3)
    simpa using this
theorem mem_box {k m : Nat} {a : List Int} (h : bxOk a k (k + m) = true) : a ∈ shs k m [] := by
  unfold bxOk at h
  simp only [Bool.and_eq_true, decide_eq_true_eq] at h
  obtain ⟨⟨h1, h2⟩, h3⟩ := h
  obtain ⟨_, hs⟩ := shOk_facts h1
  have := mem_shs k m [] a h2 (shC_of a m (fun j hj => ⟨(hs j hj).1, (hs j hj).2.2⟩) (by omega))
  simpa using this

section
variable {p k m : Nat}
theorem SmBox.cc1 (h : SmBox p k m) : ccB1 p k m = true := by
  rcases h.cases with ⟨rfl, rfl, rfl | rfl⟩ | ⟨rfl, rfl, rfl | rfl⟩ | ⟨rfl, rfl, rfl | rfl⟩ | ⟨rfl, rfl, rfl⟩ | ⟨rfl, rfl, rfl⟩ | ⟨rfl, rfl, rfl⟩
  · exact cc1_all.1.1
  · exact cc1_all.1.2
  · exact cc1_all.2.1.1
  · exact cc1_all.2.1.2
  · exact cc1_all.2.2.1
  · exact cc1_all.2.2.2
  · exact cc1_13
  · exact cc1_22
  · exact cc1_31
theorem SmBox.cc2 (h : SmBox p k m) : ccB2 p k m = true := by
  rcases h.cases with ⟨rfl, rfl, rfl | rfl⟩ | ⟨rfl, rfl, rfl | rfl⟩ | ⟨rfl, rfl, rfl | rfl⟩ | ⟨rfl, rfl, rfl⟩ | ⟨rfl, rfl, rfl⟩ | ⟨rfl, rfl, rfl⟩
  · exact cc2_small.1.1
  · exact cc2_small.1.2
  · exact cc2_small.2.1.1
  · exact cc2_small.2.1.2
  · exact cc2_small.2.2.1
  · exact cc2_small.2.2.2
  · exact cc2_13
  · exact cc2_22
  · exact cc2_31
theorem allS_sp (h : SmBox p k m) {D : List Int} (hD : D ∈ allS p k m) : IsSp p k (k + m : Nat) D := by
  obtain ⟨l, hl, h1⟩ := List.mem_flatMap.1 hD
  obtain ⟨ms, hms⟩ := scL h hl
  unfold spsL at h1
  rw [hms.mss] at h1
  obtain ⟨x, hx, rfl⟩ := List.mem_map.1 h1
  obtain ⟨i, hi, rfl⟩ := List.mem_iff_getElem.1 hx
  obtain ⟨D, e, h2, _⟩ := hms.each i hi
  have : ms[i] = ms.getD i mxZero := by simp [List.getD_eq_getElem?_getD, hi]
  rw [this, e]
  exact h2
theorem sp_allS (h : SmBox p k m) {D : List Int} (hD : IsSp p k (k + m : Nat) D) : D ∈ allS p k m := by
  obtain ⟨r', c', e1, e2, _, _, _, hl, hr, _, _, _, _⟩ := hD.facts
  obtain rfl := Int.ofNat.inj e1
  have e2 := Int.ofNat.inj e2
  rw [← e2] at hl
  obtain ⟨q, hq, _⟩ := hD.red
  have hc := h.cc1
  unfold ccB1 at hc
  simp only [Bool.and_eq_true, List.all_eq_true, Bool.or_eq_true, decide_eq_true_eq] at hc
  rcases hc.1.2 D (mem_allL hl hr) with h2 | h2
  · rw [redB_of hq] at h2; cases h2
  · exact h2
theorem allS_nodup (h : SmBox p k m) : (allS p k m).Nodup := by
  have hc := h.cc1
  unfold ccB1 at hc
  simp only [Bool.and_eq_true, decide_eq_true_eq] at hc
  exact hc.1.1
theorem allS_cm (h : SmBox p k m) {D : List Int} (hD : D ∈ allS p k m) : cmChk p k (k + m) D = true := by
  have hc := h.cc1
  unfold ccB1 at hc
  simp only [Bool.and_eq_true, List.all_eq_true] at hc
  exact (hc.2 D hD).2

open Classical in
/-- whether a space meets a flag as a shape asks -/
noncomputable def metQ (p k n : Nat) (DF a : List Int) (D : List Int) : Bool := decide (MfUp p k n (mf n fun t => D.getD t 0) (mf n fun t => DF.getD t 0) a k)
theorem metQ_iff {p k n : Nat} {DF a D : List Int} : metQ p k n DF a D = true ↔ MfUp p k n (mf n fun t => D.getD t 0) (mf n fun t => DF.getD t 0) a k := by
  unfold metQ
  simp
/-- what the law asks -/
structure CcL (p k m : Nat) (DF DT a b : List Int) : Prop where
  count : (allS p k m).countP (metQ p k (k + m) DF a) = wantS p k m a
  pos : 0 < wantS p k m a
  both : (0 < (allS p k m).countP fun D => metQ p k (k + m) DF a D && metQ p k (k + m) DT b D) ↔ cnB (shL (duR b k (k + m))) a = true
theorem ccL (h : SmBox p k m) {DF DT a b : List Int} (hF : IsFl p (k + m : Nat) (k + m : Nat) DF) (hT : TurnOf (k + m) true (mf (k + m) fun t => DF.getD t 0) (mf (k + m) fun t => DT.getD t 0)) (ha : bxOk a k (k + m) = true) (hb : bxOk b k (k + m) = true) : CcL p k m DF DT a b := by
  have hp := h.prime
  have hG := hF.indep
  have hn1 : 1 ≤ k + m := by have := h.2.1; omega
  have hn7 : k + m ≤ 7 := by have := h.2.2.2; omega
  have hF0 : TurnOf (k + m) false (mf (k + m) fun t => DF.getD t 0) (mf (k + m) fun t => DF.getD t 0) := fun i c _ _ => rfl
  obtain ⟨φ, hφ⟩ : ∃ φ : List Int → List Int, ∀ D, IsSp p k (k + m : Nat) D → Rel p k (k + m) (mf (k + m) fun t => DF.getD t 0) D (φ D) :=
    ⟨fun D => Classical.epsilon (Rel p k (k + m) (mf (k + m) fun t => DF.getD t 0) D), fun D hD => Classical.epsilon_spec (rel_ex hp hG hn1 hn7 hD)⟩
  have hmv : ∀ x ∈ allS p k m, φ x ∈ allS p k m := fun x hx => sp_allS h (hφ x (allS_sp h hx)).1
  have hij : ∀ x ∈ allS p k m, ∀ y ∈ allS p k m, φ x = φ y → x = y := fun x hx y hy e => rel_inj hp hG (allS_sp h hx) (allS_sp h hy) (hφ x (allS_sp h hx)) (e ▸ hφ y (allS_sp h hy))
  have q1 : ∀ x ∈ allS p k m, metQ p k (k + m) DF a (φ x) = meB p k (k + m) x false a := fun x hx => by
    have := rel_met hp (Nat.le_add_right _ _) hG hF0 (hφ x (allS_sp h hx)) (allS_cm h hx) (a := a)
    rw [← metQ_iff] at this
    exact Bool.eq_iff_iff.2 this
  have q2 : ∀ x ∈ allS p k m, metQ p k (k + m) DT b (φ x) = meB p k (k + m) x true b := fun x hx => by
    have := rel_met hp (Nat.le_add_right _ _) hG hT (hφ x (allS_sp h hx)) (allS_cm h hx) (a := b)
    rw [← metQ_iff] at this
    exact Bool.eq_iff_iff.2 this
  have hc := h.cc2
  unfold ccB2 at hc
  simp only [Bool.and_eq_true, List.all_eq_true, decide_eq_true_eq] at hc
  obtain ⟨⟨h1, h2⟩, h3⟩ := hc a (mem_box ha)
  have h3 := h3 b (mem_box hb)
  refine ⟨?_, h2, ?_⟩
  · rw [count_moved (allS_nodup h) φ hmv hij (fun D => meB p k (k + m) D false a) _ q1]
    exact h1
  · rw [count_moved (allS_nodup h) φ hmv hij (fun D => meB p k (k + m) D false a && meB p k (k + m) D true b) _ fun x hx => by rw [q1 x hx, q2 x hx]]
    rw [List.countP_pos_iff, ← h3, List.any_eq_true]
end

end Go.Proofs.Ytoodgbflaaabmaa

namespace Go.Proofs.Ytoodgbflaaabmaa
set_option linter.all false
open Go.RowKit

theorem flS_call {w : World} {k : Nat} {P : Int} {n N bA bL bH gl kl gh kh la : Nat} {vA : Value} {DA : List Int} {W w' : World} {c : Prop} (h : c ∧ Hid (FlS w k P n N bA bL bH gl kl gh kh la vA DA W)) (hn : FlN w k n N bA bL bH gl gh la) (hf : Frm k (k + 1) W w') (hc : Cur w' k) : Hid (FlS w k P n N bA bL bH gl kl gh kh la vA DA w') := h.2.out.frm hn hf hc
theorem specMul2 (P : Int) (n : Nat) (da db : Value) (DA DB D : List Int) (w : World) (he : mulMx ⟨P, n, n, DA⟩ ⟨P, n, n, DB⟩ = ⟨P, n, n, D⟩) (ha : Ints w da DA) (hb : Ints w db DB) :
    Calls Try.prog 75 #[.agg #[.int .i64 P, .int .i64 (n : Int), .int .i64 (n : Int), da], .agg #[.int .i64 P, .int .i64 (n : Int), .int .i64 (n : Int), db]] w fun e w' =>
      ∃ (pd : Option Addr) (kd : Nat) (b : Bool), e = .returned (.tuple #[.agg #[.int .i64 P, .int .i64 (n : Int), .int .i64 (n : Int), .slice pd D.length kd], .bool b]) ∧ OwnI 3 w' w.heap.size w'.heap.size (.slice pd D.length kd) D ∧ Below w.heap.size w w' :=
  (specMul_any ⟨P, n, n, DA⟩ ⟨P, n, n, DB⟩ da db w ha hb).mono fun e w' h => by
    rw [he] at h
    obtain ⟨u, h1, h2, h3⟩ := h
    obtain ⟨pd, kd, rfl, _, _⟩ := h2.shape
    exact ⟨pd, kd, _, h1, h2, h3⟩
theorem idx_facts {K i N : Nat} (h : K + i < N) (hN : N ≤ 1000000) : Hid (wrap64 ((K : Int) + (i : Int)) = (K : Int) + (i : Int)) ∧ Hid (IntKind.i64.wrap ((K : Int) + (i : Int)) = (K : Int) + (i : Int)) ∧ (0 : Int) ≤ (K : Int) + i ∧ (K : Int) + i < (N : Int) ∧ ((K : Int) + (i : Int)).toNat = K + i := by
  have h0 : -1000000000000000000 ≤ (K : Int) + (i : Int) := by omega
  have h1 : (K : Int) + (i : Int) ≤ 1000000000000000000 := by omega
  exact ⟨w64 h0 h1, k64 h0 h1, by omega, by omega, by omega⟩
theorem wrap_1x {x p : Nat} (h : x < p - 1) (hp : p ≤ 256) : IntKind.i64.wrap (1 + (x : Int)) = 1 + (x : Int) := k64 (by omega) (by omega)
theorem bound_one {x p : Nat} (h : x < p - 1) (hp : p ≤ 256) : 0 ≤ IntKind.i64.wrap (1 + (x : Int)) ∧ IntKind.i64.wrap (1 + (x : Int)) < (p : Int) := by rw [wrap_1x h hp]; omega
theorem bound_two {x p : Nat} (h : x < p - 1) (hp : p ≤ 256) : (1 : Int) ≤ IntKind.i64.wrap (1 + (x : Int)) := by rw [wrap_1x h hp]; omega
theorem bound_x {x p : Nat} (h : x < p) : 0 ≤ (x : Int) ∧ (x : Int) < (p : Int) := by omega
theorem mul_row {i n N j : Nat} (hN : N = n * n) (hb : N ≤ 1000000) (hi : i < n) (hj : j < n) : ∃ K, Hid (K = i * n) ∧ Hid (wrap64 ((i : Int) * (n : Int)) = (K : Int)) ∧ Hid (IntKind.i64.wrap ((i : Int) * (n : Int)) = (K : Int)) ∧ K + j < N := by
  have h := flat_ltW (C := n) hi hj
  rw [← hN] at h
  obtain ⟨K, hK, h1, h2⟩ := mul_named i n (by omega)
  exact ⟨K, hK, h1, h2, by omega⟩
theorem FlS.drew {w : World} {k : Nat} {P : Int} {n N bA bL bH gl kl gh kh la : Nat} {vA : Value} {DA : List Int} {wr : World} (h : FlS w k P n N bA bL bH gl kl gh kh la vA DA wr) (hn : FlN w k n N bA bL bH gl gh la) : FlS w k P n N bA bL bH gl kl gh kh la vA DA wr.drew := h.drewN hn 1
theorem flS_holdL {w : World} {k : Nat} {P : Int} {n N bA bL bH gl kl gh kh la : Nat} {vA : Value} {DA : List Int} {W : World} (h : FlS w k P n N bA bL bH gl kl gh kh la vA DA W) : W.cell? ⟨bL, 3, none⟩ = some (.slice (some ⟨gl, 0, none⟩) N kl) ∧ Hid (FlS w k P n N bA bL bH gl kl gh kh la vA DA W) := ⟨(blk4 h.l).2.2.2.1, h⟩
theorem flS_holdH {w : World} {k : Nat} {P : Int} {n N bA bL bH gl kl gh kh la : Nat} {vA : Value} {DA : List Int} {W : World} (h : FlS w k P n N bA bL bH gl kl gh kh la vA DA W) : W.cell? ⟨bH, 3, none⟩ = some (.slice (some ⟨gh, 0, none⟩) N kh) ∧ Hid (FlS w k P n N bA bL bH gl kl gh kh la vA DA W) := ⟨(blk4 h.h).2.2.2.1, h⟩
theorem flS_cur {w : World} {k : Nat} {P : Int} {n N bA bL bH gl kl gh kh la : Nat} {vA : Value} {DA : List Int} {W : World} {c : Prop} (h : c ∧ Hid (FlS w k P n N bA bL bH gl kl gh kh la vA DA W)) : Cur W k := h.2.out.cur

set_option maxRecDepth 100000 in
set_option maxHeartbeats 8000000 in
/-- a flag -/
theorem dFlag_nat (k n p : Nat) (w : World) (h : Cur w k) (hp : primeOk (p : Int) = true) (h1 : 1 ≤ n) (h5 : n ≤ 5) :
    Calls Try.prog 47 #[.pointer (some ⟨k, 0, none⟩), .int .i64 (p : Int), .int .i64 (n : Int)] w fun e w' =>
      ∃ (pd : Option Addr) (kd : Nat) (D : List Int), e = .returned (.agg #[.int .i64 (p : Int), .int .i64 (n : Int), .int .i64 (n : Int), .slice pd D.length kd]) ∧ OwnI 3 w' w.heap.size w'.heap.size (.slice pd D.length kd) D ∧ IsFl p n n D ∧ Cur w' k ∧ Frm k (k + 1) w w' := by
  obtain ⟨hP2, hP7⟩ := primeOk_range hp
  have Hp := Lib.hid hp
  have Hp2 := Lib.hid (show IntKind.i64.wrap ((p : Int) - 1) = ((p - 1 : Nat) : Int) by rw [k64 (by omega) (by omega)]; omega)
  have Hp3 := Lib.hid (show IntKind.i64.wrap ((p - 1 : Nat) : Int) = ((p - 1 : Nat) : Int) from k64 (by omega) (by omega))
  have hk := h.lt
  have z0 := heap_alloc_top w (.cells #[.int .i64 0, .int .i64 0, .int .i64 0, .slice none 0 0] 34)
  have Hc1 := Lib.hid (h.below (below_alloc w (.cells #[.int .i64 0, .int .i64 0, .int .i64 0, .slice none 0 0] 34)))
  have Z1 := Lib.hid z0
  have Hf1 := Lib.hid (Frm.of_below (below_alloc w (.cells #[.int .i64 0, .int .i64 0, .int .i64 0, .slice none 0 0] 34)) k (k + 1))
  have hs1 : (w.alloc (.cells #[.int .i64 0, .int .i64 0, .int .i64 0, .slice none 0 0] 34)).heap.size = w.heap.size + 1 := size_alloc _ _
  obtain ⟨N, hN⟩ : ∃ N, N = n * n := ⟨_, rfl⟩
  have HN := Lib.hid hN
  have hN1 : 1 ≤ N := by rw [hN]; exact Nat.mul_pos h1 h1
  have hN25 : N ≤ 25 := by rw [hN]; exact Nat.mul_le_mul h5 h5
  clear h z0 hp hN
  go_enter Try.func47, Try.ntmps47
  go_wp2_with fail
  generalize w.alloc (.cells #[.int .i64 0, .int .i64 0, .int .i64 0, .slice none 0 0] 34) = w1 at *
  refine (dPerm_any k n _ Hc1.out h1 h5).mono ?_
  rintro e w2 ⟨u, xs, rfl, hox, hpx, hlx, hc2, hf2⟩
  have Z2 := Lib.hid ((hf2.block w.heap.size (by omega) (Or.inr (by omega))).trans Z1.out)
  have Hf2 := Lib.hid (Hf1.out.trans hf2)
  have Hc2 := Lib.hid hc2
  have Hox := Lib.hid hox.ints
  have Hpx := Lib.hid hpx
  have Hlx := Lib.hid hlx
  have hs2 := hf2.size
  obtain ⟨px, kx, rfl, _, _⟩ := hox.shape
  rw [hlx] at Hox ⊢
  clear hox hpx hlx hc2 hf2 Z1 Hf1 Hc1
  go_wp2_with fail
  refine (l7Perm_any (p : Int) _ xs _ Hox.out Hpx.out).mono ?_
  rintro e w3 ⟨u, rfl, hoA, hb3⟩
  rw [Hlx.out]
  have hnA : (permRows xs).flatten.length = N := by rw [permRows_flat_length, Hlx.out, HN.out]
  obtain ⟨pA, kA, rfl, _, _⟩ := hoA.shape
  rw [hnA] at hoA ⊢
  have HoA := Lib.hid hoA
  have Z3 := Lib.hid (blk_later Z2.out hb3)
  have Hc3 := Lib.hid (Hc2.out.below hb3)
  have Hf3 := Lib.hid (Hf2.out.thenB hb3 (by omega))
  have hs3 := hb3.size
  clear hnA hoA hb3 Z2 Hf2 Hc2
  go_wp2_with fail

  refine (specIdentity_any n _ h1 (by omega)).mono ?_
  rintro e w4 ⟨u, rfl, hoi, hb4⟩
  have bl4 : Below w3.heap.size w3 w4 := (below_alloc w3 (.cells #[.int .i64 (p : Int), .int .i64 (n : Int), .int .i64 (n : Int), .slice pA N kA] 34)).trans (hb4.mono (by simp))
  have hs4 : w3.heap.size + 1 ≤ w4.heap.size := by have := hb4.size; rwa [size_alloc] at this
  have Z4 := Lib.hid (blk_later Z3.out bl4)
  have BA4 := Lib.hid ((hb4.block _ (by simp)).trans (heap_alloc_top w3 (.cells #[.int .i64 (p : Int), .int .i64 (n : Int), .int .i64 (n : Int), .slice pA N kA] 34)))
  have Hc4 := Lib.hid (Hc3.out.below bl4)
  have Hf4 := Lib.hid (Hf3.out.thenB bl4 (by omega))
  have HoA4 := Lib.hid (HoA.out.below bl4)
  have Hoi := Lib.hid hoi.ints
  obtain ⟨pi, ki, rfl, _, _⟩ := hoi.shape
  rw [idL_length] at Hoi ⊢
  clear hoi hb4 bl4
  go_wp2_with fail
  refine (l7Perm_any (p : Int) _ (idL n) _ Hoi.out (idL_ok h1 (by omega))).mono ?_
  rintro e w5 ⟨u, rfl, hoL, hb5⟩
  rw [idL_length]
  have hnL : (permRows (idL n)).flatten.length = N := by rw [permRows_flat_length, idL_length, HN.out]
  obtain ⟨pL, kL, rfl, _, _⟩ := hoL.shape
  rw [hnL] at hoL ⊢
  have hof := hoL.fn
  rw [hnL] at hof
  obtain ⟨gL, rfl, hgL1, hgL2, _⟩ := hof.at_ (by omega)
  have HoL5 := Lib.hid (hoL.widen (lo := gL) (hi := gL + 1) fun b hb => by simp [Value.ownBlock] at hb; omega)
  have hs5 := hb5.size
  have Z5 := Lib.hid (blk_later Z4.out hb5)
  have Hc5 := Lib.hid (Hc4.out.below hb5)
  have Hf5 := Lib.hid (Hf4.out.thenB hb5 (by omega))
  have BA5 := Lib.hid (blk_later BA4.out hb5)
  have HoA5 := Lib.hid (HoA4.out.below hb5)
  clear hof hnL hoL hb5
  go_wp2_with fail
  refine (specIdentity_any n _ h1 (by omega)).mono ?_
  rintro e w6 ⟨u, rfl, hoi, hb6⟩
  have bl6 : Below w5.heap.size w5 w6 := (below_alloc w5 (.cells #[.int .i64 (p : Int), .int .i64 (n : Int), .int .i64 (n : Int), .slice (some ⟨gL, 0, none⟩) N kL] 34)).trans (hb6.mono (by simp))
  have hs6 : w5.heap.size + 1 ≤ w6.heap.size := by have := hb6.size; rwa [size_alloc] at this
  have Z6 := Lib.hid (blk_later Z5.out bl6)
  have BL6 := Lib.hid ((hb6.block _ (by simp)).trans (heap_alloc_top w5 (.cells #[.int .i64 (p : Int), .int .i64 (n : Int), .int .i64 (n : Int), .slice (some ⟨gL, 0, none⟩) N kL] 34)))
  have Hc6 := Lib.hid (Hc5.out.below bl6)
  have Hf6 := Lib.hid (Hf5.out.thenB bl6 (by omega))
  have HoA6 := Lib.hid (HoA5.out.below bl6)
  have HoL6 := Lib.hid (HoL5.out.below bl6)
  have BA6 := Lib.hid (blk_later BA5.out bl6)
  have Hoi := Lib.hid hoi.ints
  obtain ⟨pi, ki, rfl, _, _⟩ := hoi.shape
  rw [idL_length] at Hoi ⊢
  clear hoi hb6 bl6
  go_wp2_with fail
  refine (l7Perm_any (p : Int) _ (idL n) _ Hoi.out (idL_ok h1 (by omega))).mono ?_
  rintro e w7 ⟨u, rfl, hoH, hb7⟩
  rw [idL_length]
  have hnH : (permRows (idL n)).flatten.length = N := by rw [permRows_flat_length, idL_length, HN.out]
  obtain ⟨pH, kH, rfl, _, _⟩ := hoH.shape
  rw [hnH] at hoH ⊢
  have hof := hoH.fn
  rw [hnH] at hof
  obtain ⟨gH, rfl, hgH1, hgH2, _⟩ := hof.at_ (by omega)
  have HoH7 := Lib.hid (hoH.widen (lo := gH) (hi := gH + 1) fun b hb => by simp [Value.ownBlock] at hb; omega)
  have hs7 := hb7.size
  have Z7 := Lib.hid (blk_later Z6.out hb7)
  have Hc7 := Lib.hid (Hc6.out.below hb7)
  have Hf7 := Lib.hid (Hf6.out.thenB hb7 (by omega))
  have BA7 := Lib.hid (blk_later BA6.out hb7)
  have BL7 := Lib.hid (blk_later BL6.out hb7)
  have HoA7 := Lib.hid (HoA6.out.below hb7)
  have HoL7 := Lib.hid (HoL6.out.below hb7)
  clear hof hnH hoH hb7
  go_wp2_with fail
  have hNN : FlN w k n N w3.heap.size w5.heap.size w7.heap.size gL gH w2.heap.size := ⟨hk, by omega, by omega, by omega, by omega, by omega, by omega, HN.out⟩
  have hFl : FlS w k (p : Int) n N w3.heap.size w5.heap.size w7.heap.size gL kL gH kH w2.heap.size (.slice pA N kA) (permRows xs).flatten (w7.alloc (.cells #[.int .i64 (p : Int), .int .i64 (n : Int), .int .i64 (n : Int), .slice (some ⟨gH, 0, none⟩) N kH] 34)) := by
    have hb := below_alloc w7 (.cells #[.int .i64 (p : Int), .int .i64 (n : Int), .int .i64 (n : Int), .slice (some ⟨gH, 0, none⟩) N kH] 34)
    refine ⟨blk_later Z7.out hb, blk_later BA7.out hb, blk_later BL7.out hb, heap_alloc_top _ _, HoA7.out.below hb, ⟨_, id_low hP2, HoL7.out.below hb⟩, ⟨_, id_high hP2, HoH7.out.below hb⟩, Hc7.out.below hb, Hf7.out.thenB hb (by omega)⟩
  have HNN := Lib.hid hNN
  have HF8 := Lib.hid hFl
  have HQ1 := Lib.hid (show 1 ≤ p - 1 by omega)
  have HQ2 := Lib.hid (show p - 1 ≤ 256 by omega)
  have HQ3 := Lib.hid (show 1 ≤ p by omega)
  have HQ4 := Lib.hid (show p ≤ 256 by omega)
  have HCur := Lib.hid (fun (c : Prop) (W : World) (h : c ∧ Hid (FlS w k (p : Int) n N w3.heap.size w5.heap.size w7.heap.size gL kL gH kH w2.heap.size (.slice pA N kA) (permRows xs).flatten W)) => flS_cur h)
  have HCall := Lib.hid (fun (c : Prop) (W w' : World) (h : c ∧ Hid (FlS w k (p : Int) n N w3.heap.size w5.heap.size w7.heap.size gL kL gH kH w2.heap.size (.slice pA N kA) (permRows xs).flatten W)) (hf : Frm k (k + 1) W w') (hc : Cur w' k) => flS_call h hNN hf hc)
  have hp1 : (p : Int) - 1 = ((p - 1 : Nat) : Int) := by omega
  have Hp1 := Lib.hid hp1
  clear hNN hFl hp1
  clear Z3 Z4 Z5 Z6 Z7 Hc3 Hc4 Hc5 Hc6 Hc7 Hf3 Hf4 Hf5 Hf6 Hf7 BA4 BA5 BA6 BA7 BL6 BL7 HoA HoA4 HoA5 HoA6 HoA7 HoL5 HoL6 HoL7 HoH7 Hoi Hox
  go_loopg [10] n (fun g s10 wr => ∃ i : Nat, i ≤ n ∧ g = n - i ∧ s10 = .int .i64 i ∧ Hid (FlS w k (p : Int) n N w3.heap.size w5.heap.size w7.heap.size gL kL gH kH w2.heap.size (.slice pA N kA) (permRows xs).flatten wr))
  case atStart => exact ⟨0, Nat.zero_le _, rfl, rfl, HF8.out⟩
  case round =>
    obtain ⟨i, hi, rfl, rfl, hF⟩ := hrel
    by_cases hlt : i < n
    · have hlt2 : (i : Int) < (n : Int) := by omega
      have HF := Lib.hid hF.out
      clear hF
      obtain ⟨K, HK, Hkr, Hkk, hKl⟩ := mul_row HN.out (by omega) hlt hlt
      obtain ⟨Hs1, Hs2, hi0, hi1, hi2⟩ := idx_facts hKl (by omega)
      go_wp2_with fail
      have hkr := Hkr.out
      have hkk := Hkk.out
      have hs1' := Hs1.out
      have hs2' := Hs2.out
      go_region_held3 (fun w' => w'.cell? ⟨w5.heap.size, 3, none⟩ = some (.slice (some ⟨gL, 0, none⟩) N kL) ∧ Hid (FlS w k (p : Int) n N w3.heap.size w5.heap.size w7.heap.size gL kL gH kH w2.heap.size (.slice pA N kA) (permRows xs).flatten w'))
          (first | exact flS_holdL (HF.out.drew HNN.out) | exact flS_holdL hF1.out | exact flS_holdL (hF1.out.setL HNN.out (show K + i = i * n + i by rw [HK.out]) hlt (Nat.le_refl _) hx1 (fun _ => hx2)))
          (first
            | (go_at_call 32; (first | rw [Hp2.out] | rw [Hp3.out] | rw [Hp1.out]); refine (l1Below_any k (p - 1) _ (HCur.out _ _ (by assumption)) HQ1.out HQ2.out).mono ?_; rintro e w' ⟨x, rfl, hx, hc1, hf1⟩; have hF1 := HCall.out _ _ _ (by assumption) hf1 hc1; obtain ⟨z, hz⟩ := hF1.out.cellL HNN.out (show K + i < N by exact hKl); have hzf := hF1.out.frzL (K + i); have cB := (flS_holdL hF1.out).1; have hx1 := bound_one hx HQ4.out; have hx2 := bound_two hx HQ4.out))
      all_goals clear hkr hkk hs1' hs2'
      have HF7 := Lib.hid (hF1.out.setL HNN.out (show K + i = i * n + i by rw [HK.out]) hlt (Nat.le_refl _) hx1 (fun _ => hx2))
      clear hF1 hz hzf cB hx1 hx2 hc1 hf1 hi0 hi1 hi2
      generalize World.setCell _ _ _ = wy at *
      go_wp2_with fail
      go_loopg [11] i (fun g s11 wr => ∃ j : Nat, j ≤ i ∧ g = i - j ∧ s11 = .int .i64 j ∧ Hid (FlS w k (p : Int) n N w3.heap.size w5.heap.size w7.heap.size gL kL gH kH w2.heap.size (.slice pA N kA) (permRows xs).flatten wr))
      case atStart => exact ⟨0, Nat.zero_le _, rfl, rfl, HF7.out⟩
      case round =>
        obtain ⟨j, hj, rfl, rfl, hF⟩ := hrel
        have HF := Lib.hid hF.out
        clear hF
        by_cases hjl : j < i
        · have hjl2 : (j : Int) < (i : Int) := by omega
          have hjn : j < n := by omega
          obtain ⟨Ka, HKa, Hkra, Hkka, hKal⟩ := mul_row HN.out (by omega) hlt hjn
          obtain ⟨Ha1, Ha2, ha0, ha1, ha2⟩ := idx_facts hKal (by omega)
          obtain ⟨Kb, HKb, Hkrb, Hkkb, hKbl⟩ := mul_row HN.out (by omega) hjn hlt
          obtain ⟨Hb1, Hb2, hb0, hb1', hb2⟩ := idx_facts hKbl (by omega)
          go_wp2_with fail
          have ka1 := Hkra.out
          have ka2 := Hkka.out
          have ka3 := Ha1.out
          have ka4 := Ha2.out
          go_region_held3 (fun w' => w'.cell? ⟨w5.heap.size, 3, none⟩ = some (.slice (some ⟨gL, 0, none⟩) N kL) ∧ Hid (FlS w k (p : Int) n N w3.heap.size w5.heap.size w7.heap.size gL kL gH kH w2.heap.size (.slice pA N kA) (permRows xs).flatten w'))
          (first | exact flS_holdL (HF.out.drew HNN.out) | exact flS_holdL hF1.out | exact flS_holdL (hF1.out.setL HNN.out (show Ka + j = i * n + j by rw [HKa.out]) hlt (Nat.le_of_lt hjl) hx1 (fun e => absurd e (Nat.ne_of_lt hjl))))
          (first
            | (go_at_call 32; skip; refine (l1Below_any k p _ (HCur.out _ _ (by assumption)) HQ3.out HQ4.out).mono ?_; rintro e w' ⟨x, rfl, hx, hc1, hf1⟩; have hF1 := HCall.out _ _ _ (by assumption) hf1 hc1; obtain ⟨z, hz⟩ := hF1.out.cellL HNN.out (show Ka + j < N by exact hKal); have hzf := hF1.out.frzL (Ka + j); have cB := (flS_holdL hF1.out).1; have hx1 := bound_x hx))
          all_goals clear ka1 ka2 ka3 ka4
          have HF8 := Lib.hid (hF1.out.setL HNN.out (show Ka + j = i * n + j by rw [HKa.out]) hlt (Nat.le_of_lt hjl) hx1 (fun e => absurd e (Nat.ne_of_lt hjl)))
          clear hF1 hz hzf cB hx1 hc1 hf1 HF
          have HF := HF8
          clear HF8
          generalize World.setCell _ _ _ = wy2 at *
          go_wp2_with fail
          have kb1 := Hkrb.out
          have kb2 := Hkkb.out
          have kb3 := Hb1.out
          have kb4 := Hb2.out
          go_region_held3 (fun w' => w'.cell? ⟨w7.heap.size, 3, none⟩ = some (.slice (some ⟨gH, 0, none⟩) N kH) ∧ Hid (FlS w k (p : Int) n N w3.heap.size w5.heap.size w7.heap.size gL kL gH kH w2.heap.size (.slice pA N kA) (permRows xs).flatten w'))
          (first | exact flS_holdH (HF.out.drew HNN.out) | exact flS_holdH hF1.out | exact flS_holdH (hF1.out.setH HNN.out (show Kb + i = j * n + i by rw [HKb.out]) hlt hjl hx1))
          (first
            | (go_at_call 32; skip; refine (l1Below_any k p _ (HCur.out _ _ (by assumption)) HQ3.out HQ4.out).mono ?_; rintro e w' ⟨x, rfl, hx, hc1, hf1⟩; have hF1 := HCall.out _ _ _ (by assumption) hf1 hc1; obtain ⟨z, hz⟩ := hF1.out.cellH HNN.out (show Kb + i < N by exact hKbl); have hzf := hF1.out.frzH (Kb + i); have cB := (flS_holdH hF1.out).1; have hx1 := bound_x hx))
          all_goals clear kb1 kb2 kb3 kb4
          have HF9 := Lib.hid (hF1.out.setH HNN.out (show Kb + i = j * n + i by rw [HKb.out]) hlt hjl hx1)
          clear hF1 hz hzf cB hx1 hc1 hf1 ha0 ha1 ha2 hb0 hb1' hb2
          generalize World.setCell _ _ _ = wy3 at *
          go_wp2_with fail
          go_roundg (i - (j + 1))
          case measure => omega
          case rel => exact ⟨j + 1, by omega, rfl, by go_num, HF9.out⟩
        · obtain rfl : j = i := by omega
          have hjl2 : ¬ (j : Int) < (j : Int) := by omega
          go_wp2_with fail
          go_roundg (n - (j + 1))
          case measure => omega
          case rel => exact ⟨j + 1, by omega, rfl, by go_num, HF.out⟩
    · obtain rfl : i = n := by omega
      have hlt2 : ¬ (i : Int) < (i : Int) := by omega
      obtain ⟨zz, aa, ll, hh, oa, ⟨DL, fl1, fl2⟩, ⟨DH, fh1, fh2⟩, cu, fr⟩ := hF.out
      obtain ⟨DX, DY, e1, e2, hfl⟩ := draw_flag Hp.out h1 (by omega) fl1 fh1 Hpx.out Hlx.out
      have Ia := Lib.hid oa.ints
      have Il := Lib.hid fl2.ints
      have Ih := Lib.hid fh2.ints
      have Zz := Lib.hid zz
      have Za := Lib.hid aa
      have Zl := Lib.hid ll
      have Zh := Lib.hid hh
      have Cu := Lib.hid cu
      have Fr := Lib.hid fr
      have E1 := Lib.hid e1
      have E2 := Lib.hid e2
      have Hfl := Lib.hid hfl
      have hsr := fr.size
      have hz := blk_lt zz
      obtain ⟨a0, a1, a2, a3, af, az⟩ := blk4 aa
      obtain ⟨l0, l1, l2, l3, lf, lz⟩ := blk4 ll
      clear hF zz aa ll hh oa fl1 fl2 fh1 fh2 cu fr e1 e2 hfl
      go_wp2_with fail
      refine (specMul2 (p : Int) i _ _ DL (permRows xs).flatten DX _ E1.out Il.out Ia.out).mono ?_
      rintro e wx ⟨pX, kX, b1, rfl, ho1, hb1⟩
      have Ix := Lib.hid ho1.ints
      have Ih1 := Lib.hid (Ih.out.below hb1)
      have Zz1 := Lib.hid (blk_later Zz.out hb1)
      have Zh1 := Lib.hid (blk_later Zh.out hb1)
      have Cu1 := Lib.hid (Cu.out.below hb1)
      have Fr1 := Lib.hid (Fr.out.thenB hb1 hsr)
      have hs1' := hb1.size
      clear ho1 hb1 a0 a1 a2 a3 af az l0 l1 l2 l3 lf lz
      obtain ⟨q0, q1, q2, q3, qf, qz⟩ := blk4 Zh1.out
      go_wp2_with fail
      refine (specMul2 (p : Int) i _ _ DX DH DY _ E2.out (Ix.out.below (below_alloc wx _)) (Ih1.out.below (below_alloc wx _))).mono ?_
      rintro e wy ⟨pY, kY, b2, rfl, ho2, hb2⟩
      have bl2 : Below wx.heap.size wx wy := (below_alloc wx _).trans (hb2.mono (by simp))
      have Iy := Lib.hid (ho2.mono (lo' := wx.heap.size) (by rw [size_alloc]; omega) (Nat.le_refl _))
      have Zz2 := Lib.hid (blk_later Zz1.out bl2)
      have Cu2 := Lib.hid (Cu1.out.below bl2)
      have Fr2 := Lib.hid (Fr1.out.thenB bl2 (by omega))
      have hs2' := bl2.size
      have hs3' := hb2.size
      rw [size_alloc] at hs3'
      clear ho2 hb2 bl2 q0 q1 q2 q3 qf qz
      have hby := below_alloc wy (.cells #[.int .i64 (p : Int), .int .i64 (i : Int), .int .i64 (i : Int), .slice pY DY.length kY] 34)
      have Iy3 := Lib.hid (Iy.out.below hby)
      have Zz3 := Lib.hid (blk_later Zz2.out hby)
      have Cu3 := Lib.hid (Cu2.out.below hby)
      have Fr3 := Lib.hid (Fr2.out.thenB hby (by omega))
      have hs4' := hby.size
      obtain ⟨t0, t1, t2, t3, tf, tz⟩ := blk4 (heap_alloc_top wy (.cells #[.int .i64 (p : Int), .int .i64 (i : Int), .int .i64 (i : Int), .slice pY DY.length kY] 34))
      obtain ⟨z0, z1, z2, z3, zf, zz⟩ := blk4 Zz3.out
      clear hby
      go_wp2_with fail
      obtain ⟨f0, f1, f2, f3, ff, fz⟩ := blk4 (set4_all Zz3.out (.int .i64 (p : Int)) (.int .i64 (i : Int)) (.int .i64 (i : Int)) (.slice pY DY.length kY))
      refine bodyPost_ret (v := .agg #[.int .i64 (p : Int), .int .i64 (i : Int), .int .i64 (i : Int), .slice pY DY.length kY]) (by simp [results, Try.results47, go_sem, f0, f1, f2, f3, fz]) rfl ⟨pY, kY, DY, rfl, ?_, Hfl.out, ?_, ?_⟩
      · exact (own_set4 Iy3.out (.inl (by omega)) _ _ _ _).mono (by omega) (by simp only [size_setCell]; omega)
      · exact Cu3.out.keepB (below_set4 (Below.refl w.heap.size _) (Nat.le_refl _) _ _ _ _) hk
      · exact Fr3.out.thenB (below_set4 (Below.refl w.heap.size _) (Nat.le_refl _) _ _ _ _) (Nat.le_refl _)
theorem dFlag_any (k n : Nat) (P : Int) (w : World) (h : Cur w k) (hp : primeOk P = true) (h1 : 1 ≤ n) (h5 : n ≤ 5) :
    Calls Try.prog 47 #[.pointer (some ⟨k, 0, none⟩), .int .i64 P, .int .i64 (n : Int)] w fun e w' =>
      ∃ (pd : Option Addr) (kd : Nat) (D : List Int), e = .returned (.agg #[.int .i64 P, .int .i64 (n : Int), .int .i64 (n : Int), .slice pd D.length kd]) ∧ OwnI 3 w' w.heap.size w'.heap.size (.slice pd D.length kd) D ∧ IsFl P n n D ∧ Cur w' k ∧ Frm k (k + 1) w w' := by
  obtain ⟨hP2, _⟩ := primeOk_range hp
  obtain ⟨p, rfl⟩ := Int.eq_ofNat_of_zero_le (show 0 ≤ P by omega)
  exact dFlag_nat k n p w h hp h1 h5

end Go.Proofs.Ytoodgbflaaabmaa

namespace Go.Proofs.Ytoodgbflaaabmaa
set_option linter.all false
open Go.RowKit

set_option maxRecDepth 100000 in
set_option maxHeartbeats 4000000 in
theorem dSpace_any (k : Nat) (P : Int) (n : Nat) (w : World) (h : Cur w k) (hp : primeOk P = true) (h1 : 1 ≤ n) (hn : n ≤ 7) :
    Calls Try.prog 58 #[.pointer (some ⟨k, 0, none⟩), .int .i64 P, .int .i64 (n : Int)] w fun e w' =>
      ∃ (r : Nat) (u : Value) (D : List Int), e = .returned (.agg #[.int .i64 P, .int .i64 (r : Int), .int .i64 (n : Int), u]) ∧ OwnI 3 w' w.heap.size w'.heap.size u D ∧ IsSp P r n D ∧ Cur w' k ∧ Frm k (k + 1) w w' := by
  obtain ⟨hP2, hP7⟩ := primeOk_range hp
  have Hp := Lib.hid hp
  have hk := h.lt
  have z0 := heap_alloc_top w (.cells #[.int .i64 0, .int .i64 0, .int .i64 0, .slice none 0 0] 34)
  have Hc := Lib.hid (h.below (below_alloc w (.cells #[.int .i64 0, .int .i64 0, .int .i64 0, .slice none 0 0] 34)))
  have HZ1 := Lib.hid z0
  have Hb1 := Lib.hid (below_alloc w (.cells #[.int .i64 0, .int .i64 0, .int .i64 0, .slice none 0 0] 34))
  have hs1 : (w.alloc (.cells #[.int .i64 0, .int .i64 0, .int .i64 0, .slice none 0 0] 34)).heap.size = w.heap.size + 1 := size_alloc _ _
  clear h z0 hp
  have hnn : (n : Int) + 1 = ((n + 1 : Nat) : Int) := by omega
  have Hnn := Lib.hid hnn
  clear hnn
  go_enter Try.func58, Try.ntmps58
  go_wp2_with fail
  generalize w.alloc (.cells #[.int .i64 0, .int .i64 0, .int .i64 0, .slice none 0 0] 34) = w1 at *
  rw [Hnn.out]
  refine (l1Below_any k (n + 1) _ Hc.out (by omega) (by omega)).mono ?_
  rintro e w2 ⟨r, rfl, hr, hc2, hf2⟩
  have HZ2 := Lib.hid ((hf2.block w.heap.size (by omega) (Or.inr (by omega))).trans HZ1.out)
  have Hf2 := Lib.hid ((Frm.of_below Hb1.out _ _).trans hf2)
  have hs2 := hf2.size
  clear hf2
  have Hc2 := Lib.hid hc2
  clear hc2
  go_wp2_with fail
  refine (dMatrix_any k P r n _ Hc2.out Hp.out (by omega) hn).mono ?_
  rintro e w3 ⟨u, D, rfl, ho3, hl3, hD3, hc3, hf3⟩
  have HZ3 := Lib.hid ((hf3.block w.heap.size (by omega) (Or.inr (by omega))).trans HZ2.out)
  have Hf3 := Lib.hid (Hf2.out.trans hf3)
  have hs3 := hf3.size
  have Hc3 := Lib.hid hc3
  have Ho3 := Lib.hid ho3
  have Hl3 := Lib.hid hl3
  have HD3 := Lib.hid (fun t => getD_range hD3 (by omega) t)
  clear hf3 hc3 ho3 hl3 hD3
  obtain ⟨p3, k3, rfl, _, _⟩ := Ho3.out.shape
  go_wp2_with fail
  refine (l7Span_any P r n _ D _ Ho3.out.ints Hl3.out HD3.out Hp.out (by omega) (by omega)).mono ?_
  rintro e w4 ⟨m, M, q, hred, hm, v, rfl, ho4, hb4⟩
  obtain ⟨L, hL⟩ : ∃ L, L = flatM m n M := ⟨_, rfl⟩
  rw [← hL] at ho4 ⊢
  have HL := Lib.hid hL
  have Ho4 := Lib.hid ho4
  have hs4 := hb4.size
  have HZ4 := Lib.hid (blk_later HZ3.out hb4)
  have Hc4 := Lib.hid (Hc3.out.below hb4)
  have Hf4 := Lib.hid (Hf3.out.trans (Frm.of_below hb4 _ _))
  have Hred := Lib.hid hred
  obtain ⟨p4, k4, rfl, _, _⟩ := ho4.shape
  clear hL ho4 hb4 hred
  obtain ⟨n0, n1, n2, n3, nf', nz⟩ := blk4 HZ4.out
  go_wp2_with fail
  obtain ⟨f0, f1, f2, f3, ff, fz⟩ := blk4 (set4_all HZ4.out (.int .i64 P) (.int .i64 m) (.int .i64 n) (.slice p4 L.length k4))
  refine bodyPost_ret (v := .agg #[.int .i64 P, .int .i64 m, .int .i64 n, .slice p4 L.length k4]) (by simp [results, Try.results58, go_sem, f0, f1, f2, f3, fz]) rfl ⟨m, _, L, rfl, ?_, ?_, ?_, ?_⟩
  · exact (own_set4 Ho4.out (.inl (by omega)) _ _ _ _).mono (by omega) (by simp only [size_setCell]; omega)
  · rw [HL.out]; exact Hred.out.isSp Hp.out h1 hn
  · exact Hc4.out.keepB (below_set4 (Below.refl w.heap.size w4) (Nat.le_refl _) _ _ _ _) hk
  · exact Hf4.out.thenB (below_set4 (Below.refl w.heap.size w4) (Nat.le_refl _) _ _ _ _) (Nat.le_refl _)

theorem set4_other {w : World} {b b' : Nat} {o : Obj} (h : w.heap[b]? = some o) (hne : b ≠ b') (x0 x1 x2 x3 : Value) : ((((w.setCell ⟨b', 0, none⟩ x0).setCell ⟨b', 1, none⟩ x1).setCell ⟨b', 2, none⟩ x2).setCell ⟨b', 3, none⟩ x3).heap[b]? = some o := by
  rw [heap_set4 hne]; exact h

end Go.Proofs.Ytoodgbflaaabmaa

namespace Go.Proofs.Ytoodgbflaaabmaa
set_option linter.all false
open Go.RowKit

/-- i parts are drawn, m is the most that the next may have -/
structure ShUp (xs : List Int) (i c m : Nat) : Prop where
  len : xs.length = i
  each : ∀ j, j < i → shAt xs j
  le : m ≤ c
  zero : i = 0 → m = c
  last : 0 < i → xs.getD (i - 1) 0 = (m : Int)
  first : 0 < i → xs.getD 0 0 ≤ (c : Int)
theorem ShUp.nil (c : Nat) : ShUp [] 0 c c := ⟨rfl, fun j h => absurd h (Nat.not_lt_zero _), Nat.le_refl _, fun _ => rfl, fun h => absurd h (Nat.lt_irrefl _), fun h => absurd h (Nat.lt_irrefl _)⟩
theorem ShUp.snoc {xs : List Int} {i c m x : Nat} (h : ShUp xs i c m) (hc : c ≤ 16) (h1 : 1 ≤ x) (hx : x ≤ m) : ShUp (xs ++ [(x : Int)]) (i + 1) c x := by
  obtain ⟨hl, he, hle, hz, hla, hfi⟩ := h
  have old : ∀ j, j < i → (xs ++ [(x : Int)]).getD j 0 = xs.getD j 0 := fun j hj => by
    rw [List.getD_eq_getElem?_getD, List.getElem?_append_left (by omega), ← List.getD_eq_getElem?_getD]
  have new : (xs ++ [(x : Int)]).getD i 0 = (x : Int) := by
    rw [List.getD_eq_getElem?_getD, List.getElem?_append_right (by omega)]
    simp [hl]
  refine ⟨by simp [hl], fun j hj => ?_, by omega, fun e => absurd e (by omega), fun _ => by rw [Nat.add_sub_cancel]; exact new, fun _ => ?_⟩
  · unfold shAt
    by_cases e : j < i
    · have := he j e
      unfold shAt at this
      rw [old j e]
      refine ⟨this.1, this.2.1, fun h0 => ?_⟩
      rw [old (j - 1) (by omega)]
      exact this.2.2 h0
    · obtain rfl : j = i := by omega
      rw [new]
      refine ⟨by omega, by omega, fun h0 => ?_⟩
      rw [old (j - 1) (by omega), hla h0]
      omega
  · by_cases e : i = 0
    · subst e
      rw [new]; omega
    · rw [old 0 (by omega)]; exact hfi (by omega)
theorem ShUp.box {xs : List Int} {i r c m : Nat} (h : ShUp xs i c m) (hi : i ≤ r) (hr : r ≤ 16) : bxOk xs r (r + c) = true := by
  obtain ⟨hl, he, hle, hz, hla, hfi⟩ := h
  rw [bx_end (shOk_yes (by omega) (fun j hj => he j (by omega))) (by omega)]
  refine decide_eq_true ?_
  by_cases e : i = 0
  · have : xs = [] := List.eq_nil_of_length_eq_zero (by omega)
    subst this
    show (0 : Int) ≤ _
    omega
  · have := hfi (by omega)
    omega

set_option maxRecDepth 100000 in
set_option maxHeartbeats 2000000 in
/-- any shape in a box -/
theorem dShape_any (k r c : Nat) (w : World) (h : Cur w k) (hr : r ≤ 7) (hc : c ≤ 7) :
    Calls Try.prog 48 #[.pointer (some ⟨k, 0, none⟩), .int .i64 (r : Int), .int .i64 (c : Int)] w fun e w' =>
      ∃ (u : Value) (xs : List Int), e = .returned u ∧ OwnI 3 w' w.heap.size w'.heap.size u xs ∧ bxOk xs r (r + c) = true ∧ Cur w' k ∧ Frm k (k + 1) w w' := by
  have Hc := Lib.hid h
  have hk := h.lt
  clear h
  go_enter Try.func48, Try.ntmps48
  go_wp2_with fail
  go_loopg [7, 8, 9] r (fun g s7 s8 s9 wr => ∃ (i m : Nat) (xs : List Int), i ≤ r ∧ g = r - i ∧ s9 = .int .i64 i ∧ s8 = .int .i64 m ∧ m ≤ c ∧ Hid (ShUp xs i c m) ∧ Hid (OwnI 3 wr w.heap.size wr.heap.size s7 xs) ∧ Hid (Cur wr k) ∧ Hid (Frm k (k + 1) w wr))
  case atStart =>
    refine ⟨0, c, [], Nat.zero_le _, rfl, rfl, rfl, Nat.le_refl _, ShUp.nil c, ?_, Hc.out.below (below_alloc w _), Frm.of_below (below_alloc w _) _ _⟩
    exact OwnF.ints ((OwnF.made0 w 3 (iv [])).mono (Nat.le_refl _) (by simp))
  case round =>
    obtain ⟨i, m, xs, hi, rfl, rfl, rfl, hm, hu, ho, hcu, hf⟩ := hrel
    have hsr := hf.out.size
    by_cases hlt : i < r
    · have hlt2 : (i : Int) < (r : Int) := by omega
      by_cases hm0 : 0 < m
      · have hm2 : (0 : Int) < (m : Int) := by omega
        have Hm1 := Lib.hid (show (m : Int) + 1 = ((m + 1 : Nat) : Int) by omega)
        obtain ⟨p5, k5, rfl, _, _⟩ := ho.out.shape
        have hofn := ho.out.fn
        have hml : xs.length = i := hu.out.len
        rw [hml] at hofn ⊢
        have Ho := Lib.hid hofn
        have Hoi := Lib.hid (show OwnI 3 wr w.heap.size wr.heap.size (.slice p5 i k5) xs by rw [← hml]; exact ho.out)
        have Hml := Lib.hid hml
        have Hcu := Lib.hid hcu.out
        have Hf := Lib.hid hf.out
        have Hu := Lib.hid hu.out
        have Hb1 := Lib.hid (show i + 1 ≤ maxLen by unfold maxLen; omega)
        have Hb2 := Lib.hid (show (i + 1) * 8 ≤ 140737488355328 by omega)
        clear ho hofn hml hcu hf hu
        go_wp2_with fail
        rw [Hm1.out]
        refine (l1Below_any k (m + 1) _ Hcu.out (by omega) (by omega)).mono ?_
        rintro e w1 ⟨x, rfl, hx, hc1, hf1⟩
        have hs1 := hf1.size
        have Ho1 := Lib.hid (Ho.out.frm hf1 (Or.inr (by omega)))
        have Hoi1 := Lib.hid (Hoi.out.frm hf1 (Or.inr (by omega)))
        have Hc1 := Lib.hid hc1
        have Hf1 := Lib.hid (Hf.out.trans hf1)
        clear hc1 hf1
        by_cases hx0 : x = 0
        · subst hx0
          go_wp2_with fail
          go_ret
          exact ⟨_, xs, rfl, by have := Hoi1.out.mono (Nat.le_refl _) hs1; exact this, Hu.out.box hi (by omega), Hc1.out, Hf1.out⟩
        · have hx2 : ¬ (x : Int) = 0 := by omega
          go_wp2_with (at_builtin; go_must (refine wpList_append_F rfl (.tmp 29) (.tmp 31) 24 rfl 3 (.int .i64 0) 8 Try.underlying24 info_int rfl w.heap.size wr.heap.size _ i (iv xs) rfl (Ho1.out.below (below_alloc w1 _)) (by rw [size_alloc]; omega) (by rw [size_alloc]; omega) _ 1 _ rfl (rd_one _ _ _ rfl) (fun j _ => rfl) Hb1.out Hb2.out ?_; intro v2 w2 ho2 hg2))
          go_roundg (r - (i + 1))
          case measure => omega
          case rel =>
            have hbx : Below w.heap.size w1 w2 := ((below_alloc w1 _).mono (by omega)).trans (grownBy_below hg2 Ho1.out.blocks (Nat.le_refl _) (by rw [size_alloc]; omega))
            refine ⟨i + 1, x, xs ++ [(x : Int)], by omega, rfl, by go_num, rfl, by omega, Hu.out.snoc (by omega) (by omega) (by omega), ?_, Hc1.out.keepB hbx hk, Hf1.out.thenB hbx (Nat.le_refl _)⟩
            exact OwnI.snoc1 (by rw [Hml.out]; exact ho2)
      · have hm2 : ¬ (0 : Int) < (m : Int) := by omega
        obtain ⟨p5, k5, rfl, _, _⟩ := ho.out.shape
        go_wp2_with fail
        go_ret
        exact ⟨_, rfl, xs, ho.out, hu.out.box hi (by omega), hcu.out, hf.out⟩
    · have hlt2 : ¬ (i : Int) < (r : Int) := by omega
      obtain ⟨p5, k5, rfl, _, _⟩ := ho.out.shape
      go_wp2_with fail
      go_ret
      exact ⟨_, rfl, xs, ho.out, hu.out.box hi (by omega), hcu.out, hf.out⟩

end Go.Proofs.Ytoodgbflaaabmaa

namespace Go.Proofs.Ytoodgbflaaabmaa
set_option linter.all false
open Go.RowKit

/-- the cells of two results, and the cursor -/
structure R2 (w : World) (k : Nat) (W : World) : Prop where
  z0 : ∃ y0 y1 y2 y3, W.heap[w.heap.size]? = some (.cells #[y0, y1, y2, y3] 34 (0, 0))
  z1 : ∃ y0 y1 y2 y3, W.heap[w.heap.size + 1]? = some (.cells #[y0, y1, y2, y3] 34 (0, 0))
  cu : Cur W k
  kk : w.heap.size + 1 < k
  be : Below w.heap.size w W
theorem R2.frm {w W W' : World} {k : Nat} (h : R2 w k W) (hf : Frm k (k + 1) W W') (hc : Cur W' k) : R2 w k W' := by
  obtain ⟨⟨a0, a1, a2, a3, a⟩, ⟨b0, b1, b2, b3, b⟩, cu, kk, be⟩ := h
  exact ⟨⟨a0, a1, a2, a3, (hf.block _ (blk_lt a) (Or.inl (by omega))).trans a⟩, ⟨b0, b1, b2, b3, (hf.block _ (blk_lt b) (Or.inl (by omega))).trans b⟩, hc, kk, be.trans (hf.below (by omega) be.size)⟩
theorem R2.below {w W W' : World} {k : Nat} (h : R2 w k W) (hb : Below W.heap.size W W') : R2 w k W' := h.frm (Frm.of_below hb _ _) (h.cu.below hb)
/-- one box -/
structure Q1 (b : Nat) (P : Int) (r n : Nat) (v : Value) (W : World) : Prop where
  a : W.heap[b]? = some (.cells #[.int .i64 P, .int .i64 (r : Int), .int .i64 (n : Int), v] 34 (0, 0))
theorem Q1.frm {b r n k : Nat} {P : Int} {v : Value} {W W' : World} (h : Q1 b P r n v W) (hf : Frm k (k + 1) W W') (ha : k < b) : Q1 b P r n v W' := ⟨(hf.block _ (blk_lt h.a) (Or.inr (by omega))).trans h.a⟩
theorem Q1.set {b r n t : Nat} {P : Int} {v : Value} {W : World} (h : Q1 b P r n v W) (ha : b ≠ t) (x0 x1 x2 x3 : Value) : Q1 b P r n v ((((W.setCell ⟨t, 0, none⟩ x0).setCell ⟨t, 1, none⟩ x1).setCell ⟨t, 2, none⟩ x2).setCell ⟨t, 3, none⟩ x3) := ⟨set4_other h.a ha _ _ _ _⟩
theorem Q1.drew {b r n : Nat} {P : Int} {v : Value} {W : World} (h : Q1 b P r n v W) : Q1 b P r n v W.drew := ⟨h.a⟩
theorem Q1.hold {b r n : Nat} {P : Int} {v : Value} {W : World} (h : Q1 b P r n v W) : (W.cell? ⟨b, 0, none⟩ = some (.int .i64 P) ∧ W.cell? ⟨b, 1, none⟩ = some (.int .i64 (r : Int)) ∧ W.cell? ⟨b, 2, none⟩ = some (.int .i64 (n : Int)) ∧ W.cell? ⟨b, 3, none⟩ = some v) := by
  obtain ⟨a0, a1, a2, a3, _, _⟩ := blk4 h.a
  exact ⟨a0, a1, a2, a3⟩

set_option maxRecDepth 100000 in
set_option maxHeartbeats 8000000 in
theorem DrawSpaceAndFlag_any (v : Value) (l : Nat) (w : World) (h : Byts w v l) :
    Calls Try.prog 25 #[v] w fun e w' =>
      ∃ (P : Int) (r n : Nat) (us uf ux : Value) (DS DF xs : List Int), e = .returned (.tuple #[.agg #[.int .i64 P, .int .i64 (r : Int), .int .i64 (n : Int), us], .agg #[.int .i64 P, .int .i64 (n : Int), .int .i64 (n : Int), uf], ux]) ∧
        n ≤ 5 ∧ r ≤ n ∧ 1 ≤ n ∧ (Ints w' us DS ∧ IsSp P r n DS) ∧ (Ints w' uf DF ∧ IsFl P n n DF) ∧ (Ints w' ux xs ∧ bxOk xs r n = true) ∧ Below w.heap.size w w' := by
  have Hc := Lib.hid (h.below (below_alloc2 w (.cells #[.int .i64 0, .int .i64 0, .int .i64 0, .slice none 0 0] 34) (.cells #[.int .i64 0, .int .i64 0, .int .i64 0, .slice none 0 0] 34)))
  obtain ⟨z0, z1⟩ := boxes_ab w (.cells #[.int .i64 0, .int .i64 0, .int .i64 0, .slice none 0 0] 34) (.cells #[.int .i64 0, .int .i64 0, .int .i64 0, .slice none 0 0] 34)
  have Hb1 := Lib.hid (below_alloc2 w (.cells #[.int .i64 0, .int .i64 0, .int .i64 0, .slice none 0 0] 34) (.cells #[.int .i64 0, .int .i64 0, .int .i64 0, .slice none 0 0] 34))
  have hs1 : ((w.alloc (.cells #[.int .i64 0, .int .i64 0, .int .i64 0, .slice none 0 0] 34)).alloc (.cells #[.int .i64 0, .int .i64 0, .int .i64 0, .slice none 0 0] 34)).heap.size = w.heap.size + 1 + 1 := by simp
  have Y0 := Lib.hid z0
  have Y1 := Lib.hid z1
  obtain ⟨_, _, cap, rfl, _⟩ := h
  clear z0 z1
  go_enter Try.func25, Try.ntmps25
  go_wp2_with fail
  generalize (w.alloc (.cells #[.int .i64 0, .int .i64 0, .int .i64 0, .slice none 0 0] 34)).alloc (.cells #[.int .i64 0, .int .i64 0, .int .i64 0, .slice none 0 0] 34) = w1 at *
  refine (l1New_any _ l _ Hc.out).mono ?_
  rintro e w2 ⟨rfl, hc2, hb2⟩
  rw [hs1] at hc2 ⊢
  have hR2 : R2 w (w.heap.size + 1 + 1) w2 := ⟨⟨_, _, _, _, blk_later Y0.out hb2⟩, ⟨_, _, _, _, blk_later Y1.out hb2⟩, hc2, by omega, Hb1.out.trans (hb2.mono (by omega))⟩
  have HR2 := Lib.hid hR2
  have hk2 := hc2.lt
  clear hR2 hc2 hb2 Y0 Y1 Hb1 Hc
  go_wp2_with fail
  refine (dPrime_any (w.heap.size + 1 + 1) _ HR2.out.cu).mono ?_
  rintro e w3 ⟨P, rfl, hp, hc3, hf3⟩
  have Hp := Lib.hid hp
  have HR3 := Lib.hid (HR2.out.frm hf3 hc3)
  have hs3 := hf3.size
  clear hp hc3 hf3
  go_wp2_with fail
  refine (l1Below_any (w.heap.size + 1 + 1) 5 _ HR3.out.cu (by omega) (by omega)).mono ?_
  rintro e w4 ⟨m, rfl, hm, hc4, hf4⟩
  have HR4 := Lib.hid (HR3.out.frm hf4 hc4)
  have hs4 := hf4.size
  have hmm : 1 + (m : Int) = ((m + 1 : Nat) : Int) := by omega
  obtain ⟨n, hn⟩ : ∃ n, n = m + 1 := ⟨_, rfl⟩
  rw [← hn] at hmm
  have Hmm := Lib.hid hmm
  have hn1 : 1 ≤ n := by omega
  have hn5 : n ≤ 5 := by omega
  clear hn hc4 hf4 hmm
  go_wp2_with fail
  rw [Hmm.out]
  refine (dSpace_any (w.heap.size + 1 + 1) P n _ HR4.out.cu Hp.out hn1 (by omega)).mono ?_
  rintro e w5 ⟨r, us, DS, rfl, hoS, hsS, hc5, hf5⟩
  have hrn : r ≤ n := by
    obtain ⟨r', c', e1, e2, _, _, _, _, _, _, _, _, hk⟩ := hsS.facts
    obtain rfl := Int.ofNat.inj e1
    obtain rfl := Int.ofNat.inj e2
    exact hk.leC
  obtain ⟨pS, kS, rfl, _, _⟩ := hoS.shape
  have HoS := Lib.hid hoS
  have HsS := Lib.hid hsS
  have HR5 := Lib.hid (HR4.out.frm hf5 hc5)
  have hs5 := hf5.size
  clear hoS hsS hc5 hf5
  go_wp2_with fail
  obtain ⟨w6, hw6⟩ : ∃ x : World, x = w5.alloc (.cells #[.int .i64 P, .int .i64 (r : Int), .int .i64 (n : Int), .slice pS DS.length kS] 34) := ⟨_, rfl⟩
  have hz6 : w6.heap[w5.heap.size]? = some (.cells #[.int .i64 P, .int .i64 (r : Int), .int .i64 (n : Int), .slice pS DS.length kS] 34) := by rw [hw6]; exact heap_alloc_top _ _
  have hb6 : Below w5.heap.size w5 w6 := by rw [hw6]; exact below_alloc _ _
  have hs6 : w6.heap.size = w5.heap.size + 1 := by rw [hw6]; exact size_alloc _ _
  rw [← hw6]
  have HoS6 := Lib.hid (HoS.out.below hb6)
  have HR6 := Lib.hid (HR5.out.below hb6)
  have HQ := Lib.hid (show Q1 w5.heap.size P r n (.slice pS DS.length kS) w6 from ⟨hz6⟩)
  have nk : w.heap.size + 1 + 1 < w5.heap.size := by have := HR5.out.cu.lt; exact this
  have na0 : w5.heap.size ≠ w.heap.size := by omega
  have na1 : w5.heap.size ≠ w.heap.size + 1 := by omega
  have Hnr := Lib.hid (show (n : Int) - (r : Int) = ((n - r : Nat) : Int) by omega)
  have Hw := Lib.hid (show IntKind.i64.wrap ((n : Int) - (r : Int)) = ((n - r : Nat) : Int) by rw [k64 (by omega) (by omega)]; omega)
  have Hrn2 := Lib.hid (show r + (n - r) = n by omega)
  clear hw6 hz6 hb6
  obtain ⟨a0, a1, a2, a3, af, az⟩ := blk4 HQ.out.a
  go_region_held3 (fun w' => w'.cell? ⟨w5.heap.size, 0, none⟩ = some (.int .i64 P) ∧ w'.cell? ⟨w5.heap.size, 1, none⟩ = some (.int .i64 (r : Int)) ∧ w'.cell? ⟨w5.heap.size, 2, none⟩ = some (.int .i64 (n : Int)) ∧ w'.cell? ⟨w5.heap.size, 3, none⟩ = some (.slice pS DS.length kS))
    (first | with_reducible exact HQ.out.drew.hold | with_reducible exact HQ.out.hold | with_reducible exact hq2.hold | with_reducible exact hq1.hold | with_reducible exact (hq2.set na0 _ _ _ _).hold | with_reducible exact ((hq2.set na0 _ _ _ _).set na1 _ _ _ _).hold | (trace_state; fail))
    (first
      | (go_at_call 48; (first | rw [Hw.out] | rw [Hnr.out]); refine (dShape_any (w.heap.size + 1 + 1) r (n - r) _ (hR1.below (by first | exact Below.refl _ _ | exact (Below.refl _ _).drew)).cu (by omega) (by omega)).mono ?_; rintro e w' ⟨ux, xs, rfl, hoX, hbX, hc1, hf1⟩; obtain ⟨pX, kX, rfl, _, _⟩ := hoX.shape; have hoF2 := (OwnI.below hoF (by first | exact Below.refl _ _ | exact (Below.refl _ _).drew)).frm hf1 (Or.inr (Nat.le_of_lt_succ (Nat.lt_succ_of_le hlC))); have hR2 := (hR1.below (by first | exact Below.refl _ _ | exact (Below.refl _ _).drew)).frm hf1 hc1; have hq2 := (hq1.frm (Frm.of_below (by first | exact Below.refl _ _ | exact (Below.refl _ _).drew) (w.heap.size + 1 + 1) ((w.heap.size + 1 + 1) + 1)) nk).frm hf1 nk; obtain ⟨s0, s1, s2, s3, hz0⟩ := hR2.z0; obtain ⟨t0, t1, t2, t3, hz1⟩ := hR2.z1; obtain ⟨f0, f1, f2, f3, f4, f5⟩ := blk4 hz0; obtain ⟨g0, g1, g2, g3, g4, g5⟩ := blk4 hz1)
      | (go_at_call 47; refine (dFlag_any (w.heap.size + 1 + 1) n P _ (HR6.out.below (by first | exact Below.refl _ _ | exact (Below.refl _ _).drew)).cu Hp.out hn1 hn5).mono ?_; rintro e w' ⟨pF, kF, DF, rfl, hoF, hsF, hc1, hf1⟩; have hlC : w.heap.size + 1 + 1 + 1 ≤ w6.heap.size := HR6.out.cu.lt; have hR1 := (HR6.out.below (by first | exact Below.refl _ _ | exact (Below.refl _ _).drew)).frm hf1 hc1; have hq1 := (HQ.out.frm (Frm.of_below (by first | exact Below.refl _ _ | exact (Below.refl _ _).drew) (w.heap.size + 1 + 1) ((w.heap.size + 1 + 1) + 1)) nk).frm hf1 nk; have hf7 := Lib.hid ((Frm.of_below (by first | exact Below.refl _ _ | exact (Below.refl _ _).drew) (w.heap.size + 1 + 1) ((w.heap.size + 1 + 1) + 1)).trans hf1); clear hf1))
  have n1 : w.heap.size ≠ w.heap.size + 1 := by omega
  have hF6 : w6.heap.size ≤ w'.heap.size := by
    have h8 : w6.heap.size ≤ _ := hf7.out.size
    have h9 := hf1.size
    omega
  have q0 := own_set4 (own_set4 (((HoS6.out.below (Below.refl _ _).drew).frm hf7.out (Or.inr (by omega))).frm hf1 (Or.inr (by omega))) (Or.inl (show w.heap.size < w4.heap.size by omega)) (.int .i64 P) (.int .i64 (r : Int)) (.int .i64 (n : Int)) (.slice pS DS.length kS)) (Or.inl (show w.heap.size + 1 < w4.heap.size by omega)) (.int .i64 P) (.int .i64 (n : Int)) (.int .i64 (n : Int)) (.slice pF DF.length kF)
  have q1 := own_set4 (own_set4 hoF2 (Or.inl (show w.heap.size < w6.drew.heap.size by show w.heap.size < w6.heap.size; omega)) (.int .i64 P) (.int .i64 (r : Int)) (.int .i64 (n : Int)) (.slice pS DS.length kS)) (Or.inl (show w.heap.size + 1 < w6.drew.heap.size by show w.heap.size + 1 < w6.heap.size; omega)) (.int .i64 P) (.int .i64 (n : Int)) (.int .i64 (n : Int)) (.slice pF DF.length kF)
  have hX5 := hR1.cu.lt
  have q2 := own_set4 (b := w.heap.size + 1) (own_set4 (b := w.heap.size) hoX (Or.inl (by omega)) (.int .i64 P) (.int .i64 (r : Int)) (.int .i64 (n : Int)) (.slice pS DS.length kS)) (Or.inl (by omega)) (.int .i64 P) (.int .i64 (n : Int)) (.int .i64 (n : Int)) (.slice pF DF.length kF)
  have r0 := set4_other (set4_all hz0 (.int .i64 P) (.int .i64 (r : Int)) (.int .i64 (n : Int)) (.slice pS DS.length kS)) n1 (.int .i64 P) (.int .i64 (n : Int)) (.int .i64 (n : Int)) (.slice pF DF.length kF)
  have r1 := set4_all (set4_other hz1 n1.symm (.int .i64 P) (.int .i64 (r : Int)) (.int .i64 (n : Int)) (.slice pS DS.length kS)) (.int .i64 P) (.int .i64 (n : Int)) (.int .i64 (n : Int)) (.slice pF DF.length kF)
  have r4 := below_set4 (below_set4 hR2.be (Nat.le_refl _) (.int .i64 P) (.int .i64 (r : Int)) (.int .i64 (n : Int)) (.slice pS DS.length kS)) (Nat.le_succ _) (.int .i64 P) (.int .i64 (n : Int)) (.int .i64 (n : Int)) (.slice pF DF.length kF)
  rw [Hrn2.out] at hbX
  clear hoF hc1 hf1 hf7 hoX hoF2 hR2 hR1 hq2 hq1 hz0 hz1 f0 f1 f2 f3 f4 f5 g0 g1 g2 g3 g4 g5
  generalize ((((((((w').setCell ⟨w.heap.size, 0, none⟩ (.int .i64 P)).setCell ⟨w.heap.size, 1, none⟩ (.int .i64 (r : Int))).setCell ⟨w.heap.size, 2, none⟩ (.int .i64 (n : Int))).setCell ⟨w.heap.size, 3, none⟩ (.slice pS DS.length kS)).setCell ⟨w.heap.size + 1, 0, none⟩ (.int .i64 P)).setCell ⟨w.heap.size + 1, 1, none⟩ (.int .i64 (n : Int))).setCell ⟨w.heap.size + 1, 2, none⟩ (.int .i64 (n : Int))).setCell ⟨w.heap.size + 1, 3, none⟩ (.slice pF DF.length kF) = wz at q0 q1 q2 r0 r1 r4 ⊢
  obtain ⟨c00, c01, c02, c03, c0f, c0z⟩ := blk4 r0
  obtain ⟨c10, c11, c12, c13, c1f, c1z⟩ := blk4 r1
  go_wp2_with fail
  refine bodyPost_ret (v := .tuple #[.agg #[.int .i64 P, .int .i64 (r : Int), .int .i64 (n : Int), .slice pS DS.length kS], .agg #[.int .i64 P, .int .i64 (n : Int), .int .i64 (n : Int), .slice pF DF.length kF], .slice pX xs.length kX]) (by simp [results, Try.results25, go_sem, c00, c01, c02, c03, c0z, c10, c11, c12, c13, c1z]) rfl ?_
  refine ⟨P, r, n, .slice pS DS.length kS, .slice pF DF.length kF, .slice pX xs.length kX, DS, DF, xs, ?_, hn5, hrn, hn1, ⟨?_, ?_⟩, ⟨?_, ?_⟩, ⟨?_, ?_⟩, ?_⟩
  · rfl
  · exact q0.ints
  · exact HsS.out
  · exact q1.ints
  · exact hsF
  · exact q2.ints
  · exact hbX
  · exact r4

end Go.Proofs.Ytoodgbflaaabmaa
