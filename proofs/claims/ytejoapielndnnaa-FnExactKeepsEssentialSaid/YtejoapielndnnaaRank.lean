/-
  The rank, on both sides.
-/
import Derived.Test.YtejoapielndnnaaL7Red
import Derived.Test.YtejoapielndnnaaRedI
import Derived.Test.YtejoapielndnnaaMulS
namespace Go.Proofs.Ytejoapielndnnaa
set_option linter.all false
open Go.RowKit

/-- the reduced form of what R rows span: n rows M with the columns q -/
def IsRed (P : Int) (C R : Nat) (M0 : Nat → Nat → Int) (n : Nat) (M : Nat → Nat → Int) (q : Nat → Nat) : Prop :=
  Red P C n M q ∧ (∀ i k, i < k → k < n → q i < q k) ∧ (∀ i c, i < n → c < C → 0 ≤ M i c ∧ M i c < P) ∧ SameSp P C R M0 n M
theorem IsRed.one {P : Int} {C R n n' : Nat} {M0 M M' : Nat → Nat → Int} {q q' : Nat → Nat} (hP : 2 ≤ P) (h : IsRed P C R M0 n M q) (h' : IsRed P C R M0 n' M' q') :
    n = n' ∧ (∀ i, i < n → q i = q' i) ∧ ∀ i j, i < n → j < C → M i j = M' i j :=
  red_unique hP h.1 h'.1 h.2.1 h'.2.1 (h.2.2.2.symm.trans h'.2.2.2) h.2.2.1 h'.2.2.1
def HasRank (P : Int) (C R : Nat) (M0 : Nat → Nat → Int) (n : Nat) : Prop := ∃ M q, IsRed P C R M0 n M q
theorem HasRank.one {P : Int} {C R n n' : Nat} {M0 : Nat → Nat → Int} (hP : 2 ≤ P) (h : HasRank P C R M0 n) (h' : HasRank P C R M0 n') : n = n' := by
  obtain ⟨M, q, h⟩ := h
  obtain ⟨M', q', h'⟩ := h'
  exact (h.one hP h').1
/-- from rows of lists to what lies flat -/
theorem rows_flat {P : Int} {C R : Nat} {D : List Int} : SameSp P C R (mf C fun t => D.getD t 0) (rowsOf R C D).length (mt (rowsOf R C D)) := by
  rw [rowsOf_length]
  refine SameSp.of_eqv fun i hi => .of_eq fun c hc => ?_
  unfold mf mt
  rw [rowsOf_getD hi, rowAt_getD hc]
theorem rowsOf_ok {P : Int} {C R : Nat} {D : List Int} (h : D.length = R * C) (hr : ∀ t, 0 ≤ D.getD t 0 ∧ D.getD t 0 < P) : RowsOk P C (rowsOf R C D) := fun i hi => by
  rw [rowsOf_length] at hi
  have hl : (rowAt C D i).length = C := rowAt_length (by rw [h]; exact mul_le_of hi)
  rw [rowsOf_getD hi]
  refine ⟨hl, fun j => ?_⟩
  by_cases hj : j < C
  · rw [rowAt_getD hj]; exact hr _
  · rw [getD_out (by omega)]
    have := hr 0
    omega

set_option maxRecDepth 100000 in
set_option maxHeartbeats 2000000 in
theorem l7Rank_any (P : Int) (R C : Nat) (d : Value) (D : List Int) (w : World) (hd : Ints w d D) (hD : D.length = R * C) (hrg : ∀ t, 0 ≤ D.getD t 0 ∧ D.getD t 0 < P) (hP : primeOk P = true) (hR : R ≤ 14) (hC : C ≤ 14) :
    Calls Try.prog 62 #[.agg #[.int .i64 P, .int .i64 (R : Int), .int .i64 (C : Int), d]] w fun e w' =>
      ∃ n : Nat, e = .returned (.int .i64 n) ∧ HasRank P C R (mf C fun t => D.getD t 0) n ∧ n ≤ R ∧ Below w.heap.size w w' := by
  have hd1 : Ints (w.alloc (.cells #[.int .i64 P, .int .i64 (R : Int), .int .i64 (C : Int), d] 27)) d D := hd.below (below_alloc w _)
  have hL := l7Reduce_any P R C d D _ hd1 hD hrg hP hR hC
  obtain ⟨p, cap, rfl, _⟩ := hd
  have HL := Lib.hid hL
  clear hL hD hrg hP hd1
  go_enter Try.func62, Try.ntmps62
  go_wp2_with fail
  refine HL.out.mono ?_
  rintro e w1 ⟨u, v, h, n, qf, rfl, hu, hv, hb, hn, hrg', hred, hasc, hz, hs⟩
  obtain ⟨p1, k1, rfl, _, _⟩ := hu.shape
  obtain ⟨p2, k2, rfl, _, _⟩ := hv.shape
  have hr : HasRank P C R (mf C fun t => D.getD t 0) n := ⟨mf C h, qf, hred, hasc, fun i c hi hc => hrg' i c (Nat.lt_of_lt_of_le hi hn) hc, hs⟩
  have Hr := Lib.hid hr
  have Hb := Lib.hid ((below_alloc w _).trans (hb.mono (by simp)))
  clear hu hv hb hrg' hred hasc hz hs hr
  go_wp2_with fail
  go_ret
  exact ⟨n, rfl, Hr.out, hn, Hb.out.alloc Hb.out.size _⟩

/-- what RankOf returns -/
def RkIs (P R C : Int) (D : List Int) (r : Int) : Prop :=
  if mxOk P R C D = true then ∃ n : Nat, r = n ∧ (n : Int) ≤ R ∧ HasRank P C.toNat R.toNat (mf C.toNat fun t => D.getD t 0) n else r = -1
theorem RkIs.one {P R C : Int} {D : List Int} {r r' : Int} (h : RkIs P R C D r) (h' : RkIs P R C D r') : r = r' := by
  unfold RkIs at h h'
  by_cases e : mxOk P R C D = true
  · rw [if_pos e] at h h'
    obtain ⟨n, rfl, _, h⟩ := h
    obtain ⟨n', rfl, _, h'⟩ := h'
    obtain ⟨_, _, _, _, _, _, _, _, _, hP, _⟩ := mxOk_facts e
    rw [h.one hP h']
  · rw [if_neg e] at h h'
    omega
theorem RkIs.eps {P R C : Int} {D : List Int} {r : Int} (h : RkIs P R C D r) : r = Classical.epsilon (RkIs P R C D) := h.one (Classical.epsilon_spec ⟨r, h⟩)

end Go.Proofs.Ytejoapielndnnaa
