/-
  The rank, on both sides.
-/
import Derived.Test.YtmnlpkmnbjoicaaL7Red
import Derived.Test.YtmnlpkmnbjoicaaRedI
import Derived.Test.YtmnlpkmnbjoicaaMulS
namespace Go.Proofs.Ytmnlpkmnbjoicaa
set_option linter.all false
open Go.RowKit

/-- the reduced form of what R rows span: n rows M with the columns q -/
def IsRed (P : Int) (C R : Nat) (M0 : Nat → Nat → Int) (n : Nat) (M : Nat → Nat → Int) (q : Nat → Nat) : Prop :=
  Red P C n M q ∧ (∀ i k, i < k → k < n → q i < q k) ∧ (∀ i c, i < n → c < C → 0 ≤ M i c ∧ M i c < P) ∧ SameSp P C R M0 n M
theorem IsRed.one {P : Int} {C R n n' : Nat} {M0 M M' : Nat → Nat → Int} {q q' : Nat → Nat} (hP : 2 ≤ P) (h : IsRed P C R M0 n M q) (h' : IsRed P C R M0 n' M' q') :
    n = n' ∧ (∀ i, i < n → q i = q' i) ∧ ∀ i j, i < n → j < C → M i j = M' i j :=
  red_unique hP h.1 h'.1 h.2.1 h'.2.1 (h.2.2.2.symm.trans h'.2.2.2) h.2.2.1 h'.2.2.1
def HasRank (P : Int) (C R : Nat) (M0 : Nat → Nat → Int) (n : Nat) : Prop := ∃ M q, IsRed P C R M0 n M q
theorem HasRank.one {P : Int} {C R n n' : Nat} {M0 : Nat → Nat → Int} (hP : 2 ≤ P) (h : HasRank P C R M0 n) (h' : HasRank P C R M0 n') : n = n' := by
  obtain ⟨M, q, h⟩ := h
  obtain ⟨M', q', h'⟩ := h'
  exact (h.one hP h').1
/-- from rows of lists to what lies flat -/
theorem rows_flat {P : Int} {C R : Nat} {D : List Int} : SameSp P C R (mf C fun t => D.getD t 0) (rowsOf R C D).length (mt (rowsOf R C D)) := by
  rw [rowsOf_length]
  refine SameSp.of_eqv fun i hi => .of_eq fun c hc => ?_
  unfold mf mt
  rw [rowsOf_getD hi, rowAt_getD hc]
theorem rowsOf_ok {P : Int} {C R : Nat} {D : List Int} (h : D.length = R * C) (hr : ∀ t, 0 ≤ D.getD t 0 ∧ D.getD t 0 < P) : RowsOk P C (rowsOf R C D) := fun i hi => by
  rw [rowsOf_length] at hi
  have hl : (rowAt C D i).length = C := rowAt_length (by rw [h]; exact mul_le_of hi)
  rw [rowsOf_getD hi]
  refine ⟨hl, fun j => ?_⟩
  by_cases hj : j < C
  · rw [rowAt_getD hj]; exact hr _
  · rw [getD_out (by omega)]
    have := hr 0
    omega

/-- what RankOf returns -/
def RkIs (P R C : Int) (D : List Int) (r : Int) : Prop :=
  if mxOk P R C D = true then ∃ n : Nat, r = n ∧ (n : Int) ≤ R ∧ HasRank P C.toNat R.toNat (mf C.toNat fun t => D.getD t 0) n else r = -1
theorem RkIs.one {P R C : Int} {D : List Int} {r r' : Int} (h : RkIs P R C D r) (h' : RkIs P R C D r') : r = r' := by
  unfold RkIs at h h'
  by_cases e : mxOk P R C D = true
  · rw [if_pos e] at h h'
    obtain ⟨n, rfl, _, h⟩ := h
    obtain ⟨n', rfl, _, h'⟩ := h'
    obtain ⟨_, _, _, _, _, _, _, _, _, hP, _⟩ := mxOk_facts e
    rw [h.one hP h']
  · rw [if_neg e] at h h'
    omega
theorem RkIs.eps {P R C : Int} {D : List Int} {r : Int} (h : RkIs P R C D r) : r = Classical.epsilon (RkIs P R C D) := h.one (Classical.epsilon_spec ⟨r, h⟩)

set_option maxRecDepth 100000 in
set_option maxHeartbeats 1000000 in
theorem implRankOf_ex (P R C : Int) (d : Value) (D : List Int) (w : World) (hd : Ints w d D) :
    Calls Try.prog 13 #[.agg #[.int .i64 P, .int .i64 R, .int .i64 C, d]] w fun e w' => ∃ r, e = .returned (.int .i64 r) ∧ RkIs P R C D r ∧ Below w.heap.size w w' := by
  have Hd := Lib.hid hd
  obtain ⟨p, cap, rfl, ⟨_, mx⟩, _⟩ := hd
  unfold maxLen at mx
  cases h1 : mxOk P R C D with
  | false =>
    have H1 := Lib.hid h1
    clear h1
    go_enter Try.func13, Try.ntmps13
    go_wp2_with fail
    refine (implMatrixOk_b _ _ _ _ _ _ H1.out _ (Hd.out.below (below_alloc _ _))).mono ?_
    rintro e w1 ⟨rfl, hb1⟩
    have Hb1 := Lib.hid ((below_alloc w _).trans (hb1.mono (by simp)))
    clear hb1
    go_wp2_with fail
    go_ret
    exact ⟨_, rfl, by unfold RkIs; rw [H1.out]; rfl, Hb1.out⟩
  | true =>
    obtain ⟨r, c, rfl, rfl, hr, hc0, hc, hlD, hD, hP2, hP7, hpr⟩ := mxOk_facts h1
    have H1 := Lib.hid h1
    have Hrg := Lib.hid (fun t => getD_range hD (by omega) t)
    have HlD := Lib.hid hlD
    have Hpr := Lib.hid hpr
    clear h1 hlD hD hpr
    go_enter Try.func13, Try.ntmps13
    go_wp2_with fail
    refine (implMatrixOk_b _ _ _ _ _ _ H1.out _ (Hd.out.below (below_alloc _ _))).mono ?_
    rintro e w1 ⟨rfl, hb1⟩
    have Z := Lib.hid ((hb1.block _ (by simp)).trans (heap_alloc_top _ _))
    have Hb1 := Lib.hid ((below_alloc w _).trans (hb1.mono (by simp)))
    have Hd1 := Lib.hid (Hd.out.below Hb1.out)
    clear hb1
    obtain ⟨c0, c1, c2, c3, cf, cz⟩ := blk4 Z.out
    go_wp2_with fail
    go_region_held3 (fun w' => (w'.cell? ⟨w.heap.size, 0, none⟩ = some (.int .i64 P) ∧ w'.cell? ⟨w.heap.size, 1, none⟩ = some (.int .i64 (r : Int)) ∧ w'.cell? ⟨w.heap.size, 2, none⟩ = some (.int .i64 (c : Int)) ∧ w'.cell? ⟨w.heap.size, 3, none⟩ = some (.slice p D.length cap)) ∧ Below w1.heap.size w1 w')
      (first | exact ⟨⟨c0, c1, c2, c3⟩, (Below.refl _ _).drew⟩ | exact keep4 hb1 (by assumption))
      (first
        | (go_at_call 34; refine (lines_any P r c _ D _ (held_ints Hd1.out (by assumption)) (by omega) (by omega) hc0 HlD.out).mono ?_; rintro e w' ⟨u, rfl, hoL, hb1⟩; obtain ⟨pu, ku, rfl, _, _⟩ := hoL.shape)
        | (go_at_call 33; refine (reduced_any _ (rowsOf r c D) c P _ (OwnII.below hoL (by first | exact Below.refl _ _ | exact (Below.refl _ _).drew)).rd (rowsOf_ok HlD.out Hrg.out) Hpr.out (by rw [rowsOf_length]; omega) (by omega)).mono ?_; rintro e w' ⟨v, L, q, rfl, hoR, hb1, hR1, hR2, hR3, hR4, hR5⟩; obtain ⟨pv, kv, rfl, hkv1, hkv2⟩ := hoR.shape; unfold maxLen at hkv2))
    have hbw := held_below (by assumption)
    have hnk : HasRank P c r (mf c fun t => D.getD t 0) L.length := ⟨_, _, hR2, hR3, fun i j hi hj => (hR1 i hi).2 j, rows_flat.trans hR4⟩
    rw [rowsOf_length] at hR5
    have Hnk := Lib.hid hnk
    have Hbw := Lib.hid (Hb1.out.trans (Below.mono hbw Hb1.out.size))
    go_wp2_with fail
    go_ret
    refine ⟨_, rfl, ?_, Hbw.out⟩
    unfold RkIs
    rw [if_pos H1.out]
    exact ⟨L.length, rfl, by omega, Hnk.out⟩


theorem implRankOf_any (P R C : Int) (d : Value) (D : List Int) (w : World) (hd : Ints w d D) :
    Calls Try.prog 13 #[.agg #[.int .i64 P, .int .i64 R, .int .i64 C, d]] w fun e w' =>
      e = .returned (.int .i64 (Classical.epsilon (RkIs P R C D))) ∧ Below w.heap.size w w' :=
  (implRankOf_ex P R C d D w hd).mono fun e w' ⟨r, h1, h2, h3⟩ => ⟨by rw [h1, h2.eps], h3⟩

end Go.Proofs.Ytmnlpkmnbjoicaa
