/-
  FlagOk, as a property.
-/
import Derived.Test.YtapmnfakjnhlbaaFlag
import Derived.Test.YtapmnfakjnhlbaaRankL
namespace Go.Proofs.Ytapmnfakjnhlbaa
set_option linter.all false
open Go.RowKit

/-- it is a flag -/
def IsFl (P R C : Int) (D : List Int) : Prop := mxOk P R C D = true ∧ R = C ∧ RkIs P R C D R
theorem fk_yes {P R C : Int} {D : List Int} (h : IsFl P R C D) : Classical.epsilon (FkIs P R C D) = true := (FkIs.eps (b := true) ⟨fun _ => h, fun _ => rfl⟩).symm
theorem fk_no {P R C : Int} {D : List Int} (h : ¬ IsFl P R C D) : Classical.epsilon (FkIs P R C D) = false := (FkIs.eps (b := false) ⟨fun e => (by cases e), fun h2 => absurd h2 h⟩).symm

theorem specFlag_yes (P R C : Int) (d : Value) (D : List Int) (h : IsFl P R C D) (w : World) (hd : Ints w d D) :
    Calls Try.prog 34 #[.agg #[.int .i64 P, .int .i64 R, .int .i64 C, d]] w fun e w' => e = .returned (.bool true) ∧ Below w.heap.size w w' := by
  have := specFlagOk_any P R C d D w hd
  rwa [fk_yes h] at this
theorem specFlag_no (P R C : Int) (d : Value) (D : List Int) (h : ¬ IsFl P R C D) (w : World) (hd : Ints w d D) :
    Calls Try.prog 34 #[.agg #[.int .i64 P, .int .i64 R, .int .i64 C, d]] w fun e w' => e = .returned (.bool false) ∧ Below w.heap.size w w' := by
  have := specFlagOk_any P R C d D w hd
  rwa [fk_no h] at this
theorem implFlag_yes (P R C : Int) (d : Value) (D : List Int) (h : IsFl P R C D) (w : World) (hd : Ints w d D) :
    Calls Try.prog 36 #[.agg #[.int .i64 P, .int .i64 R, .int .i64 C, d]] w fun e w' => e = .returned (.bool true) ∧ Below w.heap.size w w' := by
  have := implFlagOk_any P R C d D w hd
  rwa [fk_yes h] at this
theorem implFlag_no (P R C : Int) (d : Value) (D : List Int) (h : ¬ IsFl P R C D) (w : World) (hd : Ints w d D) :
    Calls Try.prog 36 #[.agg #[.int .i64 P, .int .i64 R, .int .i64 C, d]] w fun e w' => e = .returned (.bool false) ∧ Below w.heap.size w w' := by
  have := implFlagOk_any P R C d D w hd
  rwa [fk_no h] at this

theorem IsFl.facts {P R C : Int} {D : List Int} (h : IsFl P R C D) : ∃ n : Nat, R = n ∧ C = n ∧ 1 ≤ n ∧ n ≤ 7 ∧ D.length = n * n ∧ (∀ x ∈ D, 0 ≤ x ∧ x < P) ∧ 2 ≤ P ∧ P ≤ 7 ∧ primeOk P = true ∧ HasRank P n n (mf n fun t => D.getD t 0) n := by
  obtain ⟨h1, h2, h3⟩ := h
  obtain ⟨r, c, rfl, rfl, hr, hc0, hc, hlD, hD, hP2, hP7, hpr⟩ := mxOk_facts h1
  obtain rfl := Int.ofNat.inj h2
  unfold RkIs at h3
  rw [if_pos h1] at h3
  obtain ⟨n, e, _, hn⟩ := h3
  obtain rfl := Int.ofNat.inj e
  simp only [Int.toNat_natCast] at hn
  exact ⟨r, rfl, rfl, hc0, hc, hlD, hD, hP2, hP7, hpr, hn⟩

end Go.Proofs.Ytapmnfakjnhlbaa
