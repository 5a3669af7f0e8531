/-
  SumSpaces, MeetSpaces, SpanOf, RankOf of spaces, as the law uses them.
-/
import Derived.Test.YtmnlpkmnbjoicaaModP
import Derived.Test.YtmnlpkmnbjoicaaMeetI
namespace Go.Proofs.Ytmnlpkmnbjoicaa
set_option linter.all false
open Go.RowKit

theorem sum2 (P : Int) (ra rb c : Nat) (dA dB : Value) (DA DB : List Int) (w : World) (hA : IsSp P ra c DA) (hB : IsSp P rb c DB) (hdA : Ints w dA DA) (hdB : Ints w dB DB) :
    Calls Try.prog 8 #[.agg #[.int .i64 P, .int .i64 (ra : Int), .int .i64 (c : Int), dA], .agg #[.int .i64 P, .int .i64 (rb : Int), .int .i64 (c : Int), dB]] w fun e w' =>
      ∃ (n : Nat) (p : Option Addr) (k : Nat) (D : List Int), e = .returned (.tuple #[.agg #[.int .i64 P, .int .i64 (n : Int), .int .i64 (c : Int), .slice p D.length k], .bool true]) ∧ OwnI 3 w' w.heap.size w'.heap.size (.slice p D.length k) D ∧ Below w.heap.size w w' ∧
        RowsIs P c (ra + rb) (stackM ra (mf c fun t => DA.getD t 0) (mf c fun t => DB.getD t 0)) ⟨P, n, c, D⟩ :=
  (implSum_yes P ra c P rb c dA dB DA DB w hdA hdB ⟨hA, hB, rfl, rfl⟩).mono fun e w' ⟨m, ⟨u, h1, h2, h3⟩, h4⟩ => by
    simp only [Int.toNat_natCast] at h4
    have h5 := h4
    obtain ⟨n, M, q, _, rfl⟩ := h4
    obtain ⟨p, k, rfl, _, _⟩ := h2.shape
    exact ⟨n, p, k, _, h1, h2, h3, h5⟩
theorem meet2 (P : Int) (ra rb c : Nat) (dA dB : Value) (DA DB : List Int) (w : World) (hA : IsSp P ra c DA) (hB : IsSp P rb c DB) (hdA : Ints w dA DA) (hdB : Ints w dB DB) :
    Calls Try.prog 9 #[.agg #[.int .i64 P, .int .i64 (ra : Int), .int .i64 (c : Int), dA], .agg #[.int .i64 P, .int .i64 (rb : Int), .int .i64 (c : Int), dB]] w fun e w' =>
      ∃ (n : Nat) (p : Option Addr) (k : Nat) (D : List Int), e = .returned (.tuple #[.agg #[.int .i64 P, .int .i64 (n : Int), .int .i64 (c : Int), .slice p D.length k], .bool true]) ∧ OwnI 3 w' w.heap.size w'.heap.size (.slice p D.length k) D ∧ Below w.heap.size w w' ∧
        MtIs P c ra rb (mf c fun t => DA.getD t 0) (mf c fun t => DB.getD t 0) ⟨P, n, c, D⟩ :=
  (implMeet_yes P ra c P rb c dA dB DA DB w hdA hdB ⟨hA, hB, rfl, rfl⟩).mono fun e w' ⟨m, ⟨u, h1, h2, h3⟩, h4⟩ => by
    simp only [Int.toNat_natCast] at h4
    have h5 := h4
    obtain ⟨_, _, _, _, n, M, q, _, rfl⟩ := h4
    obtain ⟨p, k, rfl, _, _⟩ := h2.shape
    exact ⟨n, p, k, _, h1, h2, h3, h5⟩
theorem span1 (P : Int) (r c : Nat) (d : Value) (D : List Int) (w : World) (h : IsSp P r c D) (hd : Ints w d D) :
    Calls Try.prog 12 #[.agg #[.int .i64 P, .int .i64 (r : Int), .int .i64 (c : Int), d]] w fun e w' =>
      ∃ (p : Option Addr) (k : Nat), e = .returned (.agg #[.int .i64 P, .int .i64 (r : Int), .int .i64 (c : Int), .slice p D.length k]) ∧ OwnI 3 w' w.heap.size w'.heap.size (.slice p D.length k) D ∧ Below w.heap.size w w' :=
  (implSpanOf_ex P r c d D w hd).mono fun e w' ⟨m, hm, u, h1, h2, h3⟩ => by
    obtain rfl := hm.one h.2
    obtain ⟨p, k, rfl, _, _⟩ := h2.shape
    exact ⟨p, k, h1, h2, h3⟩
theorem rank1 (P : Int) (r c : Nat) (d : Value) (D : List Int) (w : World) (h : IsSp P r c D) (hd : Ints w d D) :
    Calls Try.prog 13 #[.agg #[.int .i64 P, .int .i64 (r : Int), .int .i64 (c : Int), d]] w fun e w' => e = .returned (.int .i64 (r : Int)) ∧ Below w.heap.size w w' :=
  (implRankOf_ex P r c d D w hd).mono fun e w' ⟨x, h1, h2, h3⟩ => by
    refine ⟨?_, h3⟩
    obtain ⟨q, hr, _⟩ := h.red
    have h4 : RkIs P r c D (r : Int) := by
      unfold RkIs
      rw [if_pos h.1]
      simp only [Int.toNat_natCast]
      exact ⟨r, rfl, Int.le_refl _, ⟨_, _, hr⟩⟩
    rw [h1, h2.one h4]
theorem IsSp.rows {P : Int} {r c : Nat} {D : List Int} (h : IsSp P r c D) : r ≤ 7 := by
  obtain ⟨_, _, t, _, u, _⟩ := mxOk_facts h.1
  have := Int.ofNat.inj t
  omega
theorem same_yes {P R C : Int} {D : List Int} : mxSame P R C D P R C D = true := by simp [mxSame]

end Go.Proofs.Ytmnlpkmnbjoicaa
