/-
  What a matrix that came in looks like: three numbers and a slice that reads as a list of integers.
-/
import Derived.Test.YtajilmfaconjbaaOpen
import Derived.Lib.SmallJoins
namespace Go.Proofs.Ytajilmfaconjbaa
set_option linter.all false
open Go.ChangeShapes Go.WideShapes Go.RowKit Go.Deep Go.WideElems Go.Maps

theorem trod_ints {H : Type} {enc : TypeId × Value → H} {P : Program} {W : World} {n : Nat} {t e : TypeId} {v : Value} {y : DataW H × List MemPlace}
    (ht : P.underlying t = some (.slice e)) (he : P.underlying e = some (.int .i64)) (hc : P.cellsOf e = 1)
    (h : DataW.trod enc P W 0 (fun _ => true) true n t [v] = some y) : ∃ xs, Ints W v xs := by
  rcases open_ints ht he hc h with ⟨hcs, _⟩ | ⟨x, l, c, zs, hcs, _, hl, hm, hz, _, hcell, hwz⟩
  · obtain rfl : v = .slice none 0 0 := by simpa using hcs
    exact ⟨_, row_ints (zs := []) (.inl ⟨rfl, rfl, rfl, rfl⟩)⟩
  · obtain rfl : v = .slice (some x) l c := by simpa using hcs
    exact ⟨_, row_ints (.inr ⟨_, rfl, hl, hm, by simpa using hz, hcell, hwz⟩)⟩

theorem trod_mx {H : Type} {enc : TypeId × Value → H} {P : Program} {W : World} {b0 : Nat} {t e : TypeId} {f0 f1 f2 f3 : Field} {v : Value} {d : DataW H} {p : List MemPlace}
    (hs : P.underlying t = some (.struct #[f0, f1, f2, f3])) (hone : oneCellFields P #[f0, f1, f2, f3] = true) (hC : P.cellsOf t = 4)
    (h0 : P.underlying f0.type = some (.int .i64)) (h1 : P.underlying f1.type = some (.int .i64)) (h2 : P.underlying f2.type = some (.int .i64)) (h3 : P.underlying f3.type = some (.slice e))
    (he : P.underlying e = some (.int .i64)) (hc : P.cellsOf e = 1)
    (hv : Value.okWide P W .any b0 t v) (h : DataW.Trod enc P W 0 (fun _ => true) true t v d p) :
    ∃ (aP aR aC : Int) (u : Value) (X : List Int), v = .agg #[.int .i64 aP, .int .i64 aR, .int .i64 aC, u] ∧ Ints W u X := by
  obtain ⟨v0, v1, v2, v3, y0, y1, y2, y3, n, rfl, _, _, g0, g1, g2, g3⟩ := Go.Joins.open_agg4 hs hone hC hv h
  obtain ⟨n0, e0, _, _⟩ := DataW.trod_int h0 g0
  obtain ⟨n1, e1, _, _⟩ := DataW.trod_int h1 g1
  obtain ⟨n2, e2, _, _⟩ := DataW.trod_int h2 g2
  obtain ⟨X, hX⟩ := trod_ints h3 he hc g3
  obtain rfl : v0 = .int .i64 n0 := by simpa using e0
  obtain rfl : v1 = .int .i64 n1 := by simpa using e1
  obtain rfl : v2 = .int .i64 n2 := by simpa using e2
  exact ⟨_, _, _, _, _, rfl, hX⟩

end Go.Proofs.Ytajilmfaconjbaa
