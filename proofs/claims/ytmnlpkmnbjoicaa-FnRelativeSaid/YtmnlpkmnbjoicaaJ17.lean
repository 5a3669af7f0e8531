/-
  The draws: three flags, and one more.
  The laws' own comparisons: ints, matrices; how long the code is.
-/
import Derived.Test.YtmnlpkmnbjoicaaJ16
import Derived.Test.YtmnlpkmnbjoicaaJ1
import Derived.Test.YtmnlpkmnbjoicaaJ13
namespace Go.Proofs.Ytmnlpkmnbjoicaa
set_option linter.all false
open Go.RowKit

/-- the cells of four results, and the cursor -/
structure R4 (w : World) (k : Nat) (W : World) : Prop where
  z0 : ∃ y0 y1 y2 y3, W.heap[w.heap.size]? = some (.cells #[y0, y1, y2, y3] 26 (0, 0))
  z1 : ∃ y0 y1 y2 y3, W.heap[w.heap.size + 1]? = some (.cells #[y0, y1, y2, y3] 26 (0, 0))
  z2 : ∃ y0 y1 y2 y3, W.heap[w.heap.size + 2]? = some (.cells #[y0, y1, y2, y3] 26 (0, 0))
  z3 : ∃ y0 y1 y2 y3, W.heap[w.heap.size + 3]? = some (.cells #[y0, y1, y2, y3] 26 (0, 0))
  cu : Cur W k
  kk : w.heap.size + 3 < k
  be : Below w.heap.size w W
theorem R4.frm {w W W' : World} {k : Nat} (h : R4 w k W) (hf : Frm k (k + 1) W W') (hc : Cur W' k) : R4 w k W' := by
  obtain ⟨⟨a0, a1, a2, a3, a⟩, ⟨b0, b1, b2, b3, b⟩, ⟨c0, c1, c2, c3, c⟩, ⟨d0, d1, d2, d3, d⟩, cu, kk, be⟩ := h
  exact ⟨⟨a0, a1, a2, a3, (hf.block _ (blk_lt a) (Or.inl (by omega))).trans a⟩, ⟨b0, b1, b2, b3, (hf.block _ (blk_lt b) (Or.inl (by omega))).trans b⟩, ⟨c0, c1, c2, c3, (hf.block _ (blk_lt c) (Or.inl (by omega))).trans c⟩, ⟨d0, d1, d2, d3, (hf.block _ (blk_lt d) (Or.inl (by omega))).trans d⟩, hc, kk, be.trans (hf.below (by omega) be.size)⟩
theorem R4.below {w W W' : World} {k : Nat} (h : R4 w k W) (hb : Below W.heap.size W W') : R4 w k W' := h.frm (Frm.of_below hb _ _) (h.cu.below hb)

/-- two boxes -/
structure Q2 (bA bB : Nat) (P : Int) (n : Nat) (vA vB : Value) (W : World) : Prop where
  a : W.heap[bA]? = some (.cells #[.int .i64 P, .int .i64 (n : Int), .int .i64 (n : Int), vA] 26 (0, 0))
  b : W.heap[bB]? = some (.cells #[.int .i64 P, .int .i64 (n : Int), .int .i64 (n : Int), vB] 26 (0, 0))
theorem Q2.frm {bA bB n k : Nat} {P : Int} {vA vB : Value} {W W' : World} (h : Q2 bA bB P n vA vB W) (hf : Frm k (k + 1) W W') (ha : k < bA) (hb : k < bB) : Q2 bA bB P n vA vB W' :=
  ⟨(hf.block _ (blk_lt h.a) (Or.inr (by omega))).trans h.a, (hf.block _ (blk_lt h.b) (Or.inr (by omega))).trans h.b⟩
theorem Q2.set {bA bB n r : Nat} {P : Int} {vA vB : Value} {W : World} (h : Q2 bA bB P n vA vB W) (ha : bA ≠ r) (hb : bB ≠ r) (x0 x1 x2 x3 : Value) : Q2 bA bB P n vA vB ((((W.setCell ⟨r, 0, none⟩ x0).setCell ⟨r, 1, none⟩ x1).setCell ⟨r, 2, none⟩ x2).setCell ⟨r, 3, none⟩ x3) :=
  ⟨set4_other h.a ha _ _ _ _, set4_other h.b hb _ _ _ _⟩
theorem Q2.drew {bA bB n : Nat} {P : Int} {vA vB : Value} {W : World} (h : Q2 bA bB P n vA vB W) : Q2 bA bB P n vA vB W.drew := ⟨h.a, h.b⟩
theorem Q2.hold {bA bB n : Nat} {P : Int} {vA vB : Value} {W : World} (h : Q2 bA bB P n vA vB W) :
    (W.cell? ⟨bA, 0, none⟩ = some (.int .i64 P) ∧ W.cell? ⟨bA, 1, none⟩ = some (.int .i64 (n : Int)) ∧ W.cell? ⟨bA, 2, none⟩ = some (.int .i64 (n : Int)) ∧ W.cell? ⟨bA, 3, none⟩ = some vA ∧ W.cell? ⟨bB, 0, none⟩ = some (.int .i64 P) ∧ W.cell? ⟨bB, 1, none⟩ = some (.int .i64 (n : Int)) ∧ W.cell? ⟨bB, 2, none⟩ = some (.int .i64 (n : Int)) ∧ W.cell? ⟨bB, 3, none⟩ = some vB) := by
  obtain ⟨a0, a1, a2, a3, _, _⟩ := blk4 h.a
  obtain ⟨b0, b1, b2, b3, _, _⟩ := blk4 h.b
  exact ⟨a0, a1, a2, a3, b0, b1, b2, b3⟩

theorem R4.set4' {w W : World} {k r : Nat} (h : R4 w k W) (hr : k < r) (x0 x1 x2 x3 : Value) : R4 w k (((((W).setCell ⟨r, 0, none⟩ (x0)).setCell ⟨r, 1, none⟩ (x1)).setCell ⟨r, 2, none⟩ (x2)).setCell ⟨r, 3, none⟩ (x3)) := by
  obtain ⟨⟨a0, a1, a2, a3, a⟩, ⟨b0, b1, b2, b3, b⟩, ⟨c0, c1, c2, c3, c⟩, ⟨d0, d1, d2, d3, d⟩, cu, kk, be⟩ := h
  exact ⟨⟨a0, a1, a2, a3, set4_other a (by omega) _ _ _ _⟩, ⟨b0, b1, b2, b3, set4_other b (by omega) _ _ _ _⟩, ⟨c0, c1, c2, c3, set4_other c (by omega) _ _ _ _⟩, ⟨d0, d1, d2, d3, set4_other d (by omega) _ _ _ _⟩, cu.keepB (below_set4 (Below.refl r W) (Nat.le_refl _) _ _ _ _) hr, kk, below_set4 be (by omega) _ _ _ _⟩
theorem R4.fin {w W : World} {k : Nat} (h : R4 w k W) (x0 x1 x2 x3 y0 y1 y2 y3 z0 z1 z2 z3 u0 u1 u2 u3 : Value) :
    (((((((((((((((((W).setCell ⟨w.heap.size, 0, none⟩ (x0)).setCell ⟨w.heap.size, 1, none⟩ (x1)).setCell ⟨w.heap.size, 2, none⟩ (x2)).setCell ⟨w.heap.size, 3, none⟩ (x3)).setCell ⟨w.heap.size + 1, 0, none⟩ (y0)).setCell ⟨w.heap.size + 1, 1, none⟩ (y1)).setCell ⟨w.heap.size + 1, 2, none⟩ (y2)).setCell ⟨w.heap.size + 1, 3, none⟩ (y3)).setCell ⟨w.heap.size + 1 + 1, 0, none⟩ (z0)).setCell ⟨w.heap.size + 1 + 1, 1, none⟩ (z1)).setCell ⟨w.heap.size + 1 + 1, 2, none⟩ (z2)).setCell ⟨w.heap.size + 1 + 1, 3, none⟩ (z3)).setCell ⟨w.heap.size + 1 + 1 + 1, 0, none⟩ (u0)).setCell ⟨w.heap.size + 1 + 1 + 1, 1, none⟩ (u1)).setCell ⟨w.heap.size + 1 + 1 + 1, 2, none⟩ (u2)).setCell ⟨w.heap.size + 1 + 1 + 1, 3, none⟩ (u3)).heap[w.heap.size]? = some (.cells #[x0, x1, x2, x3] 26 (0, 0)) ∧
    (((((((((((((((((W).setCell ⟨w.heap.size, 0, none⟩ (x0)).setCell ⟨w.heap.size, 1, none⟩ (x1)).setCell ⟨w.heap.size, 2, none⟩ (x2)).setCell ⟨w.heap.size, 3, none⟩ (x3)).setCell ⟨w.heap.size + 1, 0, none⟩ (y0)).setCell ⟨w.heap.size + 1, 1, none⟩ (y1)).setCell ⟨w.heap.size + 1, 2, none⟩ (y2)).setCell ⟨w.heap.size + 1, 3, none⟩ (y3)).setCell ⟨w.heap.size + 1 + 1, 0, none⟩ (z0)).setCell ⟨w.heap.size + 1 + 1, 1, none⟩ (z1)).setCell ⟨w.heap.size + 1 + 1, 2, none⟩ (z2)).setCell ⟨w.heap.size + 1 + 1, 3, none⟩ (z3)).setCell ⟨w.heap.size + 1 + 1 + 1, 0, none⟩ (u0)).setCell ⟨w.heap.size + 1 + 1 + 1, 1, none⟩ (u1)).setCell ⟨w.heap.size + 1 + 1 + 1, 2, none⟩ (u2)).setCell ⟨w.heap.size + 1 + 1 + 1, 3, none⟩ (u3)).heap[w.heap.size + 1]? = some (.cells #[y0, y1, y2, y3] 26 (0, 0)) ∧
    (((((((((((((((((W).setCell ⟨w.heap.size, 0, none⟩ (x0)).setCell ⟨w.heap.size, 1, none⟩ (x1)).setCell ⟨w.heap.size, 2, none⟩ (x2)).setCell ⟨w.heap.size, 3, none⟩ (x3)).setCell ⟨w.heap.size + 1, 0, none⟩ (y0)).setCell ⟨w.heap.size + 1, 1, none⟩ (y1)).setCell ⟨w.heap.size + 1, 2, none⟩ (y2)).setCell ⟨w.heap.size + 1, 3, none⟩ (y3)).setCell ⟨w.heap.size + 1 + 1, 0, none⟩ (z0)).setCell ⟨w.heap.size + 1 + 1, 1, none⟩ (z1)).setCell ⟨w.heap.size + 1 + 1, 2, none⟩ (z2)).setCell ⟨w.heap.size + 1 + 1, 3, none⟩ (z3)).setCell ⟨w.heap.size + 1 + 1 + 1, 0, none⟩ (u0)).setCell ⟨w.heap.size + 1 + 1 + 1, 1, none⟩ (u1)).setCell ⟨w.heap.size + 1 + 1 + 1, 2, none⟩ (u2)).setCell ⟨w.heap.size + 1 + 1 + 1, 3, none⟩ (u3)).heap[w.heap.size + 1 + 1]? = some (.cells #[z0, z1, z2, z3] 26 (0, 0)) ∧
    (((((((((((((((((W).setCell ⟨w.heap.size, 0, none⟩ (x0)).setCell ⟨w.heap.size, 1, none⟩ (x1)).setCell ⟨w.heap.size, 2, none⟩ (x2)).setCell ⟨w.heap.size, 3, none⟩ (x3)).setCell ⟨w.heap.size + 1, 0, none⟩ (y0)).setCell ⟨w.heap.size + 1, 1, none⟩ (y1)).setCell ⟨w.heap.size + 1, 2, none⟩ (y2)).setCell ⟨w.heap.size + 1, 3, none⟩ (y3)).setCell ⟨w.heap.size + 1 + 1, 0, none⟩ (z0)).setCell ⟨w.heap.size + 1 + 1, 1, none⟩ (z1)).setCell ⟨w.heap.size + 1 + 1, 2, none⟩ (z2)).setCell ⟨w.heap.size + 1 + 1, 3, none⟩ (z3)).setCell ⟨w.heap.size + 1 + 1 + 1, 0, none⟩ (u0)).setCell ⟨w.heap.size + 1 + 1 + 1, 1, none⟩ (u1)).setCell ⟨w.heap.size + 1 + 1 + 1, 2, none⟩ (u2)).setCell ⟨w.heap.size + 1 + 1 + 1, 3, none⟩ (u3)).heap[w.heap.size + 1 + 1 + 1]? = some (.cells #[u0, u1, u2, u3] 26 (0, 0)) ∧
    Below w.heap.size w (((((((((((((((((W).setCell ⟨w.heap.size, 0, none⟩ (x0)).setCell ⟨w.heap.size, 1, none⟩ (x1)).setCell ⟨w.heap.size, 2, none⟩ (x2)).setCell ⟨w.heap.size, 3, none⟩ (x3)).setCell ⟨w.heap.size + 1, 0, none⟩ (y0)).setCell ⟨w.heap.size + 1, 1, none⟩ (y1)).setCell ⟨w.heap.size + 1, 2, none⟩ (y2)).setCell ⟨w.heap.size + 1, 3, none⟩ (y3)).setCell ⟨w.heap.size + 1 + 1, 0, none⟩ (z0)).setCell ⟨w.heap.size + 1 + 1, 1, none⟩ (z1)).setCell ⟨w.heap.size + 1 + 1, 2, none⟩ (z2)).setCell ⟨w.heap.size + 1 + 1, 3, none⟩ (z3)).setCell ⟨w.heap.size + 1 + 1 + 1, 0, none⟩ (u0)).setCell ⟨w.heap.size + 1 + 1 + 1, 1, none⟩ (u1)).setCell ⟨w.heap.size + 1 + 1 + 1, 2, none⟩ (u2)).setCell ⟨w.heap.size + 1 + 1 + 1, 3, none⟩ (u3)) := by
  obtain ⟨⟨a0, a1, a2, a3, a⟩, ⟨b0, b1, b2, b3, b⟩, ⟨c0, c1, c2, c3, c⟩, ⟨d0, d1, d2, d3, d⟩, cu, kk, be⟩ := h
  have n1 : w.heap.size ≠ w.heap.size + 1 := by omega
  have n2 : w.heap.size ≠ w.heap.size + 1 + 1 := by omega
  have n3 : w.heap.size ≠ w.heap.size + 1 + 1 + 1 := by omega
  have n4 : w.heap.size + 1 ≠ w.heap.size + 1 + 1 := by omega
  have n5 : w.heap.size + 1 ≠ w.heap.size + 1 + 1 + 1 := by omega
  have n6 : w.heap.size + 1 + 1 ≠ w.heap.size + 1 + 1 + 1 := by omega
  refine ⟨?_, ?_, ?_, ?_, ?_⟩
  · exact set4_other (set4_other (set4_other (set4_all a _ _ _ _) n1 _ _ _ _) n2 _ _ _ _) n3 _ _ _ _
  · exact set4_other (set4_other (set4_all (set4_other b n1.symm _ _ _ _) _ _ _ _) n4 _ _ _ _) n5 _ _ _ _
  · exact set4_other (set4_all (set4_other (set4_other (show W.heap[w.heap.size + 1 + 1]? = _ from c) n2.symm _ _ _ _) n4.symm _ _ _ _) _ _ _ _) n6 _ _ _ _
  · exact set4_all (set4_other (set4_other (set4_other (show W.heap[w.heap.size + 1 + 1 + 1]? = _ from d) n3.symm _ _ _ _) n5.symm _ _ _ _) n6.symm _ _ _ _) _ _ _ _
  · exact below_set4 (below_set4 (below_set4 (below_set4 be (Nat.le_refl _) _ _ _ _) (by omega) _ _ _ _) (by omega) _ _ _ _) (by omega) _ _ _ _
theorem ints_set16 {T : TypeId} {r : Nat} {W : World} {lo hi : Nat} {v : Value} {xs : List Int} (h : OwnI T W lo hi v xs) (hr : r + 4 ≤ lo) (x0 x1 x2 x3 y0 y1 y2 y3 z0 z1 z2 z3 u0 u1 u2 u3 : Value) : Ints (((((((((((((((((W).setCell ⟨r, 0, none⟩ (x0)).setCell ⟨r, 1, none⟩ (x1)).setCell ⟨r, 2, none⟩ (x2)).setCell ⟨r, 3, none⟩ (x3)).setCell ⟨r + 1, 0, none⟩ (y0)).setCell ⟨r + 1, 1, none⟩ (y1)).setCell ⟨r + 1, 2, none⟩ (y2)).setCell ⟨r + 1, 3, none⟩ (y3)).setCell ⟨r + 1 + 1, 0, none⟩ (z0)).setCell ⟨r + 1 + 1, 1, none⟩ (z1)).setCell ⟨r + 1 + 1, 2, none⟩ (z2)).setCell ⟨r + 1 + 1, 3, none⟩ (z3)).setCell ⟨r + 1 + 1 + 1, 0, none⟩ (u0)).setCell ⟨r + 1 + 1 + 1, 1, none⟩ (u1)).setCell ⟨r + 1 + 1 + 1, 2, none⟩ (u2)).setCell ⟨r + 1 + 1 + 1, 3, none⟩ (u3)) v xs :=
  (own_set4 (own_set4 (own_set4 (own_set4 h (Or.inl (by omega)) _ _ _ _) (Or.inl (by omega)) _ _ _ _) (Or.inl (by omega)) _ _ _ _) (Or.inl (by omega)) _ _ _ _).ints

set_option maxRecDepth 100000 in
set_option maxHeartbeats 8000000 in
theorem DrawThreeFlags_any (v : Value) (l : Nat) (w : World) (h : Byts w v l) :
    Calls Try.prog 14 #[v] w fun e w' =>
      ∃ (P : Int) (n : Nat) (ua ub uc ug : Value) (DA DB DC DG : List Int), e = .returned (.tuple #[.agg #[.int .i64 P, .int .i64 (n : Int), .int .i64 (n : Int), ua], .agg #[.int .i64 P, .int .i64 (n : Int), .int .i64 (n : Int), ub], .agg #[.int .i64 P, .int .i64 (n : Int), .int .i64 (n : Int), uc], .agg #[.int .i64 P, .int .i64 (n : Int), .int .i64 (n : Int), ug]]) ∧
        n ≤ 5 ∧ (Ints w' ua DA ∧ IsFl P n n DA) ∧ (Ints w' ub DB ∧ IsFl P n n DB) ∧ (Ints w' uc DC ∧ IsFl P n n DC) ∧ (Ints w' ug DG ∧ IsFl P n n DG) ∧ Below w.heap.size w w' := by
  have hs1 : ((((w.alloc (.cells #[.int .i64 0, .int .i64 0, .int .i64 0, .slice none 0 0] 26)).alloc (.cells #[.int .i64 0, .int .i64 0, .int .i64 0, .slice none 0 0] 26)).alloc (.cells #[.int .i64 0, .int .i64 0, .int .i64 0, .slice none 0 0] 26)).alloc (.cells #[.int .i64 0, .int .i64 0, .int .i64 0, .slice none 0 0] 26)).heap.size = w.heap.size + 4 := by simp
  have hb4 : Below w.heap.size w ((((w.alloc (.cells #[.int .i64 0, .int .i64 0, .int .i64 0, .slice none 0 0] 26)).alloc (.cells #[.int .i64 0, .int .i64 0, .int .i64 0, .slice none 0 0] 26)).alloc (.cells #[.int .i64 0, .int .i64 0, .int .i64 0, .slice none 0 0] 26)).alloc (.cells #[.int .i64 0, .int .i64 0, .int .i64 0, .slice none 0 0] 26)) := (below_alloc3 w (.cells #[.int .i64 0, .int .i64 0, .int .i64 0, .slice none 0 0] 26) (.cells #[.int .i64 0, .int .i64 0, .int .i64 0, .slice none 0 0] 26) (.cells #[.int .i64 0, .int .i64 0, .int .i64 0, .slice none 0 0] 26)).alloc (by simp; omega) _
  obtain ⟨z0, z1, z2⟩ := boxes_abz w (.cells #[.int .i64 0, .int .i64 0, .int .i64 0, .slice none 0 0] 26) (.cells #[.int .i64 0, .int .i64 0, .int .i64 0, .slice none 0 0] 26) (.cells #[.int .i64 0, .int .i64 0, .int .i64 0, .slice none 0 0] 26)
  have y0 : ((((w.alloc (.cells #[.int .i64 0, .int .i64 0, .int .i64 0, .slice none 0 0] 26)).alloc (.cells #[.int .i64 0, .int .i64 0, .int .i64 0, .slice none 0 0] 26)).alloc (.cells #[.int .i64 0, .int .i64 0, .int .i64 0, .slice none 0 0] 26)).alloc (.cells #[.int .i64 0, .int .i64 0, .int .i64 0, .slice none 0 0] 26)).heap[w.heap.size]? = some (.cells #[.int .i64 0, .int .i64 0, .int .i64 0, .slice none 0 0] 26) := (heap_alloc_low _ _ (by simp; omega)).trans z0
  have y1 : ((((w.alloc (.cells #[.int .i64 0, .int .i64 0, .int .i64 0, .slice none 0 0] 26)).alloc (.cells #[.int .i64 0, .int .i64 0, .int .i64 0, .slice none 0 0] 26)).alloc (.cells #[.int .i64 0, .int .i64 0, .int .i64 0, .slice none 0 0] 26)).alloc (.cells #[.int .i64 0, .int .i64 0, .int .i64 0, .slice none 0 0] 26)).heap[w.heap.size + 1]? = some (.cells #[.int .i64 0, .int .i64 0, .int .i64 0, .slice none 0 0] 26) := (heap_alloc_low _ _ (by simp)).trans z1
  have y2 : ((((w.alloc (.cells #[.int .i64 0, .int .i64 0, .int .i64 0, .slice none 0 0] 26)).alloc (.cells #[.int .i64 0, .int .i64 0, .int .i64 0, .slice none 0 0] 26)).alloc (.cells #[.int .i64 0, .int .i64 0, .int .i64 0, .slice none 0 0] 26)).alloc (.cells #[.int .i64 0, .int .i64 0, .int .i64 0, .slice none 0 0] 26)).heap[w.heap.size + 2]? = some (.cells #[.int .i64 0, .int .i64 0, .int .i64 0, .slice none 0 0] 26) := (heap_alloc_low _ _ (by simp)).trans z2
  have y3 : ((((w.alloc (.cells #[.int .i64 0, .int .i64 0, .int .i64 0, .slice none 0 0] 26)).alloc (.cells #[.int .i64 0, .int .i64 0, .int .i64 0, .slice none 0 0] 26)).alloc (.cells #[.int .i64 0, .int .i64 0, .int .i64 0, .slice none 0 0] 26)).alloc (.cells #[.int .i64 0, .int .i64 0, .int .i64 0, .slice none 0 0] 26)).heap[w.heap.size + 3]? = some (.cells #[.int .i64 0, .int .i64 0, .int .i64 0, .slice none 0 0] 26) := heap_alloc_at _ _ (by simp)
  have Hh := Lib.hid (h.below hb4)
  have HB1 := Lib.hid hb4
  have Y0 := Lib.hid y0
  have Y1 := Lib.hid y1
  have Y2 := Lib.hid y2
  have Y3 := Lib.hid y3
  obtain ⟨_, _, cap, rfl, _⟩ := h
  clear z0 z1 z2 y0 y1 y2 y3 hb4
  go_enter Try.func14, Try.ntmps14
  go_wp2_with fail
  generalize (((w.alloc (.cells #[.int .i64 0, .int .i64 0, .int .i64 0, .slice none 0 0] 26)).alloc (.cells #[.int .i64 0, .int .i64 0, .int .i64 0, .slice none 0 0] 26)).alloc (.cells #[.int .i64 0, .int .i64 0, .int .i64 0, .slice none 0 0] 26)).alloc (.cells #[.int .i64 0, .int .i64 0, .int .i64 0, .slice none 0 0] 26) = w1 at *
  refine (l1New_any _ l _ Hh.out).mono ?_
  rintro e w2 ⟨rfl, hc2, hb2⟩
  rw [hs1] at hc2 ⊢
  have hR2 : R4 w (w.heap.size + 4) w2 := ⟨⟨_, _, _, _, blk_later Y0.out hb2⟩, ⟨_, _, _, _, blk_later Y1.out hb2⟩, ⟨_, _, _, _, blk_later Y2.out hb2⟩, ⟨_, _, _, _, blk_later Y3.out hb2⟩, hc2, by omega, HB1.out.trans (hb2.mono (by omega))⟩
  have HR2 := Lib.hid hR2
  have hk2 := hc2.lt
  clear hR2 hc2 hb2 Y0 Y1 Y2 Y3 HB1 Hh
  go_wp2_with fail
  refine (dPrime_any (w.heap.size + 4) _ HR2.out.cu).mono ?_
  rintro e w3 ⟨P, rfl, hp, hc3, hf3⟩
  have Hp := Lib.hid hp
  have HR3 := Lib.hid (HR2.out.frm hf3 hc3)
  have hs3 := hf3.size
  clear hp hc3 hf3
  go_wp2_with fail
  refine (l1Below_any (w.heap.size + 4) 5 _ HR3.out.cu (by omega) (by omega)).mono ?_
  rintro e w4 ⟨m, rfl, hm, hc4, hf4⟩
  have HR4 := Lib.hid (HR3.out.frm hf4 hc4)
  have hs4 := hf4.size
  have hmm : 1 + (m : Int) = ((m + 1 : Nat) : Int) := by omega
  obtain ⟨n, hn⟩ : ∃ n, n = m + 1 := ⟨_, rfl⟩
  rw [← hn] at hmm
  have Hmm := Lib.hid hmm
  have hn1 : 1 ≤ n := by omega
  have hn5 : n ≤ 5 := by omega
  clear hn hc4 hf4 hmm
  go_wp2_with fail
  rw [Hmm.out]
  refine (dFlag_any (w.heap.size + 4) n P _ HR4.out.cu Hp.out hn1 hn5).mono ?_
  rintro e w5 ⟨pA, kA, DA, rfl, hoA, hsA, hc5, hf5⟩
  have HoA := Lib.hid hoA
  have HsA := Lib.hid hsA
  have HR5 := Lib.hid (HR4.out.frm hf5 hc5)
  have hs5 := hf5.size
  clear hoA hsA hc5 hf5
  have hA := below_alloc w5 (.cells #[.int .i64 P, .int .i64 (n : Int), .int .i64 (n : Int), .slice pA DA.length kA] 26)
  have HA := Lib.hid hA
  clear hA
  go_wp2_with fail
  refine (dFlag_any (w.heap.size + 4) n P _ (HR5.out.below HA.out).cu Hp.out hn1 hn5).mono ?_
  rintro e w6 ⟨pB, kB, DB, rfl, hoB, hsB, hc6, hf6⟩
  have HoB := Lib.hid hoB
  have HsB := Lib.hid hsB
  have HR6 := Lib.hid ((HR5.out.below HA.out).frm hf6 hc6)
  have hs6 := hf6.size
  rw [size_alloc] at hs6
  have ZA6 := Lib.hid ((hf6.block w5.heap.size (by simp) (Or.inr (by omega))).trans (heap_alloc_top w5 (.cells #[.int .i64 P, .int .i64 (n : Int), .int .i64 (n : Int), .slice pA DA.length kA] 26)))
  have HoA6 := Lib.hid ((HoA.out.below HA.out).frm hf6 (Or.inr (by omega)))
  clear hoB hsB hc6 hf6
  have hB := below_alloc w6 (.cells #[.int .i64 P, .int .i64 (n : Int), .int .i64 (n : Int), .slice pB DB.length kB] 26)
  have HB := Lib.hid hB
  clear hB
  go_wp2_with fail
  refine (l1Once_any (w.heap.size + 4) 3 _ (HR6.out.below HB.out).cu (by omega) (by omega)).mono ?_
  rintro e w7 ⟨bo, rfl, hc7, hf7⟩
  have HR7 := Lib.hid ((HR6.out.below HB.out).frm hf7 hc7)
  have hs7 := hf7.size
  rw [size_alloc] at hs7
  have ZA7 := Lib.hid ((hf7.block w5.heap.size (by simp; omega) (Or.inr (by omega))).trans (blk_later ZA6.out HB.out))
  have ZB7 := Lib.hid ((hf7.block w6.heap.size (by simp) (Or.inr (by omega))).trans (heap_alloc_top w6 (.cells #[.int .i64 P, .int .i64 (n : Int), .int .i64 (n : Int), .slice pB DB.length kB] 26)))
  have HoA7 := Lib.hid ((HoA6.out.below HB.out).frm hf7 (Or.inr (by omega)))
  have HoB7 := Lib.hid ((HoB.out.below HB.out).frm hf7 (Or.inr (by rw [size_alloc]; omega)))
  clear hc7 hf7
  cases bo with
  | false =>
    have HQ := Lib.hid (show Q2 w5.heap.size w6.heap.size P n (.slice pA DA.length kA) (.slice pB DB.length kB) w7 from ⟨ZA7.out, ZB7.out⟩)
    obtain ⟨a0, a1, a2, a3, af, az⟩ := blk4 ZA7.out
    obtain ⟨b0, b1, b2, b3, bf, bz⟩ := blk4 ZB7.out
    have nkA : w.heap.size + 4 < w5.heap.size := by omega
    have nkB : w.heap.size + 4 < w6.heap.size := by omega
    have na0 : w5.heap.size ≠ w.heap.size := by omega
    have nb0 : w6.heap.size ≠ w.heap.size := by omega
    have na1 : w5.heap.size ≠ w.heap.size + 1 := by omega
    have nb1 : w6.heap.size ≠ w.heap.size + 1 := by omega
    have na2 : w5.heap.size ≠ w.heap.size + 2 := by omega
    have nb2 : w6.heap.size ≠ w.heap.size + 2 := by omega
    have na3 : w5.heap.size ≠ w.heap.size + 3 := by omega
    have nb3 : w6.heap.size ≠ w.heap.size + 3 := by omega
    go_wp2_with fail
    go_region_held3 (fun w' => w'.cell? ⟨w5.heap.size, 0, none⟩ = some (.int .i64 P) ∧ w'.cell? ⟨w5.heap.size, 1, none⟩ = some (.int .i64 (n : Int)) ∧ w'.cell? ⟨w5.heap.size, 2, none⟩ = some (.int .i64 (n : Int)) ∧ w'.cell? ⟨w5.heap.size, 3, none⟩ = some (.slice pA DA.length kA) ∧ w'.cell? ⟨w6.heap.size, 0, none⟩ = some (.int .i64 P) ∧ w'.cell? ⟨w6.heap.size, 1, none⟩ = some (.int .i64 (n : Int)) ∧ w'.cell? ⟨w6.heap.size, 2, none⟩ = some (.int .i64 (n : Int)) ∧ w'.cell? ⟨w6.heap.size, 3, none⟩ = some (.slice pB DB.length kB))
      (first | with_reducible exact HQ.out.drew.hold | with_reducible exact HQ.out.hold | with_reducible exact hq2.hold | with_reducible exact hq1.hold | with_reducible exact (hq2.set na0 nb0 _ _ _ _).hold | with_reducible exact ((hq2.set na0 nb0 _ _ _ _).set na1 nb1 _ _ _ _).hold | with_reducible exact (((hq2.set na0 nb0 _ _ _ _).set na1 nb1 _ _ _ _).set na2 nb2 _ _ _ _).hold | with_reducible exact ((((hq2.set na0 nb0 _ _ _ _).set na1 nb1 _ _ _ _).set na2 nb2 _ _ _ _).set na3 nb3 _ _ _ _).hold | (trace_state; fail))
      (first
        | (go_at_call 39; refine (dFlag_any (w.heap.size + 4) n P _ (hR1.below (by first | exact Below.refl _ _ | exact (Below.refl _ _).drew)).cu Hp.out hn1 hn5).mono ?_; rintro e w' ⟨pG, kG, DG, rfl, hoG, hsG, hc1, hf1⟩; have hoC2 := (OwnI.below hoC (by first | exact Below.refl _ _ | exact (Below.refl _ _).drew)).frm hf1 (Or.inr (Nat.le_of_lt_succ (Nat.lt_succ_of_le hlC))); have hR2 := (hR1.below (by first | exact Below.refl _ _ | exact (Below.refl _ _).drew)).frm hf1 hc1; have hq2 := (hq1.frm (Frm.of_below (by first | exact Below.refl _ _ | exact (Below.refl _ _).drew) (w.heap.size + 4) ((w.heap.size + 4) + 1)) nkA nkB).frm hf1 nkA nkB; obtain ⟨s0, s1, s2, s3, hz0⟩ := hR2.z0; obtain ⟨t0, t1, t2, t3, hz1⟩ := hR2.z1; obtain ⟨u0, u1, u2, u3, hz2⟩ := hR2.z2; obtain ⟨v0, v1, v2, v3, hz3⟩ := hR2.z3; obtain ⟨f0, f1, f2, f3, f4, f5⟩ := blk4 hz0; obtain ⟨g0, g1, g2, g3, g4, g5⟩ := blk4 hz1; obtain ⟨i0, i1, i2, i3, i4, i5⟩ := blk4 hz2; obtain ⟨j0, j1, j2, j3, j4, j5⟩ := blk4 hz3)
        | (go_at_call 39; refine (dFlag_any (w.heap.size + 4) n P _ (HR7.out.below (by first | exact Below.refl _ _ | exact (Below.refl _ _).drew)).cu Hp.out hn1 hn5).mono ?_; rintro e w' ⟨pC, kC, DC, rfl, hoC, hsC, hc1, hf1⟩; have hlC : w.heap.size + 4 + 1 ≤ w7.heap.size := HR7.out.cu.lt; have hR1 := (HR7.out.below (by first | exact Below.refl _ _ | exact (Below.refl _ _).drew)).frm hf1 hc1; have hq1 := (HQ.out.frm (Frm.of_below (by first | exact Below.refl _ _ | exact (Below.refl _ _).drew) (w.heap.size + 4) ((w.heap.size + 4) + 1)) nkA nkB).frm hf1 nkA nkB; have hf7 := Lib.hid ((Frm.of_below (by first | exact Below.refl _ _ | exact (Below.refl _ _).drew) (w.heap.size + 4) ((w.heap.size + 4) + 1)).trans hf1); clear hf1))
    have q0 := ints_set16 (r := w.heap.size) (((HoA7.out.below (Below.refl _ _).drew).frm hf7.out (Or.inr (by omega))).frm hf1 (Or.inr (by omega))) (by omega) (.int .i64 P) (.int .i64 (n : Int)) (.int .i64 (n : Int)) (.slice pA DA.length kA) (.int .i64 P) (.int .i64 (n : Int)) (.int .i64 (n : Int)) (.slice pB DB.length kB) (.int .i64 P) (.int .i64 (n : Int)) (.int .i64 (n : Int)) (.slice pC DC.length kC) (.int .i64 P) (.int .i64 (n : Int)) (.int .i64 (n : Int)) (.slice pG DG.length kG)
    have q1 := ints_set16 (r := w.heap.size) (((HoB7.out.below (Below.refl _ _).drew).frm hf7.out (Or.inr (by rw [size_alloc]; omega))).frm hf1 (Or.inr (by rw [size_alloc]; omega))) (by rw [size_alloc]; omega) (.int .i64 P) (.int .i64 (n : Int)) (.int .i64 (n : Int)) (.slice pA DA.length kA) (.int .i64 P) (.int .i64 (n : Int)) (.int .i64 (n : Int)) (.slice pB DB.length kB) (.int .i64 P) (.int .i64 (n : Int)) (.int .i64 (n : Int)) (.slice pC DC.length kC) (.int .i64 P) (.int .i64 (n : Int)) (.int .i64 (n : Int)) (.slice pG DG.length kG)
    have q2 := ints_set16 (r := w.heap.size) hoC2 (by simp; omega) (.int .i64 P) (.int .i64 (n : Int)) (.int .i64 (n : Int)) (.slice pA DA.length kA) (.int .i64 P) (.int .i64 (n : Int)) (.int .i64 (n : Int)) (.slice pB DB.length kB) (.int .i64 P) (.int .i64 (n : Int)) (.int .i64 (n : Int)) (.slice pC DC.length kC) (.int .i64 P) (.int .i64 (n : Int)) (.int .i64 (n : Int)) (.slice pG DG.length kG)
    have q3 := ints_set16 (r := w.heap.size) hoG (by have h8 : w7.heap.size ≤ _ := hf7.out.size; omega) (.int .i64 P) (.int .i64 (n : Int)) (.int .i64 (n : Int)) (.slice pA DA.length kA) (.int .i64 P) (.int .i64 (n : Int)) (.int .i64 (n : Int)) (.slice pB DB.length kB) (.int .i64 P) (.int .i64 (n : Int)) (.int .i64 (n : Int)) (.slice pC DC.length kC) (.int .i64 P) (.int .i64 (n : Int)) (.int .i64 (n : Int)) (.slice pG DG.length kG)
    obtain ⟨r0, r1, r2, r3, r4⟩ := hR2.fin (.int .i64 P) (.int .i64 (n : Int)) (.int .i64 (n : Int)) (.slice pA DA.length kA) (.int .i64 P) (.int .i64 (n : Int)) (.int .i64 (n : Int)) (.slice pB DB.length kB) (.int .i64 P) (.int .i64 (n : Int)) (.int .i64 (n : Int)) (.slice pC DC.length kC) (.int .i64 P) (.int .i64 (n : Int)) (.int .i64 (n : Int)) (.slice pG DG.length kG)
    clear hoC hc1 hf1 hf7 hoG hoC2 hR2 hq2 hz0 hz1 hz2 hz3 f0 f1 f2 f3 f4 f5 g0 g1 g2 g3 g4 g5 i0 i1 i2 i3 i4 i5 j0 j1 j2 j3 j4 j5
    generalize ((((((((((((((((w').setCell ⟨w.heap.size, 0, none⟩ (.int .i64 P)).setCell ⟨w.heap.size, 1, none⟩ (.int .i64 (n : Int))).setCell ⟨w.heap.size, 2, none⟩ (.int .i64 (n : Int))).setCell ⟨w.heap.size, 3, none⟩ (.slice pA DA.length kA)).setCell ⟨w.heap.size + 1, 0, none⟩ (.int .i64 P)).setCell ⟨w.heap.size + 1, 1, none⟩ (.int .i64 (n : Int))).setCell ⟨w.heap.size + 1, 2, none⟩ (.int .i64 (n : Int))).setCell ⟨w.heap.size + 1, 3, none⟩ (.slice pB DB.length kB)).setCell ⟨w.heap.size + 1 + 1, 0, none⟩ (.int .i64 P)).setCell ⟨w.heap.size + 1 + 1, 1, none⟩ (.int .i64 (n : Int))).setCell ⟨w.heap.size + 1 + 1, 2, none⟩ (.int .i64 (n : Int))).setCell ⟨w.heap.size + 1 + 1, 3, none⟩ (.slice pC DC.length kC)).setCell ⟨w.heap.size + 1 + 1 + 1, 0, none⟩ (.int .i64 P)).setCell ⟨w.heap.size + 1 + 1 + 1, 1, none⟩ (.int .i64 (n : Int))).setCell ⟨w.heap.size + 1 + 1 + 1, 2, none⟩ (.int .i64 (n : Int))).setCell ⟨w.heap.size + 1 + 1 + 1, 3, none⟩ (.slice pG DG.length kG) = wz at q0 q1 q2 q3 r0 r1 r2 r3 r4 ⊢
    obtain ⟨c00, c01, c02, c03, c0f, c0z⟩ := blk4 r0
    obtain ⟨c10, c11, c12, c13, c1f, c1z⟩ := blk4 r1
    obtain ⟨c20, c21, c22, c23, c2f, c2z⟩ := blk4 r2
    obtain ⟨c30, c31, c32, c33, c3f, c3z⟩ := blk4 r3
    go_wp2_with fail
    refine bodyPost_ret (v := .tuple #[.agg #[.int .i64 P, .int .i64 (n : Int), .int .i64 (n : Int), .slice pA DA.length kA], .agg #[.int .i64 P, .int .i64 (n : Int), .int .i64 (n : Int), .slice pB DB.length kB], .agg #[.int .i64 P, .int .i64 (n : Int), .int .i64 (n : Int), .slice pC DC.length kC], .agg #[.int .i64 P, .int .i64 (n : Int), .int .i64 (n : Int), .slice pG DG.length kG]]) (by simp [results, Try.results14, go_sem, c00, c01, c02, c03, c0z, c10, c11, c12, c13, c1z, c20, c21, c22, c23, c2z, c30, c31, c32, c33, c3z]) rfl ⟨P, n, _, _, _, _, DA, DB, DC, DG, rfl, hn5, ⟨q0, HsA.out⟩, ⟨q1, HsB.out⟩, ⟨q2, hsC⟩, ⟨q3, hsG⟩, r4⟩
  | true =>
    obtain ⟨a0, a1, a2, a3, af, az⟩ := blk4 ZA7.out
    obtain ⟨b0, b1, b2, b3, bf, bz⟩ := blk4 ZB7.out
    have nkA : w.heap.size + 4 < w5.heap.size := by omega
    have nkB : w.heap.size + 4 < w6.heap.size := by omega
    have hab : w5.heap.size ≠ w6.heap.size := by omega
    have HR8 := Lib.hid (HR7.out.set4' nkB (.int .i64 P) (.int .i64 (n : Int)) (.int .i64 (n : Int)) (.slice pA DA.length kA))
    have ZA8 := Lib.hid (set4_other ZA7.out hab (.int .i64 P) (.int .i64 (n : Int)) (.int .i64 (n : Int)) (.slice pA DA.length kA))
    have ZB8 := Lib.hid (set4_all ZB7.out (.int .i64 P) (.int .i64 (n : Int)) (.int .i64 (n : Int)) (.slice pA DA.length kA))
    have HoA8 := Lib.hid (own_set4 HoA7.out (Or.inr (show w5.heap.size ≤ w6.heap.size by omega)) (.int .i64 P) (.int .i64 (n : Int)) (.int .i64 (n : Int)) (.slice pA DA.length kA))
    go_wp2_with fail
    have hz8 : (((((w7).setCell ⟨w6.heap.size, 0, none⟩ (.int .i64 P)).setCell ⟨w6.heap.size, 1, none⟩ (.int .i64 (n : Int))).setCell ⟨w6.heap.size, 2, none⟩ (.int .i64 (n : Int))).setCell ⟨w6.heap.size, 3, none⟩ (.slice pA DA.length kA)).heap.size = w7.heap.size := by simp
    generalize ((((w7).setCell ⟨w6.heap.size, 0, none⟩ (.int .i64 P)).setCell ⟨w6.heap.size, 1, none⟩ (.int .i64 (n : Int))).setCell ⟨w6.heap.size, 2, none⟩ (.int .i64 (n : Int))).setCell ⟨w6.heap.size, 3, none⟩ (.slice pA DA.length kA) = w8 at *
    rw [← hz8] at hs7
    clear ZA7 ZB7 HR7 HoA7 HoB7 a0 a1 a2 a3 af az b0 b1 b2 b3 bf bz hz8
    have HQ := Lib.hid (show Q2 w5.heap.size w6.heap.size P n (.slice pA DA.length kA) (.slice pA DA.length kA) w8 from ⟨ZA8.out, ZB8.out⟩)
    obtain ⟨a0, a1, a2, a3, af, az⟩ := blk4 ZA8.out
    obtain ⟨b0, b1, b2, b3, bf, bz⟩ := blk4 ZB8.out
    have na0 : w5.heap.size ≠ w.heap.size := by omega
    have nb0 : w6.heap.size ≠ w.heap.size := by omega
    have na1 : w5.heap.size ≠ w.heap.size + 1 := by omega
    have nb1 : w6.heap.size ≠ w.heap.size + 1 := by omega
    have na2 : w5.heap.size ≠ w.heap.size + 2 := by omega
    have nb2 : w6.heap.size ≠ w.heap.size + 2 := by omega
    have na3 : w5.heap.size ≠ w.heap.size + 3 := by omega
    have nb3 : w6.heap.size ≠ w.heap.size + 3 := by omega
    go_region_held3 (fun w' => w'.cell? ⟨w5.heap.size, 0, none⟩ = some (.int .i64 P) ∧ w'.cell? ⟨w5.heap.size, 1, none⟩ = some (.int .i64 (n : Int)) ∧ w'.cell? ⟨w5.heap.size, 2, none⟩ = some (.int .i64 (n : Int)) ∧ w'.cell? ⟨w5.heap.size, 3, none⟩ = some (.slice pA DA.length kA) ∧ w'.cell? ⟨w6.heap.size, 0, none⟩ = some (.int .i64 P) ∧ w'.cell? ⟨w6.heap.size, 1, none⟩ = some (.int .i64 (n : Int)) ∧ w'.cell? ⟨w6.heap.size, 2, none⟩ = some (.int .i64 (n : Int)) ∧ w'.cell? ⟨w6.heap.size, 3, none⟩ = some (.slice pA DA.length kA))
      (first | with_reducible exact HQ.out.drew.hold | with_reducible exact HQ.out.hold | with_reducible exact hq2.hold | with_reducible exact hq1.hold | with_reducible exact (hq2.set na0 nb0 _ _ _ _).hold | with_reducible exact ((hq2.set na0 nb0 _ _ _ _).set na1 nb1 _ _ _ _).hold | with_reducible exact (((hq2.set na0 nb0 _ _ _ _).set na1 nb1 _ _ _ _).set na2 nb2 _ _ _ _).hold | with_reducible exact ((((hq2.set na0 nb0 _ _ _ _).set na1 nb1 _ _ _ _).set na2 nb2 _ _ _ _).set na3 nb3 _ _ _ _).hold | (trace_state; fail))
      (first
        | (go_at_call 39; refine (dFlag_any (w.heap.size + 4) n P _ (hR1.below (by first | exact Below.refl _ _ | exact (Below.refl _ _).drew)).cu Hp.out hn1 hn5).mono ?_; rintro e w' ⟨pG, kG, DG, rfl, hoG, hsG, hc1, hf1⟩; have hoC2 := (OwnI.below hoC (by first | exact Below.refl _ _ | exact (Below.refl _ _).drew)).frm hf1 (Or.inr (Nat.le_of_lt_succ (Nat.lt_succ_of_le hlC))); have hR2 := (hR1.below (by first | exact Below.refl _ _ | exact (Below.refl _ _).drew)).frm hf1 hc1; have hq2 := (hq1.frm (Frm.of_below (by first | exact Below.refl _ _ | exact (Below.refl _ _).drew) (w.heap.size + 4) ((w.heap.size + 4) + 1)) nkA nkB).frm hf1 nkA nkB; obtain ⟨s0, s1, s2, s3, hz0⟩ := hR2.z0; obtain ⟨t0, t1, t2, t3, hz1⟩ := hR2.z1; obtain ⟨u0, u1, u2, u3, hz2⟩ := hR2.z2; obtain ⟨v0, v1, v2, v3, hz3⟩ := hR2.z3; obtain ⟨f0, f1, f2, f3, f4, f5⟩ := blk4 hz0; obtain ⟨g0, g1, g2, g3, g4, g5⟩ := blk4 hz1; obtain ⟨i0, i1, i2, i3, i4, i5⟩ := blk4 hz2; obtain ⟨j0, j1, j2, j3, j4, j5⟩ := blk4 hz3)
        | (go_at_call 39; refine (dFlag_any (w.heap.size + 4) n P _ (HR8.out.below (by first | exact Below.refl _ _ | exact (Below.refl _ _).drew)).cu Hp.out hn1 hn5).mono ?_; rintro e w' ⟨pC, kC, DC, rfl, hoC, hsC, hc1, hf1⟩; have hlC : w.heap.size + 4 + 1 ≤ w8.heap.size := HR8.out.cu.lt; have hR1 := (HR8.out.below (by first | exact Below.refl _ _ | exact (Below.refl _ _).drew)).frm hf1 hc1; have hq1 := (HQ.out.frm (Frm.of_below (by first | exact Below.refl _ _ | exact (Below.refl _ _).drew) (w.heap.size + 4) ((w.heap.size + 4) + 1)) nkA nkB).frm hf1 nkA nkB; have hf7 := Lib.hid ((Frm.of_below (by first | exact Below.refl _ _ | exact (Below.refl _ _).drew) (w.heap.size + 4) ((w.heap.size + 4) + 1)).trans hf1); clear hf1))
    have q0 := ints_set16 (r := w.heap.size) (((HoA8.out.below (Below.refl _ _).drew).frm hf7.out (Or.inr (by omega))).frm hf1 (Or.inr (by omega))) (by omega) (.int .i64 P) (.int .i64 (n : Int)) (.int .i64 (n : Int)) (.slice pA DA.length kA) (.int .i64 P) (.int .i64 (n : Int)) (.int .i64 (n : Int)) (.slice pA DA.length kA) (.int .i64 P) (.int .i64 (n : Int)) (.int .i64 (n : Int)) (.slice pC DC.length kC) (.int .i64 P) (.int .i64 (n : Int)) (.int .i64 (n : Int)) (.slice pG DG.length kG)
    have q1 := ints_set16 (r := w.heap.size) (((HoA8.out.below (Below.refl _ _).drew).frm hf7.out (Or.inr (by omega))).frm hf1 (Or.inr (by omega))) (by omega) (.int .i64 P) (.int .i64 (n : Int)) (.int .i64 (n : Int)) (.slice pA DA.length kA) (.int .i64 P) (.int .i64 (n : Int)) (.int .i64 (n : Int)) (.slice pA DA.length kA) (.int .i64 P) (.int .i64 (n : Int)) (.int .i64 (n : Int)) (.slice pC DC.length kC) (.int .i64 P) (.int .i64 (n : Int)) (.int .i64 (n : Int)) (.slice pG DG.length kG)
    have q2 := ints_set16 (r := w.heap.size) hoC2 (by simp; omega) (.int .i64 P) (.int .i64 (n : Int)) (.int .i64 (n : Int)) (.slice pA DA.length kA) (.int .i64 P) (.int .i64 (n : Int)) (.int .i64 (n : Int)) (.slice pA DA.length kA) (.int .i64 P) (.int .i64 (n : Int)) (.int .i64 (n : Int)) (.slice pC DC.length kC) (.int .i64 P) (.int .i64 (n : Int)) (.int .i64 (n : Int)) (.slice pG DG.length kG)
    have q3 := ints_set16 (r := w.heap.size) hoG (by have h8 : w8.heap.size ≤ _ := hf7.out.size; omega) (.int .i64 P) (.int .i64 (n : Int)) (.int .i64 (n : Int)) (.slice pA DA.length kA) (.int .i64 P) (.int .i64 (n : Int)) (.int .i64 (n : Int)) (.slice pA DA.length kA) (.int .i64 P) (.int .i64 (n : Int)) (.int .i64 (n : Int)) (.slice pC DC.length kC) (.int .i64 P) (.int .i64 (n : Int)) (.int .i64 (n : Int)) (.slice pG DG.length kG)
    obtain ⟨r0, r1, r2, r3, r4⟩ := hR2.fin (.int .i64 P) (.int .i64 (n : Int)) (.int .i64 (n : Int)) (.slice pA DA.length kA) (.int .i64 P) (.int .i64 (n : Int)) (.int .i64 (n : Int)) (.slice pA DA.length kA) (.int .i64 P) (.int .i64 (n : Int)) (.int .i64 (n : Int)) (.slice pC DC.length kC) (.int .i64 P) (.int .i64 (n : Int)) (.int .i64 (n : Int)) (.slice pG DG.length kG)
    clear hoC hc1 hf1 hf7 hoG hoC2 hR2 hq2 hz0 hz1 hz2 hz3 f0 f1 f2 f3 f4 f5 g0 g1 g2 g3 g4 g5 i0 i1 i2 i3 i4 i5 j0 j1 j2 j3 j4 j5
    generalize ((((((((((((((((w').setCell ⟨w.heap.size, 0, none⟩ (.int .i64 P)).setCell ⟨w.heap.size, 1, none⟩ (.int .i64 (n : Int))).setCell ⟨w.heap.size, 2, none⟩ (.int .i64 (n : Int))).setCell ⟨w.heap.size, 3, none⟩ (.slice pA DA.length kA)).setCell ⟨w.heap.size + 1, 0, none⟩ (.int .i64 P)).setCell ⟨w.heap.size + 1, 1, none⟩ (.int .i64 (n : Int))).setCell ⟨w.heap.size + 1, 2, none⟩ (.int .i64 (n : Int))).setCell ⟨w.heap.size + 1, 3, none⟩ (.slice pA DA.length kA)).setCell ⟨w.heap.size + 1 + 1, 0, none⟩ (.int .i64 P)).setCell ⟨w.heap.size + 1 + 1, 1, none⟩ (.int .i64 (n : Int))).setCell ⟨w.heap.size + 1 + 1, 2, none⟩ (.int .i64 (n : Int))).setCell ⟨w.heap.size + 1 + 1, 3, none⟩ (.slice pC DC.length kC)).setCell ⟨w.heap.size + 1 + 1 + 1, 0, none⟩ (.int .i64 P)).setCell ⟨w.heap.size + 1 + 1 + 1, 1, none⟩ (.int .i64 (n : Int))).setCell ⟨w.heap.size + 1 + 1 + 1, 2, none⟩ (.int .i64 (n : Int))).setCell ⟨w.heap.size + 1 + 1 + 1, 3, none⟩ (.slice pG DG.length kG) = wz at q0 q1 q2 q3 r0 r1 r2 r3 r4 ⊢
    obtain ⟨c00, c01, c02, c03, c0f, c0z⟩ := blk4 r0
    obtain ⟨c10, c11, c12, c13, c1f, c1z⟩ := blk4 r1
    obtain ⟨c20, c21, c22, c23, c2f, c2z⟩ := blk4 r2
    obtain ⟨c30, c31, c32, c33, c3f, c3z⟩ := blk4 r3
    go_wp2_with fail
    refine bodyPost_ret (v := .tuple #[.agg #[.int .i64 P, .int .i64 (n : Int), .int .i64 (n : Int), .slice pA DA.length kA], .agg #[.int .i64 P, .int .i64 (n : Int), .int .i64 (n : Int), .slice pA DA.length kA], .agg #[.int .i64 P, .int .i64 (n : Int), .int .i64 (n : Int), .slice pC DC.length kC], .agg #[.int .i64 P, .int .i64 (n : Int), .int .i64 (n : Int), .slice pG DG.length kG]]) (by simp [results, Try.results14, go_sem, c00, c01, c02, c03, c0z, c10, c11, c12, c13, c1z, c20, c21, c22, c23, c2z, c30, c31, c32, c33, c3z]) rfl ⟨P, n, _, _, _, _, DA, DA, DC, DG, rfl, hn5, ⟨q0, HsA.out⟩, ⟨q1, HsA.out⟩, ⟨q2, hsC⟩, ⟨q3, hsG⟩, r4⟩

end Go.Proofs.Ytmnlpkmnbjoicaa

namespace Go.Proofs.Ytmnlpkmnbjoicaa
set_option linter.all false
open Go.RowKit

set_option maxRecDepth 100000 in
set_option maxHeartbeats 400000 in
theorem lawInts_any (v1 v2 : Value) (xs ys : List Int) (w : World) (h1 : Ints w v1 xs) (h2 : Ints w v2 ys) :
    Calls Try.prog 17 #[v1, v2] w fun e w' => e = .returned (.bool (decide (xs = ys))) ∧ Qt w w' := by
  obtain ⟨p, cap, rfl, ⟨hx1, hx⟩, hxc⟩ := h1
  obtain ⟨q, cap', rfl, ⟨hy1, hy⟩, hyc⟩ := h2
  unfold maxLen at hx hy
  by_cases hl : xs.length = ys.length
  · have e1 : ((xs.length : Int) != (ys.length : Int)) = false := by simp [hl]
    have Hl := Lib.hid hl
    clear hl
    go_enter Try.func17, Try.ntmps17
    go_wp2
    clear e1
    go_loopg [5] xs.length (fun g i wr => ∃ k : Nat, k ≤ xs.length ∧ g = xs.length - k ∧ i = .int .i64 k ∧ Qt w wr ∧ Hid (∀ j, j < k → xs.getD j 0 = ys.getD j 0))
    case atStart => exact ⟨0, Nat.zero_le _, rfl, rfl, Qt.refl _, fun j hj => absurd hj (Nat.not_lt_zero _)⟩
    case round =>
      obtain ⟨k, hk, rfl, rfl, hq, hp⟩ := hrel
      by_cases hlt : k < xs.length
      · obtain ⟨b, off, rfl, hc⟩ := hxc (by omega)
        have hl := Hl.out
        obtain ⟨b', off', rfl, hc'⟩ := hyc (by omega)
        have c1 := hq.cell (hc k hlt)
        have c2 := hq.cell (hc' k (by omega))
        have hk2 : k < ys.length := by omega
        unfold iv at c1 c2
        clear hl hxc hyc hc hc'
        go_wp2
        go_quiet (fail)
        go_wp2
        · have ht : (xs[k] != ys[k]) = true := by assumption
          go_ret
          refine ⟨ret_bool ?_, hq.drewN _⟩
          symm
          simp only [decide_eq_false_iff_not]
          intro e
          subst e
          simp at ht
        · have ht : (xs[k] != ys[k]) = false := by assumption
          go_roundg (xs.length - (k + 1))
          case measure => omega
          case rel =>
            refine ⟨k + 1, by omega, rfl, by go_num, hq.drewN _, eq_snoc hp.out ?_⟩
            have := by simpa using ht
            simpa [List.getD_eq_getElem?_getD, hlt, hk2] using this
      · go_wp2
        go_ret
        refine ⟨ret_bool ?_, hq⟩
        symm
        simp only [decide_eq_true_eq]
        exact getD_eq_list Hl.out fun j hj => hp.out j (by omega)
  · have e1 : ((xs.length : Int) != (ys.length : Int)) = true := by simp; omega
    go_enter Try.func17, Try.ntmps17
    go_wp2
    go_ret
    refine ⟨ret_bool ?_, Qt.refl _⟩
    symm
    simp only [decide_eq_false_iff_not]
    intro e
    exact hl (by rw [e])

set_option maxRecDepth 100000 in
set_option maxHeartbeats 1000000 in
theorem lawMatrices_any (P R C P' R' C' : Int) (d d' : Value) (xs ys : List Int) (w : World) (h : Ints w d xs) (h' : Ints w d' ys) :
    Calls Try.prog 11 #[.agg #[.int .i64 P, .int .i64 R, .int .i64 C, d], .agg #[.int .i64 P', .int .i64 R', .int .i64 C', d']] w fun e w' =>
      e = .returned (.bool (mxSame P R C xs P' R' C' ys)) ∧ Below w.heap.size w w' := by
  by_cases e1 : P = P'
  · subst e1
    by_cases e2 : R = R'
    · subst e2
      by_cases e3 : C = C'
      · subst e3
        have hn := fun o o' => lawInts_any d d' xs ys ((w.alloc o).alloc o') (h.below (below_alloc2 w o o')) (h'.below (below_alloc2 w o o'))
        cases hx : decide (xs = ys) with
        | true =>
          rw [hx] at hn
          have Hn := Lib.hid hn
          have Hx := Lib.hid hx
          clear hn hx
          go_enter Try.func11, Try.ntmps11
          go_wp2_with (go_at_call 17; refine (Hn.out _ _).mono ?_; rintro e w' ⟨rfl, hq⟩)
          go_ret
          have := of_decide_eq_true Hx.out
          exact ⟨ret_bool (by simp [mxSame, this]), (below_alloc2 _ _ _).trans (hq.below _)⟩
        | false =>
          rw [hx] at hn
          have Hn := Lib.hid hn
          have Hx := Lib.hid hx
          clear hn hx
          go_enter Try.func11, Try.ntmps11
          go_wp2_with (go_at_call 17; refine (Hn.out _ _).mono ?_; rintro e w' ⟨rfl, hq⟩)
          go_ret
          have := of_decide_eq_false Hx.out
          exact ⟨ret_bool (by simp [mxSame, this]), (below_alloc2 _ _ _).trans (hq.below _)⟩
      · have hz : (C == C') = false := by simp [e3]
        go_enter Try.func11, Try.ntmps11
        go_wp2_with fail
        go_ret
        exact ⟨ret_bool (by simp [mxSame, e3]), below_alloc2 _ _ _⟩
    · have hz : (R == R') = false := by simp [e2]
      go_enter Try.func11, Try.ntmps11
      go_wp2_with fail
      go_ret
      exact ⟨ret_bool (by simp [mxSame, e2]), below_alloc2 _ _ _⟩
  · have hz : (P == P') = false := by simp [e1]
    go_enter Try.func11, Try.ntmps11
    go_wp2_with fail
    go_ret
    exact ⟨ret_bool (by simp [mxSame, e1]), below_alloc2 _ _ _⟩

set_option maxRecDepth 100000 in
set_option maxHeartbeats 400000 in
theorem big_any (p : Option Addr) (n cap : Nat) (w : World) (hn : n ≤ maxLen) :
    Calls Try.prog 6 #[.slice p n cap] w fun e w' => e = .returned (.bool (decide (1048576 < n))) ∧ w = w' := by
  unfold maxLen at hn
  go_enter Try.func6, Try.ntmps6
  by_cases h : 1048576 < n
  · have h2 : (1048576 : Int) < (n : Int) := by omega
    go_wp2
    go_ret
    exact ⟨ret_bool (by simp [h]), rfl⟩
  · have h2 : ¬ (1048576 : Int) < (n : Int) := by omega
    go_wp2
    go_ret
    exact ⟨ret_bool (by simp [h]), rfl⟩

section
open Go.ChangeShapes Go.WideShapes Go.RowKit Go.Deep Go.WideElems Go.Maps
/-- bytes that came in -/
theorem trod_byts {H : Type} {enc : TypeId × Value → H} {P : Program} {W : World} {m : Nat} {t e : TypeId} {a : Option Addr} {l c : Nat} {y : DataW H × List MemPlace}
    (ht : P.underlying t = some (.slice e)) (he : P.underlying e = some (.int .u8)) (hc : P.cellsOf e = 1)
    (h : DataW.trod enc P W 0 (fun _ => true) true m t [.slice a l c] = some y) : l ≤ maxLen ∧ Byts W (.slice a l c) l := by
  rcases open_ints ht he hc h with ⟨hcs, _⟩ | ⟨x, l', c', zs, hcs, _, hl, hm, hz, _, hcell, _⟩
  · injection hcs with hcs
    injection hcs with h1 h2 h3
    subst h1 h2 h3
    exact ⟨Nat.zero_le _, fun _ => 0, none, 0, rfl, ⟨Nat.le_refl _, Nat.zero_le _⟩, fun h => absurd h (Nat.lt_irrefl _)⟩
  · injection hcs with hcs
    injection hcs with h1 h2 h3
    subst h1 h2 h3
    refine ⟨by omega, fun j => zs.getD j 0, some x, c, rfl, ⟨hl, hm⟩, fun h0 => ?_⟩
    have hz' : zs.length = c := by simpa using hz
    have h0' := hcell 0 (by omega)
    obtain ⟨b, off, spot⟩ := x
    have hs : spot = none := by
      cases spot with
      | none => rfl
      | some s => simp [Addr.add, World.cell?] at h0'; split at h0' <;> simp_all
    subst hs
    refine ⟨b, off, rfl, fun j hj => ?_⟩
    have hadd : (⟨b, off, none⟩ : Addr).add j = ⟨b, off + j, none⟩ := by unfold Addr.add; split <;> simp_all
    rw [← hadd]
    exact hcell j (by omega)
end

end Go.Proofs.Ytmnlpkmnbjoicaa
