/-
  PositionOf, on both sides.
-/
import Derived.Test.YtapmnfakjnhlbaaPosL
namespace Go.Proofs.Ytapmnfakjnhlbaa
set_option linter.all false
open Go.RowKit

/-- what has been found so far -/
def PoUp (P : Int) (C : Nat) (A : Nat → Nat → Int) (R : Nat) (B : Nat → Nat → Int) (l : List Int) : Prop := ∀ j, j < l.length → ∃ a b, CmIs P C A R B (j + 1) a ∧ CmIs P C A R B j b ∧ l.getD j 0 = a - b
/-- what PositionOf returns -/
def PoIs (P R C : Int) (D : List Int) (P' R' C' : Int) (D' : List Int) (l : List Int) : Prop :=
  (SfIs P R C D P' R' C' D' ∧ l.length = C.toNat ∧ PoUp P C.toNat (mf C.toNat fun t => D.getD t 0) R.toNat (mf C.toNat fun t => D'.getD t 0) l) ∨ (¬ SfIs P R C D P' R' C' D' ∧ l = [])
theorem PoIs.one {P R C : Int} {D : List Int} {P' R' C' : Int} {D' : List Int} (l l' : List Int) (h : PoIs P R C D P' R' C' D' l) (h' : PoIs P R C D P' R' C' D' l') : l = l' := by
  rcases h with ⟨t, h1, h2⟩ | ⟨t, rfl⟩
  · rcases h' with ⟨_, h1', h2'⟩ | ⟨t', _⟩
    · obtain ⟨_, _, _, _, _, _, _, _, _, hP, _⟩ := mxOk_facts t.1.1
      refine getD_eq_list (by rw [h1, h1']) fun j hj => ?_
      obtain ⟨a, b, k1, k2, k3⟩ := h2 j (by omega)
      obtain ⟨a', b', k1', k2', k3'⟩ := h2' j (by omega)
      rw [k3, k3', k1.one hP k1', k2.one hP k2']
    · exact absurd t t'
  · rcases h' with ⟨t', _⟩ | ⟨_, rfl⟩
    · exact absurd t' t
    · rfl
theorem PoIs.len {P R C : Int} {D : List Int} {P' R' C' : Int} {D' : List Int} (l : List Int) (h : PoIs P R C D P' R' C' D' l) : l.length ≤ 1000 := by
  rcases h with ⟨t, h1, h2⟩ | ⟨t, rfl⟩
  · obtain ⟨r, c, _, rfl, _, _, hc, _⟩ := mxOk_facts t.1.1
    rw [h1]; simp; omega
  · simp
theorem pos_len (P R C : Int) (D : List Int) (P' R' C' : Int) (D' : List Int) : (Classical.epsilon (LsQ (PoIs P R C D P' R' C' D'))).length ≤ 1000 := LsQ.len PoIs.len
theorem PoUp.snoc {P : Int} {C R j : Nat} {A B : Nat → Nat → Int} {l : List Int} {a b : Int} (h : PoUp P C A R B l) (hl : l.length = j) (h1 : CmIs P C A R B (j + 1) a) (h2 : CmIs P C A R B j b) : PoUp P C A R B (l ++ [a - b]) := fun t ht => by
  rw [List.length_append, List.length_singleton] at ht
  by_cases e : t < l.length
  · rw [show (l ++ [a - b]).getD t 0 = l.getD t 0 by simp [List.getD_eq_getElem?_getD, List.getElem?_append_left e]]
    exact h t e
  · obtain rfl : t = j := by omega
    subst hl
    exact ⟨a, b, h1, h2, by simp [List.getD_eq_getElem?_getD]⟩
theorem RdII.shapeR {w : World} {v : Value} {rows : List (List Int)} {n : Nat} (h : RdII w v rows) (hl : rows.length = n) : ∃ p cap, v = .slice p n cap ∧ n ≤ cap ∧ cap ≤ maxLen := by
  obtain ⟨f, ⟨p, cap, e, ⟨h1, h2⟩, _⟩, _⟩ := h
  subst hl
  exact ⟨p, cap, e, h1, h2⟩


/-- the boxes of two matrices still hold what they held, and nothing that was there has changed -/
def S2 (w : World) (P R1 C1 : Int) (d1 : Value) (P2 R2 C2 : Int) (d2 : Value) (W : World) : Prop :=
  (W.cell? ⟨w.heap.size, 0, none⟩ = some (.int .i64 P) ∧ W.cell? ⟨w.heap.size, 1, none⟩ = some (.int .i64 R1) ∧ W.cell? ⟨w.heap.size, 2, none⟩ = some (.int .i64 C1) ∧ W.cell? ⟨w.heap.size, 3, none⟩ = some d1 ∧
   W.cell? ⟨w.heap.size + 1, 0, none⟩ = some (.int .i64 P2) ∧ W.cell? ⟨w.heap.size + 1, 1, none⟩ = some (.int .i64 R2) ∧ W.cell? ⟨w.heap.size + 1, 2, none⟩ = some (.int .i64 C2) ∧ W.cell? ⟨w.heap.size + 1, 3, none⟩ = some d2) ∧ Below w.heap.size w W
theorem S2.later {w : World} {P R1 C1 : Int} {d1 : Value} {P2 R2 C2 : Int} {d2 : Value} {W W' : World} (h : S2 w P R1 C1 d1 P2 R2 C2 d2 W) (hb : Below W.heap.size W W') : S2 w P R1 C1 d1 P2 R2 C2 d2 W' := keep8 hb h
theorem S2.laterB {w : World} {P R1 C1 : Int} {d1 : Value} {P2 R2 C2 : Int} {d2 : Value} {W W' : World} {B : Nat} (h : S2 w P R1 C1 d1 P2 R2 C2 d2 W) (hb : Below B W W') (hB : w.heap.size + 1 + 1 ≤ B) : S2 w P R1 C1 d1 P2 R2 C2 d2 W' :=
  keep8B hb (by omega) (by omega) (by omega) h
theorem S2.size {w : World} {P R1 C1 : Int} {d1 : Value} {P2 R2 C2 : Int} {d2 : Value} {W : World} (h : S2 w P R1 C1 d1 P2 R2 C2 d2 W) : w.heap.size + 1 + 1 ≤ W.heap.size := by
  have := World.block_lt_of_cell? _ _ h.1.2.2.2.2.1
  exact this
theorem le_alloc {w W : World} {B : Nat} (o : Obj) (h : B ≤ w.heap.size) (hb : Below w.heap.size w W) : B ≤ (W.alloc o).heap.size := by
  have := hb.size
  simp only [size_alloc]
  omega
theorem S2.of_blk {w : World} {P R1 C1 : Int} {d1 : Value} {P2 R2 C2 : Int} {d2 : Value} {W : World} {T : TypeId} (h1 : W.heap[w.heap.size]? = some (.cells #[.int .i64 P, .int .i64 R1, .int .i64 C1, d1] T (0, 0)))
    (h2 : W.heap[w.heap.size + 1]? = some (.cells #[.int .i64 P2, .int .i64 R2, .int .i64 C2, d2] T (0, 0))) (hB : Below w.heap.size w W) : S2 w P R1 C1 d1 P2 R2 C2 d2 W := by
  obtain ⟨a0, a1, a2, a3, _, _⟩ := blk4 h1
  obtain ⟨b0, b1, b2, b3, _, _⟩ := blk4 h2
  exact ⟨⟨a0, a1, a2, a3, b0, b1, b2, b3⟩, hB⟩


end Go.Proofs.Ytapmnfakjnhlbaa
