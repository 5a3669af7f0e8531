/-
  ClassesOk, on both sides.
-/
import Derived.Test.YtejoapielndnnaaCls
import Derived.Test.YtejoapielndnnaaLex
import Derived.Test.YtejoapielndnnaaPmat
namespace Go.Proofs.Ytejoapielndnnaa
set_option linter.all false
open Go.RowKit

/-- class k of a list is as it should be -/
def clAt (cs : List Cls) (k : Nat) : Bool :=
  permOk (cs.getD k clD).1 && decide (trimN (cs.getD k clD).1 (cs.getD k clD).1.length = (cs.getD k clD).1.length) && !decide ((cs.getD k clD).2 = 0) && !decide ((cs.getD k clD).2 < -1000000) && !decide (1000000 < (cs.getD k clD).2) &&
    (!decide (0 < k) || ltB (cs.getD (k - 1) clD).1 (cs.getD k clD).1)
def clsOk (cs : List Cls) : Bool := decide (cs.length ≤ 100) && (List.range cs.length).all (clAt cs)
theorem clsOk_big {cs : List Cls} (h : 100 < cs.length) : clsOk cs = false := by
  unfold clsOk; rw [decide_eq_false (by omega)]; rfl
theorem clsOk_bad {cs : List Cls} {k : Nat} (hk : k < cs.length) (h : clAt cs k = false) : clsOk cs = false := by
  unfold clsOk
  have : (List.range cs.length).all (clAt cs) = false := List.all_eq_false.2 ⟨k, List.mem_range.2 hk, by simp [h]⟩
  rw [this, Bool.and_false]
theorem clsOk_yes {cs : List Cls} (hl : cs.length ≤ 100) (h : ∀ k, k < cs.length → clAt cs k = true) : clsOk cs = true := by
  unfold clsOk
  rw [decide_eq_true hl, Bool.true_and, List.all_eq_true]
  exact fun k hk => h k (List.mem_range.1 hk)
theorem implTrim_sh (v : Value) (xs : List Int) (w : World) (h : Ints w v xs) (hp : permOk xs = true) :
    Calls Try.prog 80 #[v] w fun e w' => ∃ (p : Option Addr) (k : Nat), e = .returned (.slice p (trimN xs xs.length) k) ∧ Below w.heap.size w w' :=
  (implTrim_yes v xs w h hp).mono fun e w' ⟨u, h1, h2, h3⟩ => by
    obtain ⟨p, k, rfl, _, _⟩ := h2.shape
    exact ⟨p, k, by rw [h1, trimL_length], h3⟩
theorem l1Trim_sh (v : Value) (xs : List Int) (w : World) (h : Ints w v xs) (hl : xs.length ≤ 1000000) :
    Calls Try.prog 75 #[v] w fun e w' => ∃ (p : Option Addr) (k : Nat), e = .returned (.slice p (trimN xs xs.length) k) ∧ Below w.heap.size w w' :=
  (l1Trim_any v xs w h hl).mono fun e w' ⟨u, h1, h2, h3⟩ => by
    obtain ⟨p, k, rfl, _, _⟩ := h2.shape
    exact ⟨p, k, by rw [h1, trimL_length], h3⟩
theorem keep3w {wr W W' : World} {a0 a1 a2 : Addr} {v0 v1 v2 : Value} (hb : Below W.heap.size W W') (h : (W.cell? a0 = some v0 ∧ W.cell? a1 = some v1 ∧ W.cell? a2 = some v2) ∧ Below wr.heap.size wr W) :
    (W'.cell? a0 = some v0 ∧ W'.cell? a1 = some v1 ∧ W'.cell? a2 = some v2) ∧ Below wr.heap.size wr W' :=
  ⟨⟨cell_below hb h.1.1, cell_below hb h.1.2.1, cell_below hb h.1.2.2⟩, below_trans h.2 hb⟩

theorem Qt.belowS {w w' : World} (h : Qt w w') : Below w.heap.size w w' := h.below _
theorem l1In_b (a b c : Int) (w : World) (r : Bool) (h : decide (b ≤ a ∧ a ≤ c) = r) : Calls Try.prog 68 #[.int .i64 a, .int .i64 b, .int .i64 c] w fun e w' => e = .returned (.bool r) ∧ w = w' := h ▸ l1In_any a b c w

end Go.Proofs.Ytejoapielndnnaa
