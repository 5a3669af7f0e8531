/-
  The law's helpers on slices of slices of ints: compared, written over, read again.
-/
import Derived.Test.YtajilmfaconjbaaLawM
import Derived.Test.YtajilmfaconjbaaApp
import Derived.Test.YtajilmfaconjbaaHeld
namespace Go.Proofs.Ytajilmfaconjbaa
set_option linter.all false
open Go.RowKit

theorem ints_at {w : World} {v : Value} {rows : List (List Int)} {f : Nat → Value} (h : ∀ i, i < rows.length → Ints w (f i) (rows.getD i [])) {i : Nat} (hi : i < rows.length) :
    ∃ p cap, f i = .slice p (rows.getD i []).length cap ∧ (rows.getD i []).length ≤ cap ∧ cap ≤ maxLen := by
  obtain ⟨p, cap, e, ⟨h1, h2⟩, _⟩ := h i hi
  exact ⟨p, cap, e, h1, h2⟩

theorem keep2 {wr W W' : World} {a0 a1 : Addr} {v0 v1 : Value} (hb : Below W.heap.size W W') (h : (W.cell? a0 = some v0 ∧ W.cell? a1 = some v1) ∧ Below wr.heap.size wr W) :
    (W'.cell? a0 = some v0 ∧ W'.cell? a1 = some v1) ∧ Below wr.heap.size wr W' := ⟨⟨cell_below hb h.1.1, cell_below hb h.1.2⟩, below_trans h.2 hb⟩

/-- two lists of lists are the same row by row -/
theorem rows_eq {xs ys : List (List Int)} (hl : xs.length = ys.length) (h : ∀ j, j < xs.length → xs.getD j [] = ys.getD j []) : xs = ys := by
  apply List.ext_getElem hl
  intro i h1 h2
  have := h i h1
  simpa [List.getD_eq_getElem?_getD, h1, h2] using this

/-- slices of different types lie in different blocks -/
theorem own_types {Ts Ti : TypeId} {w : World} {lo hi lo1 hi1 n : Nat} {v y : Value} {f : Nat → Value} {ys : List Int} (g1 : OwnF w lo hi Ts v n f) (hy : OwnI Ti w lo1 hi1 y ys) (hT : Ts ≠ Ti)
    {k : Nat} (hv : v.ownBlock = some k) (hk : y.ownBlock = some k) : False := by
  obtain ⟨zs, hz, _⟩ := g1
  rcases Own.row hz with ⟨e1, _⟩ | ⟨g, cap', F, e1, _, _, _, _, hr, _⟩
  · rw [e1] at hv; simp [Value.ownBlock] at hv
  · rw [e1] at hv
    simp only [Value.ownBlock, Option.some.injEq] at hv
    subst hv
    rcases Own.row hy with ⟨e2, _⟩ | ⟨g', cap2, F2, e2, _, _, _, _, hr2, _⟩
    · rw [e2] at hk; simp [Value.ownBlock] at hk
    · rw [e2] at hk
      simp only [Value.ownBlock, Option.some.injEq] at hk
      subst hk
      obtain ⟨c, hc, _⟩ := hr
      obtain ⟨c2, hc2, _⟩ := hr2
      rw [hc] at hc2
      injection hc2 with hc2
      injection hc2 with _ hc2
      exact hT hc2
/-- an owned slice lies in its own block, or in none -/
theorem OwnI.tight {T : TypeId} {w : World} {lo hi : Nat} {v : Value} {xs : List Int} (h : OwnI T w lo hi v xs) :
    ∃ lo' hi', OwnI T w lo' hi' v xs ∧ (∀ k, lo' ≤ k → k < hi' → v.ownBlock = some k ∧ lo ≤ k ∧ k < hi) := by
  obtain ⟨⟨hl, hr⟩, hh⟩ := h
  rcases hr with ⟨rfl, h0⟩ | ⟨g, cap, cur, rfl, hg, r⟩
  · exact ⟨0, 0, ⟨⟨hl, .inl ⟨rfl, h0⟩⟩, fun k hk => by simp [Value.ownBlock] at hk⟩, fun k h1 h2 => absurd h2 (Nat.not_lt_zero _)⟩
  · refine ⟨g, g + 1, ⟨⟨hl, .inr ⟨g, cap, cur, rfl, Nat.le_refl _, r⟩⟩, fun k hk => by simp [Value.ownBlock] at hk; omega⟩, fun k h1 h2 => ?_⟩
    obtain rfl : k = g := by omega
    exact ⟨rfl, hg, hh k rfl⟩

theorem OwnI.widen {T : TypeId} {w : World} {lo hi lo' hi' : Nat} {v : Value} {xs : List Int} (h : OwnI T w lo' hi' v xs) (hin : ∀ k, v.ownBlock = some k → lo ≤ k ∧ k < hi) : OwnI T w lo hi v xs := by
  obtain ⟨⟨hl, hr⟩, hh⟩ := h
  rcases hr with ⟨rfl, h0⟩ | ⟨g, cap, cur, rfl, hg, r⟩
  · exact ⟨⟨hl, .inl ⟨rfl, h0⟩⟩, fun k hk => by simp [Value.ownBlock] at hk⟩
  · exact ⟨⟨hl, .inr ⟨g, cap, cur, rfl, (hin g rfl).1, r⟩⟩, fun k hk => (hin k hk).2⟩
theorem OwnI.besides {T : TypeId} {w w' : World} {lo hi lo' hi' : Nat} {v : Value} {xs : List Int} (h : OwnI T w lo hi v xs) (hf : Frm lo' hi' w w') (hne : ∀ b, v.ownBlock = some b → b < lo' ∨ hi' ≤ b) : OwnI T w' lo hi v xs :=
  ⟨ownsRow_of_block h.1 fun b hb => hf.block b (Own.block h hb).2.2 (hne b hb), h.2⟩
theorem OwnF.besides {T : TypeId} {w w' : World} {lo hi lo' hi' n : Nat} {v : Value} {f : Nat → Value} (h : OwnF w lo hi T v n f) (hf : Frm lo' hi' w w') (hne : ∀ b, v.ownBlock = some b → b < lo' ∨ hi' ≤ b) : OwnF w' lo hi T v n f := by
  obtain ⟨xs, h, hx⟩ := h
  exact ⟨xs, ⟨ownsRow_of_block h.1 fun b hb => hf.block b (Own.block h hb).2.2 (hne b hb), h.2⟩, hx⟩

/-- how many numbers the first k rows have -/
def pre (rows : List (List Int)) (k : Nat) : Nat := (rows.take k).flatten.length
theorem pre_zero (rows : List (List Int)) : pre rows 0 = 0 := by simp [pre]
theorem pre_succ (rows : List (List Int)) (k : Nat) (h : k < rows.length) : pre rows (k + 1) = pre rows k + (rows.getD k []).length := by
  have e : rows[k]? = some (rows.getD k []) := by rw [List.getD_eq_getElem?_getD, List.getElem?_eq_getElem h]; rfl
  unfold pre
  rw [List.take_add_one, List.flatten_append, List.length_append, e]
  simp only [Option.toList, List.flatten_cons, List.flatten_nil, List.append_nil]
theorem pre_le (rows : List (List Int)) (k : Nat) : pre rows k ≤ rows.flatten.length := by
  have e : rows.flatten.length = (rows.take k).flatten.length + (rows.drop k).flatten.length := by
    rw [← List.length_append, ← List.flatten_append, List.take_append_drop]
  unfold pre; omega
theorem pre_all (rows : List (List Int)) : pre rows rows.length = rows.flatten.length := by simp [pre]
/-- the rows, written over by m, m+1, .. -/
def runsII (m : Int) (rows : List (List Int)) : List (List Int) := (List.range rows.length).map fun i => runs (m + pre rows i) (rows.getD i []).length
theorem length_runsII (m : Int) (rows : List (List Int)) : (runsII m rows).length = rows.length := by simp [runsII]
theorem getD_runsII (m : Int) (rows : List (List Int)) {i : Nat} (h : i < rows.length) : (runsII m rows).getD i [] = runs (m + pre rows i) (rows.getD i []).length := by
  simp [runsII, List.getD_eq_getElem?_getD, h]

end Go.Proofs.Ytajilmfaconjbaa
