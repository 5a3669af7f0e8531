/-
  The law's own helpers over []int: copy, compare, mark, look for the marks.
-/
import Derived.Test.YtajilmfaconjbaaProg
import Derived.Test.YtajilmfaconjbaaMem
namespace Go.Proofs.Ytajilmfaconjbaa
set_option linter.all false
open Go.RowKit

theorem info_int : (Try.prog.info? 3).map (fun i => (i.zero, i.size, i.bytes)) = some (some (.int .i64 0), 1, 8) := by kernel_rfl

theorem eq_snoc {xs ys : List Int} {k : Nat} (h : ∀ j, j < k → xs.getD j 0 = ys.getD j 0) (e : xs.getD k 0 = ys.getD k 0) : ∀ j, j < k + 1 → xs.getD j 0 = ys.getD j 0 := by
  intro j hj
  by_cases hk : j = k
  · subst hk; exact e
  · exact h j (by omega)

set_option maxHeartbeats 400000 in
theorem eqIntS_any (v1 v2 : Value) (xs ys : List Int) (w : World) (h1 : Ints w v1 xs) (h2 : Ints w v2 ys) :
    Calls Try.prog 8 #[v1, v2] w fun e w' => e = .returned (.bool (decide (xs = ys))) ∧ Qt w w' := by
  obtain ⟨p, cap, rfl, ⟨hx1, hx⟩, hxc⟩ := h1
  obtain ⟨q, cap', rfl, ⟨hy1, hy⟩, hyc⟩ := h2
  unfold maxLen at hx hy
  by_cases hl : xs.length = ys.length
  · have e1 : ((xs.length : Int) != (ys.length : Int)) = false := by simp [hl]
    have Hl := Lib.hid hl
    clear hl
    go_enter Try.func8, Try.ntmps8
    go_wp2
    clear e1
    go_loopg [5] xs.length (fun g i wr => ∃ k : Nat, k ≤ xs.length ∧ g = xs.length - k ∧ i = .int .i64 k ∧ Qt w wr ∧ Hid (∀ j, j < k → xs.getD j 0 = ys.getD j 0))
    case atStart => exact ⟨0, Nat.zero_le _, rfl, rfl, Qt.refl _, fun j hj => absurd hj (Nat.not_lt_zero _)⟩
    case round =>
      obtain ⟨k, hk, rfl, rfl, hq, hp⟩ := hrel
      by_cases hlt : k < xs.length
      · obtain ⟨b, off, rfl, hc⟩ := hxc (by omega)
        have hl := Hl.out
        obtain ⟨b', off', rfl, hc'⟩ := hyc (by omega)
        have c1 := hq.cell (hc k hlt)
        have c2 := hq.cell (hc' k (by omega))
        have hk2 : k < ys.length := by omega
        unfold iv at c1 c2
        clear hl hxc hyc hc hc'
        go_wp2
        go_quiet (fail)
        go_wp2
        · have ht : (xs[k] != ys[k]) = true := by assumption
          go_ret
          refine ⟨ret_bool ?_, hq.drewN _⟩
          symm
          simp only [decide_eq_false_iff_not]
          intro e
          subst e
          simp at ht
        · have ht : (xs[k] != ys[k]) = false := by assumption
          go_roundg (xs.length - (k + 1))
          case measure => omega
          case rel =>
            refine ⟨k + 1, by omega, rfl, by go_num, hq.drewN _, eq_snoc hp.out ?_⟩
            have := by simpa using ht
            simpa [List.getD_eq_getElem?_getD, hlt, hk2] using this
      · go_wp2
        go_ret
        refine ⟨ret_bool ?_, hq⟩
        symm
        simp only [decide_eq_true_eq]
        exact getD_eq_list Hl.out fun j hj => hp.out j (by omega)
  · have e1 : ((xs.length : Int) != (ys.length : Int)) = true := by simp; omega
    go_enter Try.func8, Try.ntmps8
    go_wp2
    go_ret
    refine ⟨ret_bool ?_, Qt.refl _⟩
    symm
    simp only [decide_eq_false_iff_not]
    intro e
    exact hl (by rw [e])

set_option maxHeartbeats 400000 in
theorem toIntS_any (v : Value) (xs : List Int) (w : World) (h : Ints w v xs) (hs : xs.length ≤ 1048576) :
    Calls Try.prog 6 #[v] w fun e w' => ∃ u, e = .returned u ∧ OwnI 3 w' w.heap.size w'.heap.size u xs ∧ Below w.heap.size w w' := by
  obtain ⟨p, cap, rfl, ⟨hx1, hx⟩, hxc⟩ := h
  have hmk := run_make_row' (P := Try.prog) 22 3 (.int .i64 0) 8 Try.underlying22 info_int rfl .i64 .i64 xs.length (by omega) (by omega)
  go_enter Try.func6, Try.ntmps6
  go_wp2
  clear hmk
  go_loopg [4] xs.length (fun g i wr => ∃ k : Nat, k ≤ xs.length ∧ g = xs.length - k ∧ i = .int .i64 k ∧ Below w.heap.size w wr ∧ wr.rowIs w.heap.size 3 xs.length (fun j => if j < k then iv xs j else .int .i64 0))
  case atStart => exact ⟨0, Nat.zero_le _, rfl, rfl, (Below.refl _ _).alloc (Nat.le_refl _) _, (World.rowIs_made w _ _ _).congr fun j _ => by simp⟩
  case round =>
    obtain ⟨k, hk, rfl, rfl, hb, hr⟩ := hrel
    by_cases hlt : k < xs.length
    · obtain ⟨b, off, rfl, hc⟩ := hxc (by omega)
      have c1 := hc k hlt
      have hbl := World.block_lt_of_cell? _ _ c1
      have c2 : wr.cell? ⟨b, off + k, none⟩ = some (.int .i64 (xs.getD k 0)) := by rw [hb.cell (p := ⟨b, off + k, none⟩) hbl]; exact c1
      have c3 := hr.cell hlt
      have c4 := hr.frozen k
      clear hxc hc c1
      go_wp2
      go_roundg (xs.length - (k + 1))
      case measure => omega
      case rel =>
        refine ⟨k + 1, by omega, rfl, by go_num, hb.setCell (Nat.le_refl _) _, (hr.set k _).congr fun j hj => ?_⟩
        by_cases e : j = k
        · subst e; simp [iv, hj]
        · by_cases e2 : j < k
          · simp [e, e2, show j < k + 1 by omega]
          · simp [e, e2, show ¬ j < k + 1 by omega]
    · go_wp2
      go_ret
      obtain rfl : k = xs.length := by omega
      exact ⟨_, rfl, (rowIs_ints (hr.congr fun j hj => by simp [hj]) (Nat.le_trans hx1 hx)).mono (Nat.le_refl _) (Nat.le_refl _), hb⟩

/-- is slot after slot m, m+1, ..? then what comes behind; else -1 -/
def heldI (xs : List Int) (m : Int) : Int := if xs = runs m xs.length then m + xs.length else -1

theorem heldI_runs (m : Int) (n : Nat) : heldI (runs m n) m = m + n := by simp [heldI, length_runs]

end Go.Proofs.Ytajilmfaconjbaa
