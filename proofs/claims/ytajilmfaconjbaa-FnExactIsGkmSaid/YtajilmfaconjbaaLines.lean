/-
  slices.Clone at []int; the rows of a matrix; a multiple of a row added to another one.
-/
import Derived.Test.YtajilmfaconjbaaMok
namespace Go.Proofs.Ytajilmfaconjbaa
set_option linter.all false
open Go.RowKit

/-- a call returned this list, in new memory, and changed nothing that was there -/
def RetI (w : World) (xs : List Int) (e : Ending) (w' : World) : Prop :=
  ∃ u, e = .returned u ∧ OwnI 3 w' w.heap.size w'.heap.size u xs ∧ Below w.heap.size w w'
/-- .. this list of lists -/
def RetII (w : World) (rows : List (List Int)) (e : Ending) (w' : World) : Prop :=
  ∃ u, e = .returned u ∧ OwnII 22 3 w' w.heap.size w'.heap.size u rows ∧ Below w.heap.size w w'

set_option maxRecDepth 100000 in
set_option maxHeartbeats 400000 in
theorem clone_any (v : Value) (xs : List Int) (w : World) (h : Ints w v xs) (hl : xs.length ≤ 1000000) :
    Calls Try.prog 57 #[v] w (RetI w xs) := by
  have hI := Lib.hid h
  obtain ⟨p, cap, rfl, ⟨hx1, hx2⟩, hxc⟩ := h
  have keq := fun (n c : Nat) => Lib.run_eql_slice_nil (P := Try.prog) w 22 3 p n c 0 0 Try.underlying22
  cases p with
  | none =>
    have hx0 : xs.length = 0 := by
      rcases Nat.eq_zero_or_pos xs.length with h0 | h0
      · exact h0
      · obtain ⟨b, off, e, _⟩ := hxc h0; cases e
    obtain rfl := List.eq_nil_of_length_eq_zero hx0
    clear hxc hI
    go_enter Try.func57, Try.ntmps57
    go_wp2_with fail
    go_ret
    exact ⟨_, rfl, ⟨World.ownsRow_nil _ _ _ _, fun k hk => by simp [Value.ownBlock] at hk⟩, Below.refl _ _⟩
  | some a =>
    have Hb1 := Lib.hid (show 0 + xs.length ≤ maxLen by unfold maxLen; omega)
    have Hb2 := Lib.hid (show (0 + xs.length) * 8 ≤ 140737488355328 by omega)
    clear hxc
    go_enter Try.func57, Try.ntmps57
    go_wp2_with (at_builtin; go_must (refine wpList_append_F rfl (.tmp 5) (.tmp 6) 22 rfl 3 (.int .i64 0) 8 Try.underlying22 info_int rfl w.heap.size (w.heap.size + 1) _ 0 (fun _ => undef) rfl (OwnF.made0 w _ _) (by simp) (by simp) _ _ _ rfl (hI.out.below (below_alloc w _)) (fun j _ => iv_one _ j) Hb1.out Hb2.out ?_; intro v' w' ho' hg'))
    go_ret
    refine ⟨_, rfl, OwnF.ints ?_, (below_alloc w _).trans (grownBy_below hg' (OwnF.made0 w 3 (fun _ => undef)).blocks (Nat.le_refl _) (by simp))⟩
    rw [Nat.zero_add] at ho'
    exact ho'.congr fun j _ => by simp

set_option maxRecDepth 100000 in
set_option maxHeartbeats 1000000 in
/-- the rows of a matrix, each in memory of its own -/
theorem lines_any (P : Int) (R C : Nat) (d : Value) (D : List Int) (w : World) (h : Ints w d D) (hR : R ≤ 1000) (hC : C ≤ 1000) (hC0 : 1 ≤ C) (hD : D.length = R * C) :
    Calls Try.prog 45 #[.agg #[.int .i64 P, .int .i64 (R : Int), .int .i64 (C : Int), d]] w (RetII w (rowsOf R C D)) := by
  have hI := Lib.hid h
  obtain ⟨p, cap, rfl, ⟨hx1, hx2⟩, hxc⟩ := h
  unfold maxLen at hx2
  have Hxc := Lib.hid hxc
  have HD := Lib.hid hD
  clear hxc hD
  go_enter Try.func45, Try.ntmps45
  go_wp2_with fail
  go_loopg [3, 8] R (fun g s3 i wr => ∃ k : Nat, k ≤ R ∧ g = R - k ∧ i = .int .i64 k ∧ Below (w.heap.size + 1) (w.alloc (.cells #[.int .i64 P, .int .i64 (R : Int), .int .i64 (C : Int), .slice p D.length cap] 29)) wr ∧
    OwnII 22 3 wr (w.heap.size + 1) wr.heap.size s3 ((rowsOf R C D).take k))
  case atStart =>
    have hm0 := OwnF.made0 (w.alloc (.cells #[.int .i64 P, .int .i64 (R : Int), .int .i64 (C : Int), .slice p D.length cap] 29)) 22 (fun _ => undef)
    simp only [size_alloc] at hm0
    exact ⟨0, Nat.zero_le _, rfl, rfl, (Below.refl _ _).alloc (by simp) _, fun _ => undef, hm0.mono (Nat.le_refl _) (by simp), fun i hi => absurd hi (by simp), fun i j _ hj => absurd hj (by simp)⟩
  case round =>
    obtain ⟨k, hk, rfl, rfl, hb, f, g1, g2, g3⟩ := hrel
    obtain ⟨c0, c1, c2, c3, cf, hz⟩ := blk4 (show wr.heap[w.heap.size]? = _ by rw [hb.block _ (by omega)]; exact heap_alloc_top w _)
    by_cases hlt : k < R
    · have hDl := HD.out
      have hkc := mul_le_of (C := C) hlt
      rw [Nat.add_mul, Nat.one_mul] at hkc
      have hRC : R * C ≤ 1000 * 1000 := Nat.mul_le_mul hR hC
      obtain ⟨K, hK, hr1, hr2⟩ := row_named k C (by omega)
      have hKn : K + C ≤ D.length := by omega
      have hKc : K < cap := by omega
      obtain ⟨b, off, rfl, hc⟩ := Hxc.out (by omega)
      have HK := Lib.hid hK
      have hbw : Below w.heap.size w wr := (below_alloc w _).trans (hb.mono (by omega))
      have Hrow := Lib.hid (Rd.part (hI.out.below hbw) K C (cap - K) hKn (by omega) (by unfold maxLen; omega))
      obtain ⟨r1, r2⟩ := hr1.out
      clear hc hDl hkc hRC hK hr2 hr1
      have hri : Ints wr (.slice (some ⟨b, off + K, none⟩) C (cap - K)) (rowAt C D k) := by
        have hrl : (rowAt C D k).length = C := rowAt_length (by rw [Nat.add_mul, Nat.one_mul, ← HK.out]; exact hKn)
        unfold Ints
        rw [hrl]
        exact Hrow.out.congr fun j hj => by rw [iv, iv, rowAt_getD hj, HK.out]
      have Hri := Lib.hid hri
      have hlen : ((rowsOf R C D).take k).length = k := by rw [List.length_take, rowsOf_length]; omega
      have Hlen := Lib.hid hlen
      rw [hlen] at g1 g2 g3
      have hrow1 : (rowAt C D k).length ≤ 1000000 := by rw [rowAt_length (by rw [Nat.add_mul, Nat.one_mul, ← HK.out]; exact hKn)]; omega
      have G1 := Lib.hid g1
      have G2 := Lib.hid g2
      have G3 := Lib.hid g3
      have hsz := hb.size
      simp only [size_alloc] at hsz
      have Hb1 := Lib.hid (show k + 1 ≤ maxLen by unfold maxLen; omega)
      have Hb2 := Lib.hid (show (k + 1) * 24 ≤ 140737488355328 by omega)
      clear g1 g2 g3 hlen hri hrow1
      go_wp2_with (at_builtin; fail)
      refine (clone_any _ _ _ Hri.out (by rw [rowAt_length (by rw [Nat.add_mul, Nat.one_mul, ← HK.out]; exact hKn)]; omega)).mono ?_
      rintro e w1 ⟨u, rfl, ho, hb1⟩
      obtain ⟨up, ucap, rfl, _, _⟩ := ho.shape
      have Ho := Lib.hid ho
      have G1' := Lib.hid fun o => (G1.out.below hb1).below (below_alloc w1 o)
      have hsz1 := hb1.size
      have Hb := Lib.hid hb
      have Hb1' := Lib.hid hb1
      clear ho r1 r2 hb hb1 c0 c1 c2 c3 cf hz
      go_wp2_with (at_builtin; go_must (refine wpList_append_F rfl (.tmp 11) (.tmp 25) 40 rfl 22 (.slice none 0 0) 24 Try.underlying40 info_sl rfl (w.heap.size + 1) wr.heap.size u3 k f rfl (G1'.out _) (by simp; omega) (by simp; omega) _ _ _ rfl (rd_one _ _ _ rfl) (fun j _ => rfl) Hb1.out Hb2.out ?_; intro v' w' ho' hg'))
      have hs := hg'.size
      simp only [size_alloc] at hs
      go_roundg (R - (k + 1))
      case measure => omega
      case rel =>
        refine ⟨k + 1, by omega, rfl, by go_num, (Hb.out.trans ((Hb1'.out.trans (below_alloc w1 _ |>.mono hsz1)).mono hsz)).trans (grownBy_below hg' (G1'.out default).blocks (Nat.le_refl _) (by simp; omega)), ?_⟩
        have ht : (rowsOf R C D).take (k + 1) = (rowsOf R C D).take k ++ [rowAt C D k] := by
          rw [List.take_succ_eq_append_getElem (by rw [rowsOf_length]; exact hlt)]
          simp [rowsOf]
        rw [ht]
        refine OwnII.snoc (mid := wr.heap.size) (hi := w1.heap.size) (f := f) ?_ ?_ ?_ (Ho.out.below (below_alloc w1 _)) (by omega) hsz1 (by decide) hg' (by omega) ?_
        · rw [Hlen.out]; exact G1'.out _
        · rw [Hlen.out]; exact fun i hi => ((G2.out i hi).below Hb1'.out).below (below_alloc w1 _)
        · rw [Hlen.out]; exact G3.out
        · rw [Hlen.out]; exact ho'
    · obtain rfl : k = R := by omega
      rw [List.take_of_length_le (by rw [rowsOf_length]; exact Nat.le_refl _)] at g1 g2 g3
      have HII := Lib.hid (show OwnII 22 3 wr (w.heap.size + 1) wr.heap.size u3 (rowsOf k C D) from ⟨f, g1, g2, g3⟩)
      clear g1 g2 g3
      go_wp2_with fail
      go_ret
      exact ⟨_, rfl, HII.out.mono (by omega) (Nat.le_refl _), (below_alloc w _).trans (hb.mono (by omega))⟩

end Go.Proofs.Ytajilmfaconjbaa
