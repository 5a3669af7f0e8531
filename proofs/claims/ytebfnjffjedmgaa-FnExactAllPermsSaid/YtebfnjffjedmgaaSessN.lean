/-
  NewSession: what both make, and the law's helpers on sessions whose classes and shape are empty.
-/
import Derived.Test.YtebfnjffjedmgaaLawM
namespace Go.Proofs.Ytebfnjffjedmgaa
set_option linter.all false
open Go.RowKit

theorem eqClassS_nil (p q : Option Addr) (c d : Nat) (w : World) :
    Calls Try.prog 29 #[.slice p 0 c, .slice q 0 d] w fun e w' => e = .returned (.bool true) ∧ Below w.heap.size w w' := by
  go_enter Try.func29, Try.ntmps29
  go_wp2
  go_loopg [5] 0 (fun g i wr => i = .int .i64 0 ∧ Qt w wr)
  case atStart => exact ⟨rfl, Qt.refl _⟩
  case round =>
    obtain ⟨rfl, hq⟩ := hrel
    go_wp2
    go_ret
    exact ⟨rfl, hq.below _⟩
theorem markClassS_nil (p : Option Addr) (c : Nat) (k : Int) (w : World) :
    Calls Try.prog 30 #[.slice p 0 c, .int .i64 k] w fun e w' => e = .returned (.int .i64 k) ∧ Below w.heap.size w w' := by
  go_enter Try.func30, Try.ntmps30
  go_wp2
  go_loopg [1, 5] 0 (fun g k' i wr => k' = .int .i64 k ∧ i = .int .i64 0 ∧ Qt w wr)
  case atStart => exact ⟨rfl, rfl, Qt.refl _⟩
  case round =>
    obtain ⟨rfl, rfl, hq⟩ := hrel
    go_wp2
    go_ret
    exact ⟨rfl, hq.below _⟩
theorem heldClassS_nil (p : Option Addr) (c : Nat) (k : Int) (w : World) :
    Calls Try.prog 32 #[.slice p 0 c, .int .i64 k] w fun e w' => e = .returned (.int .i64 k) ∧ Below w.heap.size w w' := by
  go_enter Try.func32, Try.ntmps32
  go_wp2
  go_loopg [1, 5] 0 (fun g k' i wr => k' = .int .i64 k ∧ i = .int .i64 0 ∧ Qt w wr)
  case atStart => exact ⟨rfl, rfl, Qt.refl _⟩
  case round =>
    obtain ⟨rfl, rfl, hq⟩ := hrel
    go_wp2
    go_ret
    exact ⟨rfl, hq.below _⟩
theorem blk5 {w : World} {b : Nat} {x0 x1 x2 x3 x4 : Value} {T : TypeId} (h : w.heap[b]? = some (.cells #[x0, x1, x2, x3, x4] T (0, 0))) :
    w.cell? ⟨b, 0, none⟩ = some x0 ∧ w.cell? ⟨b, 1, none⟩ = some x1 ∧ w.cell? ⟨b, 2, none⟩ = some x2 ∧ w.cell? ⟨b, 3, none⟩ = some x3 ∧ w.cell? ⟨b, 4, none⟩ = some x4 ∧ (∀ j, w.frozen? ⟨b, j, none⟩ = false) ∧ b < w.heap.size :=
  ⟨cell_of_blk h rfl, cell_of_blk h rfl, cell_of_blk h rfl, cell_of_blk h rfl, cell_of_blk h rfl, free_of_blk h, blk_lt h⟩
theorem ints_nil (w : World) (p : Option Addr) : Ints w (.slice p 0 0) [] := ⟨p, 0, rfl, ⟨Nat.le_refl _, Nat.zero_le _⟩, fun h => absurd h (by simp)⟩
theorem own_nil (T : TypeId) (w : World) (lo hi : Nat) : OwnI T w lo hi (.slice none 0 0) [] := ⟨World.ownsRow_nil _ _ _ _, fun k hk => by simp [Value.ownBlock] at hk⟩

theorem implNewSession_any (w : World) :
    Calls Try.prog 8 #[] w fun e w' => ∃ u, e = .returned (.agg #[u, .slice none 0 0, .slice none 0 0, .int .i64 2, .int .i64 4]) ∧ OwnI 3 w' w.heap.size w'.heap.size u [0] ∧ Below w.heap.size w w' := by
  go_enter Try.func8, Try.ntmps8
  go_wp2
  have hz : ∀ A B : Obj, ((w.alloc A).alloc B).heap[w.heap.size]? = some A := fun A B => (heap_alloc_low _ _ (by simp)).trans (heap_alloc_top _ _)
  obtain ⟨c0, c1, c2, c3, c4, _, hz0⟩ := blk5 (hz (.cells #[.slice (some ⟨w.heap.size + 1, 0, none⟩) 1 1, .slice none 0 0, .slice none 0 0, .int .i64 2, .int .i64 4] 25) (.cells #[.int .i64 0] 3))
  refine bodyPost_ret (v := .agg #[.slice (some ⟨w.heap.size + 1, 0, none⟩) 1 1, .slice none 0 0, .slice none 0 0, .int .i64 2, .int .i64 4]) (by simp [results, Try.results8, go_sem, c0, c1, c2, c3, c4]) rfl ⟨_, rfl, ?_, ?_⟩
  · refine (rowIs_ints (xs := [0]) ⟨#[.int .i64 0], heap_alloc_at _ _ (by simp), rfl, fun i hi => ?_⟩ (by decide)).mono (by simp) (Nat.le_refl _)
    obtain rfl : i = 0 := by simpa using hi
    rfl
  · exact below_alloc2 _ _ _
theorem specNewSession_any (w : World) :
    Calls Try.prog 7 #[] w fun e w' => ∃ u s t, e = .returned (.agg #[u, .slice s 0 0, .slice t 0 0, .int .i64 2, .int .i64 4]) ∧ OwnI 3 w' w.heap.size w'.heap.size u [0] ∧ Below w.heap.size w w' := by
  go_enter Try.func7, Try.ntmps7
  go_wp2
  have hz : ∀ A B C D : Obj, ((((w.alloc A).alloc B).alloc C).alloc D).heap[w.heap.size]? = some A := fun A B C D =>
    (heap_alloc_low _ _ (by simp; omega)).trans ((heap_alloc_low _ _ (by simp; omega)).trans ((heap_alloc_low _ _ (by simp)).trans (heap_alloc_top _ _)))
  have hy : ∀ A B C D : Obj, ((((w.alloc A).alloc B).alloc C).alloc D).heap[w.heap.size + 1]? = some B := fun A B C D =>
    (heap_alloc_low _ _ (by simp)).trans ((heap_alloc_low _ _ (by simp)).trans (heap_alloc_at _ _ (by simp)))
  obtain ⟨c0, c1, c2, c3, c4, _, hz0⟩ := blk5 (hz (.cells #[.slice (some ⟨w.heap.size + 1, 0, none⟩) 1 1, .slice (some ⟨w.heap.size + 1 + 1, 0, none⟩) 0 0, .slice (some ⟨w.heap.size + 1 + 1 + 1, 0, none⟩) 0 0, .int .i64 2, .int .i64 4] 25) (.cells #[.int .i64 0] 3) (.cells #[] 62) (.cells #[] 3))
  refine bodyPost_ret (v := .agg #[.slice (some ⟨w.heap.size + 1, 0, none⟩) 1 1, .slice (some ⟨w.heap.size + 1 + 1, 0, none⟩) 0 0, .slice (some ⟨w.heap.size + 1 + 1 + 1, 0, none⟩) 0 0, .int .i64 2, .int .i64 4]) (by simp [results, Try.results7, go_sem, c0, c1, c2, c3, c4]) rfl ⟨_, _, _, rfl, ?_, ?_⟩
  · refine (rowIs_ints (xs := [0]) ⟨#[.int .i64 0], hy _ _ _ _, rfl, fun i hi => ?_⟩ (by decide)).mono (by simp) (Nat.le_refl _)
    obtain rfl : i = 0 := by simpa using hi
    rfl
  · exact (below_alloc3 _ _ _ _).alloc (by simp; omega) _

theorem eqSession_any (u u' : Value) (xs : List Int) (s t s' t' : Option Addr) (K N : Int) (w : World) (h : Ints w u xs) (h' : Ints w u' xs) :
    Calls Try.prog 9 #[.agg #[u, .slice s 0 0, .slice t 0 0, .int .i64 K, .int .i64 N], .agg #[u', .slice s' 0 0, .slice t' 0 0, .int .i64 K, .int .i64 N]] w fun e w' =>
      e = .returned (.bool true) ∧ Below w.heap.size w w' := by
  obtain ⟨p, k, rfl, hx1, hx2⟩ := h
  obtain ⟨p', k', rfl, hy1, hy2⟩ := h'
  have H := Lib.hid (show Ints w (.slice p xs.length k) xs from ⟨p, k, rfl, hx1, hx2⟩)
  have H' := Lib.hid (show Ints w (.slice p' xs.length k') xs from ⟨p', k', rfl, hy1, hy2⟩)
  clear hx1 hx2 hy1 hy2
  go_enter Try.func9, Try.ntmps9
  go_wp2_with fail
  refine (eqIntS_same _ _ xs _ (H.out.below (below_alloc2 _ _ _)) (H'.out.below (below_alloc2 _ _ _))).mono ?_
  rintro e w1 ⟨rfl, hb⟩
  have Z1 := Lib.hid ((hb.block w.heap.size (by simp; omega)).trans ((heap_alloc_low _ _ (by simp)).trans (heap_alloc_top _ _)))
  have Z2 := Lib.hid ((hb.block (w.heap.size + 1) (by simp)).trans (heap_alloc_at _ _ (by simp)))
  have B1 : Below w.heap.size w w1 := (below_alloc2 _ _ _).trans (hb.mono (by simp; omega))
  clear hb
  obtain ⟨c0, c1, c2, c3, c4, cf, hz0⟩ := blk5 Z1.out
  obtain ⟨d0, d1, d2, d3, d4, df, dz0⟩ := blk5 Z2.out
  go_wp2_with fail
  refine (eqClassS_nil _ _ _ _ _).mono ?_
  rintro e w2 ⟨rfl, hb⟩
  have Z1 := Lib.hid (blk_later Z1.out hb)
  have Z2 := Lib.hid (blk_later Z2.out hb)
  have B2 : Below w.heap.size w w2 := B1.trans (hb.mono B1.size)
  clear hb c0 c1 c2 c3 c4 cf hz0 d0 d1 d2 d3 d4 df dz0
  obtain ⟨c0, c1, c2, c3, c4, cf, hz0⟩ := blk5 Z1.out
  obtain ⟨d0, d1, d2, d3, d4, df, dz0⟩ := blk5 Z2.out
  go_wp2_with fail
  refine (eqIntS_same _ _ [] _ (ints_nil _ _) (ints_nil _ _)).mono ?_
  rintro e w3 ⟨rfl, hb⟩
  have Z1 := Lib.hid (blk_later Z1.out hb)
  have Z2 := Lib.hid (blk_later Z2.out hb)
  have B3 : Below w.heap.size w w3 := B2.trans (hb.mono B2.size)
  clear hb c0 c1 c2 c3 c4 cf hz0 d0 d1 d2 d3 d4 df dz0
  obtain ⟨c0, c1, c2, c3, c4, cf, hz0⟩ := blk5 Z1.out
  obtain ⟨d0, d1, d2, d3, d4, df, dz0⟩ := blk5 Z2.out
  go_wp2_with fail
  go_ret
  exact ⟨rfl, B3⟩

theorem markSession_any (u : Value) (xs : List Int) (lo hi : Nat) (m : Int) (w : World) (h : OwnI 3 w lo hi u xs) (h0 : 0 ≤ m) (h1 : m + xs.length ≤ 1000000000) (hh : hi ≤ w.heap.size) :
    Calls Try.prog 10 #[.agg #[u, .slice none 0 0, .slice none 0 0, .int .i64 2, .int .i64 4], .int .i64 m] w fun e w' =>
      e = .returned (.int .i64 (m + xs.length)) ∧ OwnI 3 w' lo hi u (runs m xs.length) ∧ Frm lo hi w w' := by
  obtain ⟨p, k, rfl, _, _⟩ := h.shape
  have H := Lib.hid h
  go_enter Try.func10, Try.ntmps10
  go_wp2_with fail
  refine (markIntS_any _ xs lo hi m _ (H.out.below (below_alloc _ _)) h0 (by omega)).mono ?_
  rintro e w1 ⟨rfl, ho, hf⟩
  have Z1 := Lib.hid (hf.blk (heap_alloc_top _ _) (.inr (by omega)))
  have F1 := Frm.below_left (below_alloc _ _) hf
  have O1 := Lib.hid ho
  clear hf ho
  obtain ⟨c0, c1, c2, c3, c4, cf, hz0⟩ := blk5 Z1.out
  go_wp2_with fail
  refine (markClassS_nil _ _ _ _).mono ?_
  rintro e w2 ⟨rfl, hb⟩
  have Z1 := Lib.hid (blk_later Z1.out hb)
  have F2 := F1.trans (Frm.of_below hb lo hi)
  have O2 := Lib.hid (O1.out.below hb)
  clear hb c0 c1 c2 c3 c4 cf hz0
  obtain ⟨c0, c1, c2, c3, c4, cf, hz0⟩ := blk5 Z1.out
  go_wp2_with fail
  refine (markIntS_any _ [] w2.heap.size w2.heap.size _ _ (own_nil _ _ _ _) (by omega) (by simp; omega)).mono ?_
  rintro e w3 ⟨rfl, ho, hf⟩
  have hb := hf.below (Nat.le_refl _) (Nat.le_refl _)
  have F3 := F2.trans (Frm.of_below hb lo hi)
  have O3 := Lib.hid (O2.out.below hb)
  clear hf hb ho c0 c1 c2 c3 c4 cf hz0
  go_wp2_with fail
  go_ret
  exact ⟨by simp, O3.out, F3⟩

theorem heldSession_runs (u : Value) (n : Nat) (m : Int) (w : World) (h : Ints w u (runs m n)) (h0 : 0 ≤ m) (h1 : m + n ≤ 1000000000) :
    Calls Try.prog 11 #[.agg #[u, .slice none 0 0, .slice none 0 0, .int .i64 2, .int .i64 4], .int .i64 m] w fun e w' =>
      e = .returned (.int .i64 (m + n)) ∧ Below w.heap.size w w' := by
  have H := Lib.hid h
  obtain ⟨p, k, rfl, _, _⟩ := h
  rw [length_runs] at *
  go_enter Try.func11, Try.ntmps11
  go_wp2_with fail
  refine (heldIntS_runs _ n m _ (H.out.below (below_alloc _ _)) h0 (by omega)).mono ?_
  rintro e w1 ⟨rfl, hb⟩
  have Z1 := Lib.hid ((hb.block _ (by simp)).trans (heap_alloc_top _ _))
  have B1 : Below w.heap.size w w1 := (below_alloc _ _).trans (hb.mono (by simp))
  clear hb
  obtain ⟨c0, c1, c2, c3, c4, cf, hz0⟩ := blk5 Z1.out
  go_wp2_with fail
  refine (heldClassS_nil _ _ _ _).mono ?_
  rintro e w2 ⟨rfl, hb⟩
  have Z1 := Lib.hid (blk_later Z1.out hb)
  have B2 : Below w.heap.size w w2 := B1.trans (hb.mono B1.size)
  clear hb c0 c1 c2 c3 c4 cf hz0
  obtain ⟨c0, c1, c2, c3, c4, cf, hz0⟩ := blk5 Z1.out
  go_wp2_with fail
  refine (heldIntS_runs _ 0 _ _ (ints_nil _ _) (by omega) (by simp; omega)).mono ?_
  rintro e w3 ⟨rfl, hb⟩
  have B3 : Below w.heap.size w w3 := B2.trans (hb.mono B2.size)
  clear hb c0 c1 c2 c3 c4 cf hz0
  go_wp2_with fail
  go_ret
  exact ⟨by simp, B3⟩

end Go.Proofs.Ytebfnjffjedmgaa
