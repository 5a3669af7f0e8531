/-
  The draws: a cursor, a prime, a matrix.
-/
import Derived.Test.YtmnlpkmnbjoicaaDraw
import Derived.Test.YtmnlpkmnbjoicaaStep
import Derived.Test.YtmnlpkmnbjoicaaCorner
import Derived.Deep.RegionLaw
namespace Go.Proofs.Ytmnlpkmnbjoicaa
set_option linter.all false
open Go.RowKit

theorem cur_new {w : World} {p : Option Addr} {n cap : Nat} (x : Int) (h : Byts w (.slice p n cap) n) : Cur (w.alloc (.cells #[.slice p n cap, .int .i64 0, .int .i64 x] 63)) w.heap.size := by
  have h' := h
  obtain ⟨f, p', cap', e, _, hx⟩ := h'
  injection e with e1 _ e3
  subst e1 e3
  refine ⟨p, n, cap, 0, x, heap_alloc_top _ _, Nat.zero_le _, h.below (below_alloc _ _), fun h0 a ha => ?_⟩
  obtain ⟨b, off, e, hc⟩ := hx h0
  rw [e] at ha
  injection ha with ha
  subst ha
  have := World.block_lt_of_cell? _ _ (hc 0 h0)
  dsimp only at this ⊢
  omega

set_option maxRecDepth 100000 in
set_option maxHeartbeats 2000000 in
theorem l1New_any (v : Value) (n : Nat) (w : World) (h : Byts w v n) :
    Calls Try.prog 27 #[v] w fun e w' => e = .returned (.pointer (some ⟨w.heap.size, 0, none⟩)) ∧ Cur w' w.heap.size ∧ Below w.heap.size w w' := by
  have Hh := Lib.hid h
  obtain ⟨f, p, cap, rfl, ⟨hx1, hx2⟩, hxc⟩ := h
  unfold maxLen at hx2
  have Hxc := Lib.hid hxc
  clear hxc
  go_enter Try.func27, Try.ntmps27
  go_wp2_with fail
  go_loopg [3, 4] n (fun g s3 s4 wr => ∃ (k : Nat) (x : Int), k ≤ n ∧ g = n - k ∧ s3 = .int .i64 x ∧ s4 = .int .i64 k ∧ wr = w)
  case atStart => exact ⟨0, _, Nat.zero_le _, rfl, rfl, rfl, rfl⟩
  case round =>
    obtain ⟨k, x, hk, rfl, rfl, rfl, rfl⟩ := hrel
    by_cases hlt : k < n
    · by_cases h4 : k < 4000
      · obtain ⟨b, off, rfl, hc⟩ := Hxc.out (by omega)
        have c1 := hc k hlt
        have i1 : (k : Int) < (n : Int) := by omega
        have i2 : (k : Int) < 4000 := by omega
        clear hc
        go_wp2_with fail
        go_roundg (n - (k + 1))
        case measure => omega
        case rel => exact ⟨k + 1, _, by omega, rfl, rfl, by go_num, rfl⟩
      · have i1 : (k : Int) < (n : Int) := by omega
        have i2 : ¬ (k : Int) < 4000 := by omega
        go_wp2_with fail
        go_ret
        exact ⟨rfl, cur_new x Hh.out, below_alloc _ _⟩
    · have i1 : ¬ (k : Int) < (n : Int) := by omega
      go_wp2_with fail
      go_ret
      exact ⟨rfl, cur_new x Hh.out, below_alloc _ _⟩

set_option maxRecDepth 100000 in
set_option maxHeartbeats 2000000 in
theorem dPrime_any (k : Nat) (w : World) (h : Cur w k) :
    Calls Try.prog 28 #[.pointer (some ⟨k, 0, none⟩)] w fun e w' => ∃ P : Int, e = .returned (.int .i64 P) ∧ primeOk P = true ∧ Cur w' k ∧ Frm k (k + 1) w w' := by
  have Hc := Lib.hid h
  clear h
  go_enter Try.func28, Try.ntmps28
  go_wp2_with fail
  have hc1 := Hc.out.below (below_alloc w (.cells #[.int .i64 2, .int .i64 3, .int .i64 2, .int .i64 5, .int .i64 7] 3))
  have hk := Hc.out.lt
  refine (l1PickInt_any k _ [2, 3, 2, 5, 7] _ hc1 ⟨_, 5, rfl, ⟨Nat.le_refl _, by unfold maxLen; omega⟩, fun _ => ⟨w.heap.size, 0, rfl, fun j hj => ?_⟩⟩ (fun p n c e a ha => ?_) (by decide) (by decide)).mono ?_
  · have h5 := heap_alloc_top w (.cells #[.int .i64 2, .int .i64 3, .int .i64 2, .int .i64 5, .int .i64 7] 3)
    rw [Nat.zero_add]
    simp only [List.length_cons, List.length_nil] at hj
    obtain rfl | rfl | rfl | rfl | rfl : j = 0 ∨ j = 1 ∨ j = 2 ∨ j = 3 ∨ j = 4 := by omega
    all_goals exact cell_of_blk h5 rfl
  · injection e with e1 _ _
    rw [← e1] at ha
    injection ha with ha
    subst ha
    dsimp only
    omega
  · rintro e w1 ⟨x, hx, rfl, hc2, hf⟩
    have Hx := Lib.hid hx
    have Hc2 := Lib.hid hc2
    have Hf := Lib.hid hf
    clear hx hc2 hf hc1
    go_wp2_with fail
    go_ret
    refine ⟨x, rfl, ?_, Hc2.out, (Frm.of_below (below_alloc w _) _ _).trans Hf.out⟩
    have := Hx.out
    simp only [List.mem_cons, List.not_mem_nil, or_false] at this
    obtain rfl | rfl | rfl | rfl | rfl := this <;> decide

set_option maxRecDepth 100000 in
set_option maxHeartbeats 4000000 in
/-- a matrix of any numbers -/
theorem dMatrix_any (k : Nat) (P : Int) (r c : Nat) (w : World) (h : Cur w k) (hp : primeOk P = true) (hr : r ≤ 7) (hc : c ≤ 7) :
    Calls Try.prog 50 #[.pointer (some ⟨k, 0, none⟩), .int .i64 P, .int .i64 (r : Int), .int .i64 (c : Int)] w fun e w' =>
      ∃ (u : Value) (D : List Int), e = .returned (.agg #[.int .i64 P, .int .i64 (r : Int), .int .i64 (c : Int), u]) ∧ OwnI 3 w' w.heap.size w'.heap.size u D ∧ D.length = r * c ∧ (∀ x ∈ D, 0 ≤ x ∧ x < P) ∧ Cur w' k ∧ Frm k (k + 1) w w' := by
  obtain ⟨hP2, hP7⟩ := primeOk_range hp
  obtain ⟨p, rfl⟩ := Int.eq_ofNat_of_zero_le (show 0 ≤ P by omega)
  have Hc := Lib.hid h
  have hk := h.lt
  obtain ⟨N, hN, hw1, hw2⟩ := mul_named r c (by have := Nat.mul_le_mul hr hc; omega)
  have hNb : N ≤ 49 := by have := Nat.mul_le_mul hr hc; omega
  rw [← hN]
  have HN := Lib.hid hN
  have Hw1 := Lib.hid hw1
  have Hw2 := Lib.hid hw2
  clear h hN hp hw1 hw2
  have hw1 := Hw1.out
  go_enter Try.func50, Try.ntmps50
  go_wp2_with fail
  go_loopg [10] N (fun g s10 wr => ∃ (i : Nat) (D : List Int) (v : Value), i ≤ N ∧ g = N - i ∧ s10 = .int .i64 i ∧ D.length = i ∧ Hid (∀ x ∈ D, 0 ≤ x ∧ x < (p : Int)) ∧
    Hid (wr.heap[w.heap.size]? = some (.cells #[.int .i64 0, .int .i64 0, .int .i64 0, .slice none 0 0] 26)) ∧
    Hid (wr.heap[w.heap.size + 1 + 1]? = some (.cells #[.int .i64 p, .int .i64 r, .int .i64 c, v] 26)) ∧ Hid (OwnI 3 wr (w.heap.size + 1) wr.heap.size v D) ∧ Hid (Cur wr k) ∧ Hid (Frm k (k + 1) w wr))
  case atStart =>
    obtain ⟨z0, z1, z2⟩ := boxes_abz w (.cells #[.int .i64 0, .int .i64 0, .int .i64 0, .slice none 0 0] 26) (.cells #[] 3) (.cells #[.int .i64 p, .int .i64 r, .int .i64 c, .slice (some ⟨w.heap.size + 1, 0, none⟩) 0 0] 26)
    have hm0 := OwnF.made0 (w.alloc (.cells #[.int .i64 0, .int .i64 0, .int .i64 0, .slice none 0 0] 26)) 3 (iv [])
    rw [size_alloc] at hm0
    have hb3 := below_alloc3 w (.cells #[.int .i64 0, .int .i64 0, .int .i64 0, .slice none 0 0] 26) (.cells #[] 3) (.cells #[.int .i64 p, .int .i64 r, .int .i64 c, .slice (some ⟨w.heap.size + 1, 0, none⟩) 0 0] 26)
    refine ⟨0, [], _, Nat.zero_le _, rfl, rfl, rfl, fun x hx => absurd hx (List.not_mem_nil), z0, z2, ?_, Hc.out.below hb3, Frm.of_below hb3 _ _⟩
    refine OwnF.ints ?_
    refine OwnF.mono (OwnF.below hm0 (below_alloc _ _)) (Nat.le_refl _) (by simp)
  case round =>
    obtain ⟨i, D, v, hi, rfl, rfl, hDl, hD, hZ, hq, ho, hcu, hf⟩ := hrel
    by_cases hlt : i < N
    · have hlt2 : (i : Int) < (N : Int) := by omega
      obtain ⟨pv, kv, rfl, _, _⟩ := ho.out.shape
      have hofn := ho.out.fn
      rw [hDl] at hq hofn
      have Hq := Lib.hid hq.out
      have Ho := Lib.hid hofn
      have HD := Lib.hid hD.out
      have HDl := Lib.hid hDl
      have Hcu := Lib.hid hcu.out
      have Hf := Lib.hid hf.out
      have HZ := Lib.hid hZ.out
      have hkr := Hcu.out.lt
      obtain ⟨m0, m1, m2, m3, mf', mz⟩ := blk4 Hq.out
      have hne := own_box hofn Hq.out (by decide)
      have Hb1 := Lib.hid (show i + 1 ≤ maxLen by unfold maxLen; omega)
      have Hb2 := Lib.hid (show (i + 1) * 8 ≤ 140737488355328 by omega)
      clear hq ho hD hcu hf hZ hofn hDl
      go_wp2_with fail
      go_region_law (first
        | (refine step_append_F rfl (.tmp 24) (.tmp 28) 24 rfl 3 (.int .i64 0) 8 Try.underlying24 info_int rfl (w.heap.size + 1) wr.heap.size _ i (iv D) rfl (Ho1.out.below (below_alloc w1 _)) (by rw [size_alloc]; omega) (by rw [size_alloc]; omega) _ 1 _ rfl (rd_one _ _ _ rfl) (fun j _ => rfl) Hb1.out Hb2.out ?_; intro v2 w2 ho2 hg2; obtain ⟨p2, k2, rfl, _, _⟩ := ho2.shape; have hq2 := (hg2.block (w.heap.size + 1 + 1) (by rw [size_alloc]; omega) (fun e => hne e.symm)).trans ((heap_alloc_low w1 _ (by omega)).trans Hq1.out); have hZ2 := (hg2.block w.heap.size (by rw [size_alloc]; omega) (fun e => by have := Ho.out.blocks _ e.symm; omega)).trans ((heap_alloc_low w1 _ (by omega)).trans HZ1.out); obtain ⟨d0, d1, d2, d3, df, dz⟩ := blk4 hq2; have Hq2 := Lib.hid hq2; have HZ2 := Lib.hid hZ2; have Ho2 := Lib.hid ho2; have Hg2 := Lib.hid hg2; clear hq2 hZ2 ho2 hg2)
        | (refine (if_pos ?_).mpr ?_; rfl; go_simp; refine (l1Below_any k p _ (Hcu.out.below (Below.of_drewN _ _)) (by omega) (by omega)).mono ?_; rintro e w1 ⟨x, rfl, hx, hc1, hf1⟩; have hs1 : wr.heap.size ≤ w1.heap.size := hf1.size; have Hq1 := Lib.hid ((hf1.block (w.heap.size + 1 + 1) (by show _ < wr.heap.size; omega) (Or.inr (by omega))).trans Hq.out); have HZ1 := Lib.hid ((hf1.block w.heap.size (by show _ < wr.heap.size; omega) (Or.inr (by omega))).trans HZ.out); obtain ⟨g0, g1, g2, g3, gf, gz⟩ := blk4 Hq1.out; have Ho1 := Lib.hid ((Ho.out.below (Below.of_drewN _ _)).frm hf1 (Or.inr (by omega))); have Hc1 := Lib.hid hc1; have Hf1 := Lib.hid hf1; clear hc1 hf1; dsimp only))
      all_goals go_wp2_with fail
      all_goals go_roundg (N - (i + 1))
      all_goals try omega
      all_goals
        have hbx : Below (w.heap.size + 1) w1 (w2.setCell ⟨w.heap.size + 1 + 1, 3, none⟩ (.slice p2 (i + 1) k2)) := (((below_alloc w1 _).mono (by omega)).trans (grownBy_below Hg2.out Ho1.out.blocks (Nat.le_refl _) (by rw [size_alloc]; omega))).setCell (by show w.heap.size + 1 ≤ w.heap.size + 1 + 1; omega) _
        refine ⟨i + 1, D ++ [(x : Int)], _, by omega, rfl, by go_num, by rw [List.length_append, HDl.out]; rfl, fun y hy => ?_, ?_, heap_setCell_at Hq2.out 3 _, ?_, Hc1.out.keepB hbx (by omega), ?_⟩
        · rcases List.mem_append.1 hy with h | h
          · exact HD.out y h
          · rw [List.mem_singleton.1 h]; omega
        · exact (Below.heap_setCell _ _ _ _ (show w.heap.size ≠ w.heap.size + 1 + 1 by omega)).trans HZ2.out
        · have hoi : OwnI 3 w2 (w.heap.size + 1) w2.heap.size (.slice p2 (i + 1) k2) (D ++ [(x : Int)]) := OwnI.snoc1 (by rw [HDl.out]; exact Ho2.out)
          exact (hoi.setOther (own_box Ho2.out Hq2.out (by decide)) _).mono (Nat.le_refl _) (by rw [size_setCell]; exact Nat.le_refl _)
        · exact (((Hf.out.drewN _).trans Hf1.out)).thenB hbx (by omega)
    · obtain rfl : i = N := by omega
      have hlt2 : ¬ (i : Int) < (i : Int) := by omega
      obtain ⟨pv, kv, rfl, _, _⟩ := ho.out.shape
      rw [hDl] at hq ho
      have Hq := Lib.hid hq.out
      have Ho := Lib.hid ho.out
      have HD := Lib.hid hD.out
      have HDl := Lib.hid hDl
      have Hcu := Lib.hid hcu.out
      have Hf := Lib.hid hf.out
      have HZ := Lib.hid hZ.out
      obtain ⟨m0, m1, m2, m3, mf', mz⟩ := blk4 Hq.out
      obtain ⟨n0, n1, n2, n3, nf', nz⟩ := blk4 HZ.out
      clear hq ho hD hcu hf hZ hDl
      go_wp2_with fail
      obtain ⟨f0, f1, f2, f3, ff, fz⟩ := blk4 (set4_all HZ.out (.int .i64 p) (.int .i64 r) (.int .i64 c) (.slice pv i kv))
      refine bodyPost_ret (v := .agg #[.int .i64 p, .int .i64 r, .int .i64 c, .slice pv i kv]) (by simp [results, Try.results50, go_sem, f0, f1, f2, f3, fz]) rfl ⟨_, rfl, D, ?_, by rw [HDl.out, HN.out], HD.out, ?_, ?_⟩
      · exact (own_set4 Ho.out (.inl (by omega)) _ _ _ _).mono (by omega) (by simp only [size_setCell]; omega)
      · exact Hcu.out.keepB (below_set4 (Below.refl w.heap.size wr) (Nat.le_refl _) _ _ _ _) hk
      · exact Hf.out.thenB (below_set4 (Below.refl w.heap.size wr) (Nat.le_refl _) _ _ _ _) (Nat.le_refl _)

end Go.Proofs.Ytmnlpkmnbjoicaa
