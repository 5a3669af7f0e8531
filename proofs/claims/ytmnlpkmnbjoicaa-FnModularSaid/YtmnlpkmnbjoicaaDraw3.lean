/-
  The draws: a space, two spaces.
-/
import Derived.Test.YtmnlpkmnbjoicaaDraw2
import Derived.Test.YtmnlpkmnbjoicaaModP
namespace Go.Proofs.Ytmnlpkmnbjoicaa
set_option linter.all false
open Go.RowKit

set_option maxRecDepth 100000 in
set_option maxHeartbeats 4000000 in
theorem dSpace_any (k : Nat) (P : Int) (n : Nat) (w : World) (h : Cur w k) (hp : primeOk P = true) (h1 : 1 ≤ n) (hn : n ≤ 7) :
    Calls Try.prog 30 #[.pointer (some ⟨k, 0, none⟩), .int .i64 P, .int .i64 (n : Int)] w fun e w' =>
      ∃ (r : Nat) (u : Value) (D : List Int), e = .returned (.agg #[.int .i64 P, .int .i64 (r : Int), .int .i64 (n : Int), u]) ∧ OwnI 3 w' w.heap.size w'.heap.size u D ∧ IsSp P r n D ∧ Cur w' k ∧ Frm k (k + 1) w w' := by
  obtain ⟨hP2, hP7⟩ := primeOk_range hp
  have Hp := Lib.hid hp
  have hk := h.lt
  have z0 := heap_alloc_top w (.cells #[.int .i64 0, .int .i64 0, .int .i64 0, .slice none 0 0] 26)
  have Hc := Lib.hid (h.below (below_alloc w (.cells #[.int .i64 0, .int .i64 0, .int .i64 0, .slice none 0 0] 26)))
  have HZ1 := Lib.hid z0
  have Hb1 := Lib.hid (below_alloc w (.cells #[.int .i64 0, .int .i64 0, .int .i64 0, .slice none 0 0] 26))
  have hs1 : (w.alloc (.cells #[.int .i64 0, .int .i64 0, .int .i64 0, .slice none 0 0] 26)).heap.size = w.heap.size + 1 := size_alloc _ _
  clear h z0 hp
  have hnn : (n : Int) + 1 = ((n + 1 : Nat) : Int) := by omega
  have Hnn := Lib.hid hnn
  clear hnn
  go_enter Try.func30, Try.ntmps30
  go_wp2_with fail
  generalize w.alloc (.cells #[.int .i64 0, .int .i64 0, .int .i64 0, .slice none 0 0] 26) = w1 at *
  rw [Hnn.out]
  refine (l1Below_any k (n + 1) _ Hc.out (by omega) (by omega)).mono ?_
  rintro e w2 ⟨r, rfl, hr, hc2, hf2⟩
  have HZ2 := Lib.hid ((hf2.block w.heap.size (by omega) (Or.inr (by omega))).trans HZ1.out)
  have Hf2 := Lib.hid ((Frm.of_below Hb1.out _ _).trans hf2)
  have hs2 := hf2.size
  clear hf2
  have Hc2 := Lib.hid hc2
  clear hc2
  go_wp2_with fail
  refine (dMatrix_any k P r n _ Hc2.out Hp.out (by omega) hn).mono ?_
  rintro e w3 ⟨u, D, rfl, ho3, hl3, hD3, hc3, hf3⟩
  have HZ3 := Lib.hid ((hf3.block w.heap.size (by omega) (Or.inr (by omega))).trans HZ2.out)
  have Hf3 := Lib.hid (Hf2.out.trans hf3)
  have hs3 := hf3.size
  have Hc3 := Lib.hid hc3
  have Ho3 := Lib.hid ho3
  have Hl3 := Lib.hid hl3
  have HD3 := Lib.hid (fun t => getD_range hD3 (by omega) t)
  clear hf3 hc3 ho3 hl3 hD3
  obtain ⟨p3, k3, rfl, _, _⟩ := Ho3.out.shape
  go_wp2_with fail
  refine (l7Span_any P r n _ D _ Ho3.out.ints Hl3.out HD3.out Hp.out (by omega) (by omega)).mono ?_
  rintro e w4 ⟨m, M, q, hred, hm, v, rfl, ho4, hb4⟩
  obtain ⟨L, hL⟩ : ∃ L, L = flatM m n M := ⟨_, rfl⟩
  rw [← hL] at ho4 ⊢
  have HL := Lib.hid hL
  have Ho4 := Lib.hid ho4
  have hs4 := hb4.size
  have HZ4 := Lib.hid (blk_later HZ3.out hb4)
  have Hc4 := Lib.hid (Hc3.out.below hb4)
  have Hf4 := Lib.hid (Hf3.out.trans (Frm.of_below hb4 _ _))
  have Hred := Lib.hid hred
  obtain ⟨p4, k4, rfl, _, _⟩ := ho4.shape
  clear hL ho4 hb4 hred
  obtain ⟨n0, n1, n2, n3, nf', nz⟩ := blk4 HZ4.out
  go_wp2_with fail
  obtain ⟨f0, f1, f2, f3, ff, fz⟩ := blk4 (set4_all HZ4.out (.int .i64 P) (.int .i64 m) (.int .i64 n) (.slice p4 L.length k4))
  refine bodyPost_ret (v := .agg #[.int .i64 P, .int .i64 m, .int .i64 n, .slice p4 L.length k4]) (by simp [results, Try.results30, go_sem, f0, f1, f2, f3, fz]) rfl ⟨m, _, L, rfl, ?_, ?_, ?_, ?_⟩
  · exact (own_set4 Ho4.out (.inl (by omega)) _ _ _ _).mono (by omega) (by simp only [size_setCell]; omega)
  · rw [HL.out]; exact Hred.out.isSp Hp.out h1 hn
  · exact Hc4.out.keepB (below_set4 (Below.refl w.heap.size w4) (Nat.le_refl _) _ _ _ _) hk
  · exact Hf4.out.thenB (below_set4 (Below.refl w.heap.size w4) (Nat.le_refl _) _ _ _ _) (Nat.le_refl _)

theorem set4_other {w : World} {b b' : Nat} {o : Obj} (h : w.heap[b]? = some o) (hne : b ≠ b') (x0 x1 x2 x3 : Value) : ((((w.setCell ⟨b', 0, none⟩ x0).setCell ⟨b', 1, none⟩ x1).setCell ⟨b', 2, none⟩ x2).setCell ⟨b', 3, none⟩ x3).heap[b]? = some o := by
  rw [heap_set4 hne]; exact h

set_option maxRecDepth 100000 in
set_option maxHeartbeats 4000000 in
theorem DrawTwoSpaces_any (v : Value) (l : Nat) (w : World) (h : Byts w v l) :
    Calls Try.prog 7 #[v] w fun e w' =>
      ∃ (P : Int) (c ra rb : Nat) (ua ub : Value) (DA DB : List Int), e = .returned (.tuple #[.agg #[.int .i64 P, .int .i64 (ra : Int), .int .i64 (c : Int), ua], .agg #[.int .i64 P, .int .i64 (rb : Int), .int .i64 (c : Int), ub]]) ∧
        OwnI 3 w' w.heap.size w'.heap.size ua DA ∧ OwnI 3 w' w.heap.size w'.heap.size ub DB ∧ IsSp P ra c DA ∧ IsSp P rb c DB ∧ Below w.heap.size w w' := by
  have Hc := Lib.hid (h.below (below_alloc2 w (.cells #[.int .i64 0, .int .i64 0, .int .i64 0, .slice none 0 0] 26) (.cells #[.int .i64 0, .int .i64 0, .int .i64 0, .slice none 0 0] 26)))
  obtain ⟨z0, z1⟩ := boxes_ab w (.cells #[.int .i64 0, .int .i64 0, .int .i64 0, .slice none 0 0] 26) (.cells #[.int .i64 0, .int .i64 0, .int .i64 0, .slice none 0 0] 26)
  have HA1 := Lib.hid z0
  have HB1 := Lib.hid z1
  have Hb1 := Lib.hid (below_alloc2 w (.cells #[.int .i64 0, .int .i64 0, .int .i64 0, .slice none 0 0] 26) (.cells #[.int .i64 0, .int .i64 0, .int .i64 0, .slice none 0 0] 26))
  have hs1 : ((w.alloc (.cells #[.int .i64 0, .int .i64 0, .int .i64 0, .slice none 0 0] 26)).alloc (.cells #[.int .i64 0, .int .i64 0, .int .i64 0, .slice none 0 0] 26)).heap.size = w.heap.size + 1 + 1 := by simp
  obtain ⟨_, _, cap, rfl, _⟩ := h
  clear z0 z1
  go_enter Try.func7, Try.ntmps7
  go_wp2_with fail
  generalize (w.alloc (.cells #[.int .i64 0, .int .i64 0, .int .i64 0, .slice none 0 0] 26)).alloc (.cells #[.int .i64 0, .int .i64 0, .int .i64 0, .slice none 0 0] 26) = w1 at *
  refine (l1New_any _ l _ Hc.out).mono ?_
  rintro e w2 ⟨rfl, hc2, hb2⟩
  rw [hs1] at hc2 ⊢
  have HA2 := Lib.hid (blk_later HA1.out hb2)
  have HB2 := Lib.hid (blk_later HB1.out hb2)
  have Hb2 := Lib.hid (Hb1.out.trans (hb2.mono (by omega)))
  have hs2 := hb2.size
  have hk2 := hc2.lt
  have Hc2 := Lib.hid hc2
  clear hc2 hb2 HA1 HB1 Hc
  go_wp2_with fail
  refine (dPrime_any (w.heap.size + 1 + 1) _ Hc2.out).mono ?_
  rintro e w3 ⟨P, rfl, hp, hc3, hf3⟩
  have Hp := Lib.hid hp
  have Hc3 := Lib.hid hc3
  have HA3 := Lib.hid ((hf3.block w.heap.size (by omega) (Or.inl (by omega))).trans HA2.out)
  have HB3 := Lib.hid ((hf3.block (w.heap.size + 1) (by omega) (Or.inl (by omega))).trans HB2.out)
  have Hb3 := Lib.hid (Hb2.out.trans (hf3.below (B := w.heap.size) (by omega) (by omega)))
  have hs3 := hf3.size
  clear hp hc3 hf3
  go_wp2_with fail
  refine (l1Below_any (w.heap.size + 1 + 1) 5 _ Hc3.out (by omega) (by omega)).mono ?_
  rintro e w4 ⟨m, rfl, hm, hc4, hf4⟩
  have Hc4 := Lib.hid hc4
  have HA4 := Lib.hid ((hf4.block w.heap.size (by omega) (Or.inl (by omega))).trans HA3.out)
  have HB4 := Lib.hid ((hf4.block (w.heap.size + 1) (by omega) (Or.inl (by omega))).trans HB3.out)
  have Hb4 := Lib.hid (Hb3.out.trans (hf4.below (B := w.heap.size) (by omega) (by omega)))
  have hs4 := hf4.size
  have hmm : 1 + (m : Int) = ((m + 1 : Nat) : Int) := by omega
  obtain ⟨n, hn⟩ : ∃ n, n = m + 1 := ⟨_, rfl⟩
  rw [← hn] at hmm
  have Hmm := Lib.hid hmm
  have hn1 : 1 ≤ n := by omega
  have hn5 : n ≤ 5 := by omega
  clear hn
  clear hc4 hf4 hmm
  go_wp2_with fail
  rw [Hmm.out]
  refine (dSpace_any (w.heap.size + 1 + 1) P n _ Hc4.out Hp.out (by omega) (by omega)).mono ?_
  rintro e w5 ⟨ra, ua, DA, rfl, hoA, hsA, hc5, hf5⟩
  have HsA := Lib.hid hsA
  have HoA := Lib.hid hoA
  have Hc5 := Lib.hid hc5
  have HA5 := Lib.hid ((hf5.block w.heap.size (by omega) (Or.inl (by omega))).trans HA4.out)
  have HB5 := Lib.hid ((hf5.block (w.heap.size + 1) (by omega) (Or.inl (by omega))).trans HB4.out)
  have Hb5 := Lib.hid (Hb4.out.trans (hf5.below (B := w.heap.size) (by omega) (by omega)))
  have hs5 := hf5.size
  obtain ⟨pa, ka, rfl, _, _⟩ := hoA.shape
  clear hsA hoA hc5 hf5
  go_wp2_with fail
  refine (dSpace_any (w.heap.size + 1 + 1) P n _ Hc5.out Hp.out (by omega) (by omega)).mono ?_
  rintro e w6 ⟨rb, ub, DB, rfl, hoB, hsB, hc6, hf6⟩
  have HsB := Lib.hid hsB
  have HoB := Lib.hid hoB
  have HoA6 := Lib.hid (HoA.out.frm hf6 (Or.inr (by omega)))
  have HA6 := Lib.hid ((hf6.block w.heap.size (by omega) (Or.inl (by omega))).trans HA5.out)
  have HB6 := Lib.hid ((hf6.block (w.heap.size + 1) (by omega) (Or.inl (by omega))).trans HB5.out)
  have Hb6 := Lib.hid (Hb5.out.trans (hf6.below (B := w.heap.size) (by omega) (by omega)))
  have hs6 := hf6.size
  obtain ⟨pb, kb, rfl, _, _⟩ := hoB.shape
  clear hsB hoB hc6 hf6
  obtain ⟨m0, m1, m2, m3, mf', mz⟩ := blk4 HA6.out
  obtain ⟨n0, n1, n2, n3, nf', nz⟩ := blk4 HB6.out
  have hy1 := set4_all HA6.out (.int .i64 P) (.int .i64 ra) (.int .i64 n) (.slice pa DA.length ka)
  have hy2 := set4_other HB6.out (show w.heap.size + 1 ≠ w.heap.size by omega) (.int .i64 P) (.int .i64 ra) (.int .i64 n) (.slice pa DA.length ka)
  have Hy1 := Lib.hid hy1
  have Hy2 := Lib.hid hy2
  clear hy1 hy2
  go_wp2_with fail
  obtain ⟨f0, f1, f2, f3, ff, fz⟩ := blk4 (set4_other Hy1.out (show w.heap.size ≠ w.heap.size + 1 by omega) (.int .i64 P) (.int .i64 rb) (.int .i64 n) (.slice pb DB.length kb))
  obtain ⟨g0, g1, g2, g3, gf, gz⟩ := blk4 (set4_all Hy2.out (.int .i64 P) (.int .i64 rb) (.int .i64 n) (.slice pb DB.length kb))
  refine bodyPost_ret (v := .tuple #[.agg #[.int .i64 P, .int .i64 ra, .int .i64 n, .slice pa DA.length ka], .agg #[.int .i64 P, .int .i64 rb, .int .i64 n, .slice pb DB.length kb]]) (by simp [results, Try.results7, go_sem, f0, f1, f2, f3, fz, g0, g1, g2, g3, gz]) rfl ⟨P, n, ra, rb, _, _, DA, DB, rfl, ?_, ?_, HsA.out, HsB.out, ?_⟩
  · exact (own_set4 (own_set4 HoA6.out (.inl (by omega)) _ _ _ _) (.inl (by omega)) _ _ _ _).mono (by omega) (by simp only [size_setCell]; omega)
  · exact (own_set4 (own_set4 HoB.out (.inl (by omega)) _ _ _ _) (.inl (by omega)) _ _ _ _).mono (by omega) (by simp only [size_setCell]; omega)
  · exact below_set4 (below_set4 Hb6.out (Nat.le_refl _) _ _ _ _) (by omega) _ _ _ _

end Go.Proofs.Ytmnlpkmnbjoicaa
