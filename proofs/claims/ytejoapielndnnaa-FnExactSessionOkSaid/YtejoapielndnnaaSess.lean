/-
  SessionOk on both sides; sessions copied, measured, compared.
-/
import Derived.Test.YtejoapielndnnaaClsI
import Derived.Test.YtejoapielndnnaaClsS
import Derived.Test.YtejoapielndnnaaBox
namespace Go.Proofs.Ytejoapielndnnaa
set_option linter.all false
open Go.RowKit

theorem blk5s {w : World} {b : Nat} {x0 x1 x2 x3 x4 : Value} {T : TypeId} (h : w.heap[b]? = some (.cells #[x0, x1, x2, x3, x4] T (0, 0))) :
    w.cell? ⟨b, 0, none⟩ = some x0 ∧ w.cell? ⟨b, 1, none⟩ = some x1 ∧ w.cell? ⟨b, 2, none⟩ = some x2 ∧ w.cell? ⟨b, 3, none⟩ = some x3 ∧ w.cell? ⟨b, 4, none⟩ = some x4 ∧ (∀ j, w.frozen? ⟨b, j, none⟩ = false) ∧ b < w.heap.size :=
  ⟨cell_of_blk h rfl, cell_of_blk h rfl, cell_of_blk h rfl, cell_of_blk h rfl, cell_of_blk h rfl, free_of_blk h, blk_lt h⟩

/-- a shape in a box, whatever the box -/
def boxOk (xs : List Int) (K N : Int) : Bool := decide (1 ≤ N ∧ N ≤ 7 ∧ 0 ≤ K ∧ K ≤ N) && bxOk xs K.toNat N.toNat
theorem boxOk_no {xs : List Int} {K N : Int} (h : ¬ (1 ≤ N ∧ N ≤ 7 ∧ 0 ≤ K ∧ K ≤ N)) : boxOk xs K N = false := by unfold boxOk; rw [decide_eq_false h]; rfl
set_option maxHeartbeats 400000 in
theorem isSize_b (n : Int) (w : World) : Calls Try.prog 70 #[.int .i64 n] w fun e w' => e = .returned (.bool (decide (1 ≤ n ∧ n ≤ 7))) ∧ w = w' := by
  go_enter Try.func70, Try.ntmps70
  by_cases h1 : 1 ≤ n
  · by_cases h2 : n ≤ 7
    · go_wp2
      go_ret
      exact ⟨ret_bool (by simp [h1, h2]), rfl⟩
    · go_wp2
      go_ret
      exact ⟨ret_bool (by simp [h1, h2]), rfl⟩
  · go_wp2
    go_ret
    exact ⟨ret_bool (by simp; omega), rfl⟩
set_option maxHeartbeats 1000000 in
theorem isBox_no (K N : Int) (w : World) (h : ¬ (1 ≤ N ∧ N ≤ 7 ∧ 0 ≤ K ∧ K ≤ N)) :
    Calls Try.prog 82 #[.int .i64 K, .int .i64 N] w fun e w' => e = .returned (.bool false) ∧ w = w' := by
  go_enter Try.func82, Try.ntmps82
  go_wp2_with fail
  refine (isSize_b N w).mono ?_
  rintro e w1 ⟨rfl, rfl⟩
  by_cases h1 : 1 ≤ N ∧ N ≤ 7
  · rw [decide_eq_true h1]
    by_cases h2 : 0 ≤ K
    · have h3 : ¬ K ≤ N := by omega
      have H3 := Lib.hid h3
      clear h h1
      go_wp2_with fail
      go_ret
      exact ⟨ret_bool (decide_eq_false (by have := H3.out; omega)), rfl⟩
    · clear h h1
      go_wp2_with fail
      go_ret
      exact ⟨rfl, rfl⟩
  · rw [decide_eq_false h1]
    clear h h1
    go_wp2_with fail
    go_ret
    exact ⟨rfl, rfl⟩
set_option maxRecDepth 100000 in
set_option maxHeartbeats 1000000 in
theorem inBox_any (v : Value) (xs : List Int) (K N : Int) (w : World) (h : Ints w v xs) :
    Calls Try.prog 57 #[v, .int .i64 K, .int .i64 N] w fun e w' => e = .returned (.bool (boxOk xs K N)) ∧ Qt w w' := by
  by_cases hb : 1 ≤ N ∧ N ≤ 7 ∧ 0 ≤ K ∧ K ≤ N
  · obtain ⟨h1, h2, h3, h4⟩ := hb
    obtain ⟨k, rfl⟩ := Int.eq_ofNat_of_zero_le h3
    obtain ⟨n, rfl⟩ := Int.eq_ofNat_of_zero_le (show 0 ≤ N by omega)
    unfold boxOk
    rw [decide_eq_true ⟨h1, h2, h3, h4⟩, Bool.true_and, Int.toNat_natCast, Int.toNat_natCast]
    exact IsInBox_any v xs k n w h (by omega) (by omega) (by omega)
  · rw [boxOk_no hb]
    have Hb := Lib.hid hb
    clear hb h
    go_enter Try.func57, Try.ntmps57
    go_wp2_with fail
    refine (isBox_no K N w Hb.out).mono ?_
    rintro e w1 ⟨rfl, rfl⟩
    go_wp2_with fail
    go_ret
    exact ⟨rfl, Qt.refl _⟩
set_option maxRecDepth 100000 in
set_option maxHeartbeats 1000000 in
theorem l4Box_gen (v : Value) (xs : List Int) (K N : Int) (w : World) (h : Ints w v xs) :
    Calls Try.prog 54 #[v, .int .i64 K, .int .i64 N] w fun e w' => e = .returned (.bool (boxOk xs K N)) ∧ Qt w w' := by
  by_cases hb : 1 ≤ N ∧ N ≤ 7 ∧ 0 ≤ K ∧ K ≤ N
  · obtain ⟨h1, h2, h3, h4⟩ := hb
    obtain ⟨k, rfl⟩ := Int.eq_ofNat_of_zero_le h3
    obtain ⟨n, rfl⟩ := Int.eq_ofNat_of_zero_le (show 0 ≤ N by omega)
    unfold boxOk
    rw [decide_eq_true ⟨h1, h2, h3, h4⟩, Bool.true_and, Int.toNat_natCast, Int.toNat_natCast]
    exact l4Box_any v xs k n w h (by omega) (by omega) (by omega)
  · rw [boxOk_no hb]
    by_cases h1 : 1 ≤ N ∧ N ≤ 7
    · have H1 := Lib.hid (show decide ((1 : Int) ≤ N ∧ N ≤ 7) = true from decide_eq_true h1)
      have H2 := Lib.hid (show decide ((0 : Int) ≤ K ∧ K ≤ N) = false from decide_eq_false (by omega))
      clear hb h h1
      go_enter Try.func54, Try.ntmps54
      go_wp2_with fail
      refine (l1In_b N 1 7 w _ H1.out).mono ?_
      rintro e w1 ⟨rfl, rfl⟩
      go_wp2_with fail
      refine (l1In_b K 0 N w _ H2.out).mono ?_
      rintro e w1 ⟨rfl, rfl⟩
      go_wp2_with fail
      go_ret
      exact ⟨rfl, Qt.refl _⟩
    · have H1 := Lib.hid (show decide ((1 : Int) ≤ N ∧ N ≤ 7) = false from decide_eq_false h1)
      clear hb h h1
      go_enter Try.func54, Try.ntmps54
      go_wp2_with fail
      refine (l1In_b N 1 7 w _ H1.out).mono ?_
      rintro e w1 ⟨rfl, rfl⟩
      go_wp2_with fail
      go_ret
      exact ⟨rfl, Qt.refl _⟩

/-- a session is as it should be -/
def sessOk (xs : List Int) (cs : List Cls) (ys : List Int) (K N : Int) : Bool := permOk xs && clsOk cs && boxOk ys K N

set_option maxRecDepth 100000 in
set_option maxHeartbeats 2000000 in
theorem implSessionOk_any (dp dc ds : Value) (xs ys : List Int) (cs : List Cls) (K N : Int) (w : World) (h1 : Ints w dp xs) (h2 : RdCl w dc cs) (h3 : Ints w ds ys) :
    Calls Try.prog 25 #[.agg #[dp, dc, ds, .int .i64 K, .int .i64 N]] w fun e w' => e = .returned (.bool (sessOk xs cs ys K N)) ∧ Below w.heap.size w w' := by
  obtain ⟨b1, hb1⟩ : ∃ b, b = permOk xs := ⟨_, rfl⟩
  obtain ⟨b2, hb2⟩ : ∃ b, b = clsOk cs := ⟨_, rfl⟩
  obtain ⟨b3, hb3⟩ : ∃ b, b = boxOk ys K N := ⟨_, rfl⟩
  have He := Lib.hid (show sessOk xs cs ys K N = (b1 && b2 && b3) by unfold sessOk; rw [← hb1, ← hb2, ← hb3])
  rw [He.out]
  have C1 := Lib.hid (fun w h => implIsPerm_b dp xs b1 hb1.symm w h)
  have C2 := Lib.hid (fun w h => hb2 ▸ implClassesOk_any dc cs w h)
  have C3 := Lib.hid (fun w h => hb3 ▸ inBox_any ds ys K N w h)
  have hba := below_alloc w (.cells #[dp, dc, ds, .int .i64 K, .int .i64 N] 47)
  have Z := Lib.hid (heap_alloc_top w (.cells #[dp, dc, ds, .int .i64 K, .int .i64 N] 47))
  have H1 := Lib.hid (h1.below hba)
  have H2 := Lib.hid (h2.below hba)
  have H3 := Lib.hid (h3.below hba)
  have Hba := Lib.hid hba
  clear hb1 hb2 hb3 He h1 h2 h3 hba
  go_enter Try.func25, Try.ntmps25
  go_wp2_with fail
  generalize w.alloc (.cells #[dp, dc, ds, .int .i64 K, .int .i64 N] 47) = w0 at *
  obtain ⟨c0, c1, c2, c3, c4, cf, cz⟩ := blk5s Z.out
  go_wp2_with fail
  refine (C1.out _ H1.out).mono ?_
  rintro e w1 ⟨rfl, hb⟩
  have Z1 := Lib.hid (blk_later Z.out hb)
  have H2' := Lib.hid (H2.out.below hb)
  have H3' := Lib.hid (H3.out.below hb)
  have B1 := Lib.hid (Hba.out.trans (hb.mono Hba.out.size))
  clear hb c0 c1 c2 c3 c4 cf
  obtain ⟨c0, c1, c2, c3, c4, cf, _⟩ := blk5s Z1.out
  cases b1 with
  | false =>
    go_wp2_with fail
    go_ret
    exact ⟨rfl, B1.out⟩
  | true =>
    go_wp2_with fail
    refine (C2.out _ H2'.out).mono ?_
    rintro e w2 ⟨rfl, hb⟩
    have Z2 := Lib.hid (blk_later Z1.out hb)
    have H3'' := Lib.hid (H3'.out.below hb)
    have B2 := Lib.hid (B1.out.trans (hb.mono B1.out.size))
    clear hb c0 c1 c2 c3 c4 cf
    obtain ⟨c0, c1, c2, c3, c4, cf, _⟩ := blk5s Z2.out
    cases b2 with
    | false =>
      go_wp2_with fail
      go_ret
      exact ⟨rfl, B2.out⟩
    | true =>
      go_wp2_with fail
      refine (C3.out _ H3''.out).mono ?_
      rintro e w3 ⟨rfl, hq⟩
      have hb := Qt.belowS hq
      go_wp2_with fail
      go_ret
      exact ⟨rfl, B2.out.trans (hb.mono B2.out.size)⟩

set_option maxRecDepth 100000 in
set_option maxHeartbeats 2000000 in
theorem specSessionOk_any (dp dc ds : Value) (xs ys : List Int) (cs : List Cls) (K N : Int) (w : World) (h1 : Ints w dp xs) (h2 : RdCl w dc cs) (h3 : Ints w ds ys) :
    Calls Try.prog 23 #[.agg #[dp, dc, ds, .int .i64 K, .int .i64 N]] w fun e w' => e = .returned (.bool (sessOk xs cs ys K N)) ∧ Below w.heap.size w w' := by
  obtain ⟨b1, hb1⟩ : ∃ b, b = permOk xs := ⟨_, rfl⟩
  obtain ⟨b2, hb2⟩ : ∃ b, b = clsOk cs := ⟨_, rfl⟩
  obtain ⟨b3, hb3⟩ : ∃ b, b = boxOk ys K N := ⟨_, rfl⟩
  have He := Lib.hid (show sessOk xs cs ys K N = (b1 && b2 && b3) by unfold sessOk; rw [← hb1, ← hb2, ← hb3])
  rw [He.out]
  have C1 := Lib.hid (fun w h => specIsPerm_b dp xs b1 hb1.symm w h)
  have C2 := Lib.hid (fun w h => hb2 ▸ specClassesOk_any dc cs w h)
  have C3 := Lib.hid (fun w h => hb3 ▸ l4Box_gen ds ys K N w h)
  have hba := below_alloc w (.cells #[dp, dc, ds, .int .i64 K, .int .i64 N] 47)
  have Z := Lib.hid (heap_alloc_top w (.cells #[dp, dc, ds, .int .i64 K, .int .i64 N] 47))
  have H1 := Lib.hid (h1.below hba)
  have H2 := Lib.hid (h2.below hba)
  have H3 := Lib.hid (h3.below hba)
  have Hba := Lib.hid hba
  clear hb1 hb2 hb3 He h1 h2 h3 hba
  go_enter Try.func23, Try.ntmps23
  go_wp2_with fail
  generalize w.alloc (.cells #[dp, dc, ds, .int .i64 K, .int .i64 N] 47) = w0 at *
  obtain ⟨c0, c1, c2, c3, c4, cf, cz⟩ := blk5s Z.out
  go_wp2_with fail
  refine (C1.out _ H1.out).mono ?_
  rintro e w1 ⟨rfl, hq⟩
  have hb := Qt.belowS hq
  clear hq
  have Z1 := Lib.hid (blk_later Z.out hb)
  have H2' := Lib.hid (H2.out.below hb)
  have H3' := Lib.hid (H3.out.below hb)
  have B1 := Lib.hid (Hba.out.trans (hb.mono Hba.out.size))
  clear hb c0 c1 c2 c3 c4 cf
  obtain ⟨c0, c1, c2, c3, c4, cf, _⟩ := blk5s Z1.out
  cases b1 with
  | false =>
    go_wp2_with fail
    go_ret
    exact ⟨rfl, B1.out⟩
  | true =>
    go_wp2_with fail
    refine (C2.out _ H2'.out).mono ?_
    rintro e w2 ⟨rfl, hb⟩
    have Z2 := Lib.hid (blk_later Z1.out hb)
    have H3'' := Lib.hid (H3'.out.below hb)
    have B2 := Lib.hid (B1.out.trans (hb.mono B1.out.size))
    clear hb c0 c1 c2 c3 c4 cf
    obtain ⟨c0, c1, c2, c3, c4, cf, _⟩ := blk5s Z2.out
    cases b2 with
    | false =>
      go_wp2_with fail
      go_ret
      exact ⟨rfl, B2.out⟩
    | true =>
      go_wp2_with fail
      refine (C3.out _ H3''.out).mono ?_
      rintro e w3 ⟨rfl, hq⟩
      have hb := Qt.belowS hq
      go_wp2_with fail
      go_ret
      exact ⟨rfl, B2.out.trans (hb.mono B2.out.size)⟩

set_option maxRecDepth 100000 in
set_option maxHeartbeats 2000000 in
theorem szSession_any (dp dc ds : Value) (xs ys : List Int) (cs : List Cls) (K N left : Int) (w : World) (h1 : Ints w dp xs) (h2 : RdClA w dc cs) (h3 : Ints w ds ys) (h0 : 0 ≤ left) (hl : left ≤ 1048576) :
    Calls Try.prog 22 #[.agg #[dp, dc, ds, .int .i64 K, .int .i64 N], .int .i64 left] w fun e w' => ∃ r : Int, e = .returned (.int .i64 r) ∧ (r = -1 ∨ (0 ≤ r ∧ xs.length ≤ 1048576 ∧ ClsFit cs ∧ ys.length ≤ 1048576)) ∧ Below w.heap.size w w' := by
  obtain ⟨px, kx, rfl, ⟨_, mx⟩, _⟩ := h1
  obtain ⟨py, ky, rfl, ⟨_, my⟩, _⟩ := h3
  unfold maxLen at mx my
  have hba := below_alloc w (.cells #[.slice px xs.length kx, dc, .slice py ys.length ky, .int .i64 K, .int .i64 N] 42)
  have Z := Lib.hid (heap_alloc_top w (.cells #[.slice px xs.length kx, dc, .slice py ys.length ky, .int .i64 K, .int .i64 N] 42))
  have H2 := Lib.hid (h2.below hba)
  have Hba := Lib.hid hba
  have hz := szI_cases left xs.length h0
  have C1 := Lib.hid (fun w => szIntS_any px xs.length kx left w (by omega) h0 hl)
  obtain ⟨A, hA⟩ : ∃ A, A = szI left xs.length := ⟨_, rfl⟩
  rw [← hA] at hz C1
  clear hA hba h2
  go_enter Try.func22, Try.ntmps22
  go_wp2_with fail
  generalize w.alloc (.cells #[.slice px xs.length kx, dc, .slice py ys.length ky, .int .i64 K, .int .i64 N] 42) = w0 at *
  obtain ⟨c0, c1, c2, c3, c4, cf, cz⟩ := blk5s Z.out
  go_wp2_with fail
  refine (C1.out _).mono ?_
  rintro e w' ⟨rfl, rfl⟩
  rcases hz with hz | ⟨hz1, hz2, hz3⟩
  · subst hz
    go_wp2_with fail
    go_ret
    exact ⟨-1, rfl, Or.inl rfl, Hba.out⟩
  · have hz4 : ¬ A < 0 := by omega
    go_wp2_with fail
    refine (szClassS_any _ cs A _ H2.out hz1 (by omega)).mono ?_
    rintro e w1 ⟨r, rfl, hr, hb⟩
    have Z1 := Lib.hid (blk_later Z.out hb)
    have B1 := Lib.hid (Hba.out.trans (hb.mono Hba.out.size))
    clear hb c0 c1 c2 c3 c4 cf
    obtain ⟨c0, c1, c2, c3, c4, cf, _⟩ := blk5s Z1.out
    rcases hr with hr | ⟨hr1, hr2, hfit⟩
    · subst hr
      go_wp2_with fail
      go_ret
      exact ⟨-1, rfl, Or.inl rfl, B1.out⟩
    · have hr4 : ¬ r < 0 := by omega
      have Hfit := Lib.hid hfit
      have hy := szI_cases r ys.length hr1
      have C2 := Lib.hid (fun w => szIntS_any py ys.length ky r w (by omega) hr1 (by omega))
      obtain ⟨D, hD⟩ : ∃ D, D = szI r ys.length := ⟨_, rfl⟩
      rw [← hD] at hy C2
      clear hD hfit
      go_wp2_with fail
      refine (C2.out _).mono ?_
      rintro e w' ⟨rfl, rfl⟩
      rcases hy with hy | ⟨hy1, hy2, hy3⟩
      · subst hy
        go_wp2_with fail
        go_ret
        exact ⟨-1, rfl, Or.inl rfl, B1.out⟩
      · have hy4 : ¬ D < 0 := by omega
        go_wp2_with fail
        go_ret
        exact ⟨D, rfl, Or.inr ⟨hy1, by omega, Hfit.out, by omega⟩, B1.out⟩

/-- the boxes of toSession: the argument's, the result's (still empty), the copy's -/
def SsB (w W : World) (dp dc ds : Value) (K N : Int) (x0 x1 x2 x3 x4 : Value) : Prop :=
  W.heap[w.heap.size]? = some (.cells #[dp, dc, ds, .int .i64 K, .int .i64 N] 42) ∧ W.heap[w.heap.size + 1]? = some (.cells #[.slice none 0 0, .slice none 0 0, .slice none 0 0, .int .i64 0, .int .i64 0] 47) ∧ W.heap[w.heap.size + 1 + 1]? = some (.cells #[x0, x1, x2, x3, x4] 47) ∧ Below w.heap.size w W ∧ w.heap.size + 3 ≤ W.heap.size
theorem SsB.start (w : World) (dp dc ds : Value) (K N : Int) : SsB w (((w.alloc (.cells #[dp, dc, ds, .int .i64 K, .int .i64 N] 42)).alloc (.cells #[.slice none 0 0, .slice none 0 0, .slice none 0 0, .int .i64 0, .int .i64 0] 47)).alloc (.cells #[.slice none 0 0, .slice none 0 0, .slice none 0 0, .int .i64 0, .int .i64 0] 47)) dp dc ds K N (.slice none 0 0) (.slice none 0 0) (.slice none 0 0) (.int .i64 0) (.int .i64 0) := by
  refine ⟨?_, ?_, heap_alloc_at _ _ (by simp), below_alloc3 _ _ _ _, by simp⟩
  · rw [heap_alloc_low _ _ (by simp; omega), heap_alloc_low _ _ (by simp)]; exact heap_alloc_top _ _
  · rw [heap_alloc_low _ _ (by simp)]; exact heap_alloc_at _ _ (by simp)
theorem SsB.below {w W W' : World} {dp dc ds : Value} {K N : Int} {x0 x1 x2 x3 x4 : Value} (h : SsB w W dp dc ds K N x0 x1 x2 x3 x4) (hb : Below W.heap.size W W') : SsB w W' dp dc ds K N x0 x1 x2 x3 x4 := by
  obtain ⟨h1, h2, h3, h4, h5⟩ := h
  exact ⟨blk_later h1 hb, blk_later h2 hb, blk_later h3 hb, h4.trans (hb.mono h4.size), Nat.le_trans h5 hb.size⟩
theorem SsB.set {w W : World} {dp dc ds : Value} {K N : Int} {x0 x1 x2 x3 x4 : Value} (h : SsB w W dp dc ds K N x0 x1 x2 x3 x4) (j : Nat) (v : Value) {y0 y1 y2 y3 y4 : Value} (e : #[x0, x1, x2, x3, x4].setIfInBounds j v = #[y0, y1, y2, y3, y4]) :
    SsB w (W.setCell ⟨w.heap.size + 1 + 1, j, none⟩ v) dp dc ds K N y0 y1 y2 y3 y4 := by
  obtain ⟨h1, h2, h3, h4, h5⟩ := h
  refine ⟨?_, ?_, ?_, h4.setCell (p := ⟨w.heap.size + 1 + 1, j, none⟩) (by show w.heap.size ≤ w.heap.size + 1 + 1; omega) v, by rw [size_setCell]; exact h5⟩
  · rw [Below.heap_setCell _ _ _ _ (show w.heap.size ≠ (⟨w.heap.size + 1 + 1, j, none⟩ : Addr).block by show w.heap.size ≠ w.heap.size + 1 + 1; omega)]; exact h1
  · rw [Below.heap_setCell _ _ _ _ (show w.heap.size + 1 ≠ (⟨w.heap.size + 1 + 1, j, none⟩ : Addr).block by show w.heap.size + 1 ≠ w.heap.size + 1 + 1; omega)]; exact h2
  · rw [heap_setCell_at h3 j v, e]

set_option maxRecDepth 100000 in
set_option maxHeartbeats 4000000 in
theorem toSession_any (dp dc ds : Value) (xs ys : List Int) (cs : List Cls) (K N : Int) (w : World) (h1 : Ints w dp xs) (h2 : RdClA w dc cs) (h3 : Ints w ds ys) (f1 : xs.length ≤ 1048576) (f2 : ClsFit cs) (f3 : ys.length ≤ 1048576) :
    Calls Try.prog 24 #[.agg #[dp, dc, ds, .int .i64 K, .int .i64 N]] w fun e w' =>
      ∃ up uc us, e = .returned (.agg #[up, uc, us, .int .i64 K, .int .i64 N]) ∧ Ints w' up xs ∧ RdCl w' uc cs ∧ Ints w' us ys ∧ Below w.heap.size w w' := by
  have S0 := Lib.hid (SsB.start w dp dc ds K N)
  have H1 := Lib.hid h1
  have H2 := Lib.hid h2
  have H3 := Lib.hid h3
  have F2 := Lib.hid f2
  clear h1 h2 h3 f2
  go_enter Try.func24, Try.ntmps24
  go_wp2_with fail
  generalize ((w.alloc (.cells #[dp, dc, ds, .int .i64 K, .int .i64 N] 42)).alloc (.cells #[.slice none 0 0, .slice none 0 0, .slice none 0 0, .int .i64 0, .int .i64 0] 47)).alloc (.cells #[.slice none 0 0, .slice none 0 0, .slice none 0 0, .int .i64 0, .int .i64 0] 47) = w0 at *
  obtain ⟨a0, a1, a2, a3, a4, af, az⟩ := blk5s S0.out.1
  go_wp2_with fail
  refine (toIntS_any _ xs _ (H1.out.below S0.out.2.2.2.1) f1).mono ?_
  rintro e w1 ⟨u, rfl, ho, hb⟩
  obtain ⟨pu, ku, rfl, _, _⟩ := ho.shape
  have S1 := Lib.hid (S0.out.below hb)
  have Ou := Lib.hid (ho.mono S0.out.2.2.2.2 (Nat.le_refl _))
  clear ho hb a0 a1 a2 a3 a4 af az
  obtain ⟨a0, a1, a2, a3, a4, af, az⟩ := blk5s S1.out.1
  obtain ⟨c0, c1, c2, c3, c4, cf, cz⟩ := blk5s S1.out.2.2.1
  go_wp2_with fail
  clear a0 a1 a2 a3 a4 af az c0 c1 c2 c3 c4 cf cz
  have S2 := Lib.hid (S1.out.set 0 (.slice pu xs.length ku) rfl)
  have Ou2 := Lib.hid (Ou.out.setCell (a := ⟨w.heap.size + 1 + 1, 0, none⟩) (.inl (show w.heap.size + 1 + 1 < w.heap.size + 3 by omega)) (.slice pu xs.length ku))
  clear S1 Ou
  generalize w1.setCell ⟨w.heap.size + 1 + 1, 0, none⟩ (.slice pu xs.length ku) = w2 at *
  have hu2 := Ou2.out
  refine (toClassS_any _ cs _ (H2.out.below S2.out.2.2.2.1) F2.out).mono ?_
  rintro e w3 ⟨uc, rfl, ho, hb⟩
  obtain ⟨pc, kc, rfl, _, _⟩ := ho.shape
  have S3 := Lib.hid (S2.out.below hb)
  have Oc := Lib.hid (ho.mono S2.out.2.2.2.2 (Nat.le_refl _))
  have Ou3 := Lib.hid (hu2.below hb)
  clear ho hb hu2
  obtain ⟨a0, a1, a2, a3, a4, af, az⟩ := blk5s S3.out.1
  obtain ⟨c0, c1, c2, c3, c4, cf, cz⟩ := blk5s S3.out.2.2.1
  go_wp2_with fail
  clear a0 a1 a2 a3 a4 af az c0 c1 c2 c3 c4 cf cz
  have S4 := Lib.hid (S3.out.set 1 (.slice pc cs.length kc) rfl)
  have Ou4 := Lib.hid (Ou3.out.setCell (a := ⟨w.heap.size + 1 + 1, 1, none⟩) (.inl (show w.heap.size + 1 + 1 < w.heap.size + 3 by omega)) (.slice pc cs.length kc))
  have Oc4 := Lib.hid (Oc.out.setCell (a := ⟨w.heap.size + 1 + 1, 1, none⟩) (.inl (show w.heap.size + 1 + 1 < w.heap.size + 3 by omega)) (.slice pc cs.length kc))
  clear S3 Ou3 Oc
  generalize w3.setCell ⟨w.heap.size + 1 + 1, 1, none⟩ (.slice pc cs.length kc) = w4 at *
  refine (toIntS_any _ ys _ (H3.out.below S4.out.2.2.2.1) f3).mono ?_
  rintro e w5 ⟨us, rfl, ho, hb⟩
  obtain ⟨ps, ks, rfl, _, _⟩ := ho.shape
  have S5 := Lib.hid (S4.out.below hb)
  have Os := Lib.hid (ho.mono S4.out.2.2.2.2 (Nat.le_refl _))
  have Ou5 := Lib.hid (Ou4.out.below hb)
  have Oc5 := Lib.hid (Oc4.out.below hb)
  clear ho hb
  obtain ⟨a0, a1, a2, a3, a4, af, az⟩ := blk5s S5.out.1
  obtain ⟨c0, c1, c2, c3, c4, cf, cz⟩ := blk5s S5.out.2.2.1
  obtain ⟨b0, b1, b2, b3, b4, bf, bz⟩ := blk5s S5.out.2.1
  have S6 := Lib.hid (((S5.out.set 2 (.slice ps ys.length ks) rfl).set 3 (.int .i64 K) rfl).set 4 (.int .i64 N) rfl)
  go_wp2_with fail
  have lowc : ∀ j, (⟨w.heap.size + 1 + 1, j, none⟩ : Addr).block < w.heap.size + 3 := fun j => by show w.heap.size + 1 + 1 < w.heap.size + 3; omega
  have lowb : ∀ j, (⟨w.heap.size + 1, j, none⟩ : Addr).block < w.heap.size + 3 := fun j => by show w.heap.size + 1 < w.heap.size + 3; omega
  have below5 : ∀ {W : World}, Below w.heap.size w W → ∀ x0 x1 x2 x3 x4, Below w.heap.size w (((((W.setCell ⟨w.heap.size + 1, 0, none⟩ x0).setCell ⟨w.heap.size + 1, 1, none⟩ x1).setCell ⟨w.heap.size + 1, 2, none⟩ x2).setCell ⟨w.heap.size + 1, 3, none⟩ x3).setCell ⟨w.heap.size + 1, 4, none⟩ x4) := fun h x0 x1 x2 x3 x4 =>
    ((((h.setCell (p := ⟨w.heap.size + 1, 0, none⟩) (Nat.le_succ _) x0).setCell (p := ⟨w.heap.size + 1, 1, none⟩) (Nat.le_succ _) x1).setCell (p := ⟨w.heap.size + 1, 2, none⟩) (Nat.le_succ _) x2).setCell (p := ⟨w.heap.size + 1, 3, none⟩) (Nat.le_succ _) x3).setCell (p := ⟨w.heap.size + 1, 4, none⟩) (Nat.le_succ _) x4
  refine bodyPost_ret (v := .agg #[.slice pu xs.length ku, .slice pc cs.length kc, .slice ps ys.length ks, .int .i64 K, .int .i64 N]) (by simp [results, Try.results24, go_sem, b0, b1, b2, b3, b4, bz]) rfl ⟨_, _, _, rfl, ?_, ?_, ?_, ?_⟩
  · exact OwnI.ints ((((((((Ou5.out.setCell (.inl (lowc 2)) _).setCell (.inl (lowc 3)) _).setCell (.inl (lowc 4)) _).setCell (.inl (lowb 0)) _).setCell (.inl (lowb 1)) _).setCell (.inl (lowb 2)) _).setCell (.inl (lowb 3)) _).setCell (.inl (lowb 4)) _)
  · exact OwnCl.rd ((((((((Oc5.out.setCell (.inl (lowc 2)) _).setCell (.inl (lowc 3)) _).setCell (.inl (lowc 4)) _).setCell (.inl (lowb 0)) _).setCell (.inl (lowb 1)) _).setCell (.inl (lowb 2)) _).setCell (.inl (lowb 3)) _).setCell (.inl (lowb 4)) _)
  · exact OwnI.ints ((((((((Os.out.setCell (.inl (lowc 2)) _).setCell (.inl (lowc 3)) _).setCell (.inl (lowc 4)) _).setCell (.inl (lowb 0)) _).setCell (.inl (lowb 1)) _).setCell (.inl (lowb 2)) _).setCell (.inl (lowb 3)) _).setCell (.inl (lowb 4)) _)
  · exact below5 S6.out.2.2.2.1 _ _ _ _ _

set_option maxRecDepth 100000 in
set_option maxHeartbeats 2000000 in
theorem eqSession_same (dp dc ds dp' dc' ds' : Value) (xs ys : List Int) (cs : List Cls) (K N : Int) (w : World) (h1 : Ints w dp xs) (h2 : RdCl w dc cs) (h3 : Ints w ds ys) (g1 : Ints w dp' xs) (g2 : RdCl w dc' cs) (g3 : Ints w ds' ys) :
    Calls Try.prog 26 #[.agg #[dp, dc, ds, .int .i64 K, .int .i64 N], .agg #[dp', dc', ds', .int .i64 K, .int .i64 N]] w fun e w' => e = .returned (.bool true) ∧ Below w.heap.size w w' := by
  have hba := below_alloc2 w (.cells #[dp, dc, ds, .int .i64 K, .int .i64 N] 47) (.cells #[dp', dc', ds', .int .i64 K, .int .i64 N] 47)
  have Za := Lib.hid (show ((w.alloc (.cells #[dp, dc, ds, .int .i64 K, .int .i64 N] 47)).alloc (.cells #[dp', dc', ds', .int .i64 K, .int .i64 N] 47)).heap[w.heap.size]? = some (.cells #[dp, dc, ds, .int .i64 K, .int .i64 N] 47) from (heap_alloc_low _ _ (by simp)).trans (heap_alloc_top _ _))
  have Zb := Lib.hid (show ((w.alloc (.cells #[dp, dc, ds, .int .i64 K, .int .i64 N] 47)).alloc (.cells #[dp', dc', ds', .int .i64 K, .int .i64 N] 47)).heap[w.heap.size + 1]? = some (.cells #[dp', dc', ds', .int .i64 K, .int .i64 N] 47) from heap_alloc_at _ _ (by simp))
  have H1 := Lib.hid (h1.below hba)
  have H2 := Lib.hid (h2.below hba)
  have H3 := Lib.hid (h3.below hba)
  have G1 := Lib.hid (g1.below hba)
  have G2 := Lib.hid (g2.below hba)
  have G3 := Lib.hid (g3.below hba)
  have Hba := Lib.hid hba
  have zk : (K != K) = false := by simp
  have zn : (N != N) = false := by simp
  clear h1 h2 h3 g1 g2 g3 hba
  go_enter Try.func26, Try.ntmps26
  go_wp2_with fail
  generalize (w.alloc (.cells #[dp, dc, ds, .int .i64 K, .int .i64 N] 47)).alloc (.cells #[dp', dc', ds', .int .i64 K, .int .i64 N] 47) = w0 at *
  obtain ⟨a0, a1, a2, a3, a4, af, az⟩ := blk5s Za.out
  obtain ⟨b0, b1, b2, b3, b4, bf, bz⟩ := blk5s Zb.out
  go_wp2_with fail
  refine (eqIntS_same _ _ xs _ H1.out G1.out).mono ?_
  rintro e w1 ⟨rfl, hb⟩
  have Za1 := Lib.hid (blk_later Za.out hb)
  have Zb1 := Lib.hid (blk_later Zb.out hb)
  have H2' := Lib.hid (H2.out.below hb)
  have H3' := Lib.hid (H3.out.below hb)
  have G2' := Lib.hid (G2.out.below hb)
  have G3' := Lib.hid (G3.out.below hb)
  have B1 := Lib.hid (Hba.out.trans (hb.mono Hba.out.size))
  clear hb a0 a1 a2 a3 a4 af az b0 b1 b2 b3 b4 bf bz
  obtain ⟨a0, a1, a2, a3, a4, af, az⟩ := blk5s Za1.out
  obtain ⟨b0, b1, b2, b3, b4, bf, bz⟩ := blk5s Zb1.out
  go_wp2_with fail
  refine (eqClassS_same _ _ cs _ H2'.out G2'.out).mono ?_
  rintro e w2 ⟨rfl, hb⟩
  have Za2 := Lib.hid (blk_later Za1.out hb)
  have Zb2 := Lib.hid (blk_later Zb1.out hb)
  have H3'' := Lib.hid (H3'.out.below hb)
  have G3'' := Lib.hid (G3'.out.below hb)
  have B2 := Lib.hid (B1.out.trans (hb.mono B1.out.size))
  clear hb a0 a1 a2 a3 a4 af az b0 b1 b2 b3 b4 bf bz
  obtain ⟨a0, a1, a2, a3, a4, af, az⟩ := blk5s Za2.out
  obtain ⟨b0, b1, b2, b3, b4, bf, bz⟩ := blk5s Zb2.out
  go_wp2_with fail
  refine (eqIntS_same _ _ ys _ H3''.out G3''.out).mono ?_
  rintro e w3 ⟨rfl, hb⟩
  have Za3 := Lib.hid (blk_later Za2.out hb)
  have Zb3 := Lib.hid (blk_later Zb2.out hb)
  have B3 := Lib.hid (B2.out.trans (hb.mono B2.out.size))
  clear hb a0 a1 a2 a3 a4 af az b0 b1 b2 b3 b4 bf bz
  obtain ⟨a0, a1, a2, a3, a4, af, az⟩ := blk5s Za3.out
  obtain ⟨b0, b1, b2, b3, b4, bf, bz⟩ := blk5s Zb3.out
  go_wp2_with fail
  go_ret
  exact ⟨rfl, B3.out⟩

end Go.Proofs.Ytejoapielndnnaa
