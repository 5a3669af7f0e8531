/-
  FlagOk, on both sides.
  The rank of one row more (plain law; no program in sight).
  FlagOk, as a property.
  The normal form of a flag, as plain law.
  More of spans and ranks: rows that are independent, spans within spans, halves of rows (plain law; no program in sight).
-/
import Derived.Test.YtpfefjdefopccaaJ5
namespace Go.Proofs.Ytpfefjdefopccaa
set_option linter.all false
open Go.RowKit

/-- what FlagOk returns -/
def FkIs (P R C : Int) (D : List Int) (b : Bool) : Prop := b = true ↔ mxOk P R C D = true ∧ R = C ∧ RkIs P R C D R
theorem FkIs.one {P R C : Int} {D : List Int} {b b' : Bool} (h : FkIs P R C D b) (h' : FkIs P R C D b') : b = b' := by
  unfold FkIs at h h'
  have e : b = true ↔ b' = true := h.trans h'.symm
  cases b <;> cases b' <;> simp_all
theorem FkIs.eps {P R C : Int} {D : List Int} {b : Bool} (h : FkIs P R C D b) : b = Classical.epsilon (FkIs P R C D) := h.one (Classical.epsilon_spec ⟨b, h⟩)
theorem FkIs.no1 {P R C : Int} {D : List Int} (h : mxOk P R C D = false) : FkIs P R C D false := by
  unfold FkIs; simp [h]
theorem FkIs.no2 {P R C : Int} {D : List Int} (h : R ≠ C) : FkIs P R C D false := by
  unfold FkIs; simp [h]
theorem FkIs.yes {P R : Int} {D : List Int} {n : Int} (h : mxOk P R R D = true) (hn : RkIs P R R D n) : FkIs P R R D (n == R) := by
  unfold FkIs
  constructor
  · intro e
    have : n = R := by simpa using e
    subst this
    exact ⟨h, rfl, hn⟩
  · rintro ⟨_, _, hr⟩
    have := hn.one hr
    simpa using this

theorem implRankOf_r (P : Int) (R C : Nat) (d : Value) (D : List Int) (w : World) (hd : Ints w d D) :
    Calls Try.prog 37 #[.agg #[.int .i64 P, .int .i64 (R : Int), .int .i64 (C : Int), d]] w fun e w' => ∃ n, e = .returned (.int .i64 n) ∧ RkIs P R C D n ∧ Below w.heap.size w w' :=
  implRankOf_ex P R C d D w hd

set_option maxRecDepth 100000 in
set_option maxHeartbeats 16000000 in
theorem implFlagOk_any (P R C : Int) (d : Value) (D : List Int) (w : World) (hd : Ints w d D) :
    Calls Try.prog 18 #[.agg #[.int .i64 P, .int .i64 R, .int .i64 C, d]] w fun e w' =>
      e = .returned (.bool (Classical.epsilon (FkIs P R C D))) ∧ Below w.heap.size w w' := by
  suffices h : Calls Try.prog 18 #[.agg #[.int .i64 P, .int .i64 R, .int .i64 C, d]] w fun e w' => ∃ r, e = .returned (.bool r) ∧ FkIs P R C D r ∧ Below w.heap.size w w' from
    h.mono fun e w' ⟨r, h1, h2, h3⟩ => ⟨by rw [h1, h2.eps], h3⟩
  have Hd := Lib.hid hd
  obtain ⟨p, cap, rfl, ⟨_, mx⟩, _⟩ := hd
  unfold maxLen at mx
  cases h1 : mxOk P R C D with
  | false =>
    have H1 := Lib.hid h1
    clear h1
    have Z := Lib.hid (heap_alloc_top w (.cells #[.int .i64 P, .int .i64 R, .int .i64 C, .slice p D.length cap] 26))
    have Hd0 := Lib.hid (Hd.out.below (below_alloc w (.cells #[.int .i64 P, .int .i64 R, .int .i64 C, .slice p D.length cap] 26)))
    have Hba := Lib.hid (below_alloc w (.cells #[.int .i64 P, .int .i64 R, .int .i64 C, .slice p D.length cap] 26))
    go_enter Try.func18, Try.ntmps18
    go_wp2_with fail
    generalize w.alloc (.cells #[.int .i64 P, .int .i64 R, .int .i64 C, .slice p D.length cap] 26) = wa at *
    obtain ⟨c0, c1, c2, c3, cf, cz⟩ := blk4 Z.out
    refine wp_region_held_drew (S := (fun w' => (w'.cell? ⟨w.heap.size, 0, none⟩ = some (.int .i64 P) ∧ w'.cell? ⟨w.heap.size, 1, none⟩ = some (.int .i64 R) ∧ w'.cell? ⟨w.heap.size, 2, none⟩ = some (.int .i64 C) ∧ w'.cell? ⟨w.heap.size, 3, none⟩ = some (.slice p D.length cap)) ∧ Below wa.heap.size wa w')) (by kernel_rfl) ?_ (fun hHeld => ?_)
    · exact ⟨⟨c0, c1, c2, c3⟩, (Below.refl _ _).drew⟩
    refine wpAnyH_take (i := 0) (v := .agg #[.int .i64 P, .int .i64 R, .int .i64 C, .slice p D.length cap]) rfl (by kernel_rfl) (by kernel_rfl) (by kernel_rfl) (fun _ _ _ h => h) (Or.inl ⟨by rfl, fun w hSw => by dsimp only at hSw; go_simp⟩) (by assumption) ?_
    simp only [Act.put, List.getElem_toArray, List.getElem_cons_succ, List.getElem_cons_zero, List.setIfInBounds_toArray, List.set_cons_zero, List.set_cons_succ]
    refine wpAnyH_ready (rs := [1]) (by kernel_rfl) (by simp) ?_
    refine AllReadyH.cons rfl (fun K hK => ?_) AllReadyH.nil
    go_simp
    refine (implMatrixOk_b _ _ _ _ _ _ H1.out _ (Hd0.out.below (Below.refl _ _).drew)).mono ?_
    rintro e w' ⟨rfl, hb1⟩
    go_wp2_with fail
    refine hK.out _ _ ?_ (fun hHeld => ?_)
    · exact keep4 hb1 (by assumption)
    clear hK K
    try simp only [Act.put, List.getElem_toArray, List.getElem_cons_succ, List.getElem_cons_zero, List.setIfInBounds_toArray, List.set_cons_zero, List.set_cons_succ]
    refine wpAnyH_take (i := 2) (v := .bool false) rfl (by kernel_rfl) (by kernel_rfl) (by kernel_rfl) (fun _ _ _ h => h) (Or.inl ⟨by rfl, fun w hSw => by dsimp only at hSw; go_simp⟩) (by assumption) ?_
    simp only [Act.put, List.getElem_toArray, List.getElem_cons_succ, List.getElem_cons_zero, List.setIfInBounds_toArray, List.set_cons_zero, List.set_cons_succ]
    refine wpAnyH_take (i := 3) (v := undef) rfl (by kernel_rfl) (by kernel_rfl) (by kernel_rfl) (fun _ _ _ h => h) (Or.inr ⟨by rfl, rfl⟩) (by assumption) ?_
    simp only [Act.put, List.getElem_toArray, List.getElem_cons_succ, List.getElem_cons_zero, List.setIfInBounds_toArray, List.set_cons_zero, List.set_cons_succ]
    refine wpAnyH_take (i := 4) (v := undef) rfl (by kernel_rfl) (by kernel_rfl) (by kernel_rfl) (fun _ _ _ h => h) (Or.inr ⟨by rfl, rfl⟩) (by assumption) ?_
    simp only [Act.put, List.getElem_toArray, List.getElem_cons_succ, List.getElem_cons_zero, List.setIfInBounds_toArray, List.set_cons_zero, List.set_cons_succ]
    refine wpAnyH_take (i := 5) (v := undef) rfl (by kernel_rfl) (by kernel_rfl) (by kernel_rfl) (fun _ _ _ h => h) (Or.inr ⟨by rfl, rfl⟩) (by assumption) ?_
    simp only [Act.put, List.getElem_toArray, List.getElem_cons_succ, List.getElem_cons_zero, List.setIfInBounds_toArray, List.set_cons_zero, List.set_cons_succ]
    refine wpAnyH_take (i := 6) (v := undef) rfl (by kernel_rfl) (by kernel_rfl) (by kernel_rfl) (fun _ _ _ h => h) (Or.inr ⟨by rfl, rfl⟩) (by assumption) ?_
    simp only [Act.put, List.getElem_toArray, List.getElem_cons_succ, List.getElem_cons_zero, List.setIfInBounds_toArray, List.set_cons_zero, List.set_cons_succ]
    refine wpAnyH_take (i := 7) (v := undef) rfl (by kernel_rfl) (by kernel_rfl) (by kernel_rfl) (fun _ _ _ h => h) (Or.inr ⟨by rfl, rfl⟩) (by assumption) ?_
    simp only [Act.put, List.getElem_toArray, List.getElem_cons_succ, List.getElem_cons_zero, List.setIfInBounds_toArray, List.set_cons_zero, List.set_cons_succ]
    refine wpAnyH_take (i := 8) (v := .bool false) rfl (by kernel_rfl) (by kernel_rfl) (by kernel_rfl) (fun _ _ _ h => h) (Or.inl ⟨by rfl, fun w hSw => by dsimp only at hSw; go_simp⟩) (by assumption) ?_
    simp only [Act.put, List.getElem_toArray, List.getElem_cons_succ, List.getElem_cons_zero, List.setIfInBounds_toArray, List.set_cons_zero, List.set_cons_succ]
    refine wpAnyH_take (i := 9) (v := .bool false) rfl (by kernel_rfl) (by kernel_rfl) (by kernel_rfl) (fun _ _ _ h => h) (Or.inl ⟨by rfl, fun w hSw => by dsimp only at hSw; go_simp⟩) (by assumption) ?_
    simp only [Act.put, List.getElem_toArray, List.getElem_cons_succ, List.getElem_cons_zero, List.setIfInBounds_toArray, List.set_cons_zero, List.set_cons_succ]
    refine wpAnyH_take (i := 10) (v := undef) rfl (by kernel_rfl) (by kernel_rfl) (by kernel_rfl) (fun _ _ _ h => h) (Or.inr ⟨by rfl, rfl⟩) (by assumption) ?_
    simp only [Act.put, List.getElem_toArray, List.getElem_cons_succ, List.getElem_cons_zero, List.setIfInBounds_toArray, List.set_cons_zero, List.set_cons_succ]
    refine wpAnyH_take (i := 11) (v := undef) rfl (by kernel_rfl) (by kernel_rfl) (by kernel_rfl) (fun _ _ _ h => h) (Or.inr ⟨by rfl, rfl⟩) (by assumption) ?_
    simp only [Act.put, List.getElem_toArray, List.getElem_cons_succ, List.getElem_cons_zero, List.setIfInBounds_toArray, List.set_cons_zero, List.set_cons_succ]
    refine wpAnyH_take (i := 12) (v := undef) rfl (by kernel_rfl) (by kernel_rfl) (by kernel_rfl) (fun _ _ _ h => h) (Or.inr ⟨by rfl, rfl⟩) (by assumption) ?_
    simp only [Act.put, List.getElem_toArray, List.getElem_cons_succ, List.getElem_cons_zero, List.setIfInBounds_toArray, List.set_cons_zero, List.set_cons_succ]
    refine wpAnyH_take (i := 13) (v := undef) rfl (by kernel_rfl) (by kernel_rfl) (by kernel_rfl) (fun _ _ _ h => h) (Or.inr ⟨by rfl, rfl⟩) (by assumption) ?_
    simp only [Act.put, List.getElem_toArray, List.getElem_cons_succ, List.getElem_cons_zero, List.setIfInBounds_toArray, List.set_cons_zero, List.set_cons_succ]
    refine wpAnyH_take (i := 14) (v := undef) rfl (by kernel_rfl) (by kernel_rfl) (by kernel_rfl) (fun _ _ _ h => h) (Or.inr ⟨by rfl, rfl⟩) (by assumption) ?_
    simp only [Act.put, List.getElem_toArray, List.getElem_cons_succ, List.getElem_cons_zero, List.setIfInBounds_toArray, List.set_cons_zero, List.set_cons_succ]
    refine wpAnyH_take (i := 15) (v := .bool false) rfl (by kernel_rfl) (by kernel_rfl) (by kernel_rfl) (fun _ _ _ h => h) (Or.inl ⟨by rfl, fun w hSw => by dsimp only at hSw; go_simp⟩) (by assumption) ?_
    simp only [Act.put, List.getElem_toArray, List.getElem_cons_succ, List.getElem_cons_zero, List.setIfInBounds_toArray, List.set_cons_zero, List.set_cons_succ]
    refine wpAnyH_take (i := 16) (v := .bool false) rfl (by kernel_rfl) (by kernel_rfl) (by kernel_rfl) (fun _ _ _ h => h) (Or.inl ⟨by rfl, fun w hSw => by dsimp only at hSw; go_simp⟩) (by assumption) ?_
    simp only [Act.put, List.getElem_toArray, List.getElem_cons_succ, List.getElem_cons_zero, List.setIfInBounds_toArray, List.set_cons_zero, List.set_cons_succ]
    refine wpAnyH_done (by kernel_rfl) ?_ _
    have hbw := held_below (by assumption)
    have Hbw := Lib.hid (Hba.out.trans (Below.mono hbw Hba.out.size))
    go_wp2_with fail
    go_ret
    exact ⟨_, rfl, FkIs.no1 H1.out, Hbw.out⟩
  | true =>
    have H1 := Lib.hid h1
    by_cases hRC : R = C
    case neg =>
      have hRC2 : (R == C) = false := by simpa using hRC
      have HRC := Lib.hid hRC
      clear h1 hRC
      have Z := Lib.hid (heap_alloc_top w (.cells #[.int .i64 P, .int .i64 R, .int .i64 C, .slice p D.length cap] 26))
      have Hd0 := Lib.hid (Hd.out.below (below_alloc w (.cells #[.int .i64 P, .int .i64 R, .int .i64 C, .slice p D.length cap] 26)))
      have Hba := Lib.hid (below_alloc w (.cells #[.int .i64 P, .int .i64 R, .int .i64 C, .slice p D.length cap] 26))
      go_enter Try.func18, Try.ntmps18
      go_wp2_with fail
      generalize w.alloc (.cells #[.int .i64 P, .int .i64 R, .int .i64 C, .slice p D.length cap] 26) = wa at *
      obtain ⟨c0, c1, c2, c3, cf, cz⟩ := blk4 Z.out
      refine wp_region_held_drew (S := (fun w' => (w'.cell? ⟨w.heap.size, 0, none⟩ = some (.int .i64 P) ∧ w'.cell? ⟨w.heap.size, 1, none⟩ = some (.int .i64 R) ∧ w'.cell? ⟨w.heap.size, 2, none⟩ = some (.int .i64 C) ∧ w'.cell? ⟨w.heap.size, 3, none⟩ = some (.slice p D.length cap)) ∧ Below wa.heap.size wa w')) (by kernel_rfl) ?_ (fun hHeld => ?_)
      · exact ⟨⟨c0, c1, c2, c3⟩, (Below.refl _ _).drew⟩
      refine wpAnyH_take (i := 0) (v := .agg #[.int .i64 P, .int .i64 R, .int .i64 C, .slice p D.length cap]) rfl (by kernel_rfl) (by kernel_rfl) (by kernel_rfl) (fun _ _ _ h => h) (Or.inl ⟨by rfl, fun w hSw => by dsimp only at hSw; go_simp⟩) (by assumption) ?_
      simp only [Act.put, List.getElem_toArray, List.getElem_cons_succ, List.getElem_cons_zero, List.setIfInBounds_toArray, List.set_cons_zero, List.set_cons_succ]
      refine wpAnyH_ready (rs := [1]) (by kernel_rfl) (by simp) ?_
      refine AllReadyH.cons rfl (fun K hK => ?_) AllReadyH.nil
      go_simp
      refine (implMatrixOk_b _ _ _ _ _ _ H1.out _ (Hd0.out.below (Below.refl _ _).drew)).mono ?_
      rintro e w' ⟨rfl, hb1⟩
      go_wp2_with fail
      refine hK.out _ _ ?_ (fun hHeld => ?_)
      · exact keep4 hb1 (by assumption)
      clear hK K
      try simp only [Act.put, List.getElem_toArray, List.getElem_cons_succ, List.getElem_cons_zero, List.setIfInBounds_toArray, List.set_cons_zero, List.set_cons_succ]
      refine wpAnyH_take (i := 2) (v := .bool true) rfl (by kernel_rfl) (by kernel_rfl) (by kernel_rfl) (fun _ _ _ h => h) (Or.inl ⟨by rfl, fun w hSw => by dsimp only at hSw; go_simp⟩) (by assumption) ?_
      simp only [Act.put, List.getElem_toArray, List.getElem_cons_succ, List.getElem_cons_zero, List.setIfInBounds_toArray, List.set_cons_zero, List.set_cons_succ]
      refine wpAnyH_take (i := 3) (v := .pointer (some ⟨w.heap.size, 1, none⟩)) rfl (by kernel_rfl) (by kernel_rfl) (by kernel_rfl) (fun _ _ _ h => h) (Or.inl ⟨by rfl, fun w hSw => by dsimp only at hSw; go_simp⟩) (by assumption) ?_
      simp only [Act.put, List.getElem_toArray, List.getElem_cons_succ, List.getElem_cons_zero, List.setIfInBounds_toArray, List.set_cons_zero, List.set_cons_succ]
      refine wpAnyH_take (i := 4) (v := .int .i64 R) rfl (by kernel_rfl) (by kernel_rfl) (by kernel_rfl) (fun _ _ _ h => h) (Or.inl ⟨by rfl, fun w hSw => by dsimp only at hSw; go_simp⟩) (by assumption) ?_
      simp only [Act.put, List.getElem_toArray, List.getElem_cons_succ, List.getElem_cons_zero, List.setIfInBounds_toArray, List.set_cons_zero, List.set_cons_succ]
      refine wpAnyH_take (i := 5) (v := .pointer (some ⟨w.heap.size, 2, none⟩)) rfl (by kernel_rfl) (by kernel_rfl) (by kernel_rfl) (fun _ _ _ h => h) (Or.inl ⟨by rfl, fun w hSw => by dsimp only at hSw; go_simp⟩) (by assumption) ?_
      simp only [Act.put, List.getElem_toArray, List.getElem_cons_succ, List.getElem_cons_zero, List.setIfInBounds_toArray, List.set_cons_zero, List.set_cons_succ]
      refine wpAnyH_take (i := 6) (v := .int .i64 C) rfl (by kernel_rfl) (by kernel_rfl) (by kernel_rfl) (fun _ _ _ h => h) (Or.inl ⟨by rfl, fun w hSw => by dsimp only at hSw; go_simp⟩) (by assumption) ?_
      simp only [Act.put, List.getElem_toArray, List.getElem_cons_succ, List.getElem_cons_zero, List.setIfInBounds_toArray, List.set_cons_zero, List.set_cons_succ]
      refine wpAnyH_take (i := 7) (v := .bool false) rfl (by kernel_rfl) (by kernel_rfl) (by kernel_rfl) (fun _ _ _ h => h) (Or.inl ⟨by rfl, fun w hSw => by dsimp only at hSw; go_simp⟩) (by assumption) ?_
      simp only [Act.put, List.getElem_toArray, List.getElem_cons_succ, List.getElem_cons_zero, List.setIfInBounds_toArray, List.set_cons_zero, List.set_cons_succ]
      refine wpAnyH_take (i := 8) (v := .bool false) rfl (by kernel_rfl) (by kernel_rfl) (by kernel_rfl) (fun _ _ _ h => h) (Or.inl ⟨by rfl, fun w hSw => by dsimp only at hSw; go_simp⟩) (by assumption) ?_
      simp only [Act.put, List.getElem_toArray, List.getElem_cons_succ, List.getElem_cons_zero, List.setIfInBounds_toArray, List.set_cons_zero, List.set_cons_succ]
      refine wpAnyH_take (i := 9) (v := .bool false) rfl (by kernel_rfl) (by kernel_rfl) (by kernel_rfl) (fun _ _ _ h => h) (Or.inl ⟨by rfl, fun w hSw => by dsimp only at hSw; go_simp⟩) (by assumption) ?_
      simp only [Act.put, List.getElem_toArray, List.getElem_cons_succ, List.getElem_cons_zero, List.setIfInBounds_toArray, List.set_cons_zero, List.set_cons_succ]
      refine wpAnyH_take (i := 10) (v := undef) rfl (by kernel_rfl) (by kernel_rfl) (by kernel_rfl) (fun _ _ _ h => h) (Or.inr ⟨by rfl, rfl⟩) (by assumption) ?_
      simp only [Act.put, List.getElem_toArray, List.getElem_cons_succ, List.getElem_cons_zero, List.setIfInBounds_toArray, List.set_cons_zero, List.set_cons_succ]
      refine wpAnyH_take (i := 11) (v := undef) rfl (by kernel_rfl) (by kernel_rfl) (by kernel_rfl) (fun _ _ _ h => h) (Or.inr ⟨by rfl, rfl⟩) (by assumption) ?_
      simp only [Act.put, List.getElem_toArray, List.getElem_cons_succ, List.getElem_cons_zero, List.setIfInBounds_toArray, List.set_cons_zero, List.set_cons_succ]
      refine wpAnyH_take (i := 12) (v := undef) rfl (by kernel_rfl) (by kernel_rfl) (by kernel_rfl) (fun _ _ _ h => h) (Or.inr ⟨by rfl, rfl⟩) (by assumption) ?_
      simp only [Act.put, List.getElem_toArray, List.getElem_cons_succ, List.getElem_cons_zero, List.setIfInBounds_toArray, List.set_cons_zero, List.set_cons_succ]
      refine wpAnyH_take (i := 13) (v := undef) rfl (by kernel_rfl) (by kernel_rfl) (by kernel_rfl) (fun _ _ _ h => h) (Or.inr ⟨by rfl, rfl⟩) (by assumption) ?_
      simp only [Act.put, List.getElem_toArray, List.getElem_cons_succ, List.getElem_cons_zero, List.setIfInBounds_toArray, List.set_cons_zero, List.set_cons_succ]
      refine wpAnyH_take (i := 14) (v := undef) rfl (by kernel_rfl) (by kernel_rfl) (by kernel_rfl) (fun _ _ _ h => h) (Or.inr ⟨by rfl, rfl⟩) (by assumption) ?_
      simp only [Act.put, List.getElem_toArray, List.getElem_cons_succ, List.getElem_cons_zero, List.setIfInBounds_toArray, List.set_cons_zero, List.set_cons_succ]
      refine wpAnyH_take (i := 15) (v := .bool false) rfl (by kernel_rfl) (by kernel_rfl) (by kernel_rfl) (fun _ _ _ h => h) (Or.inl ⟨by rfl, fun w hSw => by dsimp only at hSw; go_simp⟩) (by assumption) ?_
      simp only [Act.put, List.getElem_toArray, List.getElem_cons_succ, List.getElem_cons_zero, List.setIfInBounds_toArray, List.set_cons_zero, List.set_cons_succ]
      refine wpAnyH_take (i := 16) (v := .bool false) rfl (by kernel_rfl) (by kernel_rfl) (by kernel_rfl) (fun _ _ _ h => h) (Or.inl ⟨by rfl, fun w hSw => by dsimp only at hSw; go_simp⟩) (by assumption) ?_
      simp only [Act.put, List.getElem_toArray, List.getElem_cons_succ, List.getElem_cons_zero, List.setIfInBounds_toArray, List.set_cons_zero, List.set_cons_succ]
      refine wpAnyH_done (by kernel_rfl) ?_ _
      have hbw := held_below (by assumption)
      have Hbw := Lib.hid (Hba.out.trans (Below.mono hbw Hba.out.size))
      go_wp2_with fail
      go_ret
      exact ⟨_, rfl, FkIs.no2 HRC.out, Hbw.out⟩
    subst hRC
    obtain ⟨r, c, rfl, hrc, hr, hc0, hc, hlD, hD, hP2, hP7, hpr⟩ := mxOk_facts h1
    have Hrc := Lib.hid hrc
    clear h1 hrc hlD hD hpr
    have Z := Lib.hid (heap_alloc_top w (.cells #[.int .i64 P, .int .i64 (r : Int), .int .i64 (r : Int), .slice p D.length cap] 26))
    have Hd0 := Lib.hid (Hd.out.below (below_alloc w (.cells #[.int .i64 P, .int .i64 (r : Int), .int .i64 (r : Int), .slice p D.length cap] 26)))
    have Hba := Lib.hid (below_alloc w (.cells #[.int .i64 P, .int .i64 (r : Int), .int .i64 (r : Int), .slice p D.length cap] 26))
    go_enter Try.func18, Try.ntmps18
    go_wp2_with fail
    generalize w.alloc (.cells #[.int .i64 P, .int .i64 (r : Int), .int .i64 (r : Int), .slice p D.length cap] 26) = wa at *
    obtain ⟨c0, c1, c2, c3, cf, cz⟩ := blk4 Z.out
    first | (go_region_held3 (fun w' => (w'.cell? ⟨w.heap.size, 0, none⟩ = some (.int .i64 P) ∧ w'.cell? ⟨w.heap.size, 1, none⟩ = some (.int .i64 (r : Int)) ∧ w'.cell? ⟨w.heap.size, 2, none⟩ = some (.int .i64 (r : Int)) ∧ w'.cell? ⟨w.heap.size, 3, none⟩ = some (.slice p D.length cap)) ∧ Below wa.heap.size wa w')
      (first | exact ⟨⟨c0, c1, c2, c3⟩, (Below.refl _ _).drew⟩ | exact keep4 hb1 (by assumption))
      (first
        | (go_at_call 36; refine (implMatrixOk_b _ _ _ _ _ _ H1.out _ (held_ints Hd0.out (by assumption))).mono ?_; rintro e w' ⟨rfl, hb1⟩)
        | (go_at_call 37; refine (implRankOf_r P r r _ D _ (held_ints Hd0.out (by assumption))).mono ?_; rintro e w' ⟨n, rfl, hn, hb1⟩))) | fail
    have hbw := held_below (by assumption)
    have Hbw := Lib.hid (Hba.out.trans (Below.mono hbw Hba.out.size))
    have Hn := Lib.hid hn
    go_wp2_with fail
    go_ret
    exact ⟨_, rfl, FkIs.yes H1.out Hn.out, Hbw.out⟩

end Go.Proofs.Ytpfefjdefopccaa

namespace Go.Proofs.Ytpfefjdefopccaa
set_option linter.all false
open Go.RowKit

/-- the rank is told by what is spanned -/
theorem HasRank.same {P : Int} {C R R' n : Nat} {M0 M1 : Nat → Nat → Int} (h : HasRank P C R M0 n) (hs : SameSp P C R' M1 R M0) : HasRank P C R' M1 n := by
  obtain ⟨M, q, h1, h2, h3, h4⟩ := h
  exact ⟨M, q, h1, h2, h3, hs.trans h4⟩
theorem HasRank.zero (P : Int) (C : Nat) (M0 : Nat → Nat → Int) : HasRank P C 0 M0 0 :=
  ⟨M0, fun i => i, ⟨fun i hi => absurd hi (Nat.not_lt_zero _), fun i k hi => absurd hi (Nat.not_lt_zero _), fun i j hi => absurd hi (Nat.not_lt_zero _)⟩,
    fun i k _ hk => absurd hk (Nat.not_lt_zero _), fun i c hi => absurd hi (Nat.not_lt_zero _), .refl⟩
theorem HasRank.congr {P : Int} {C R n : Nat} {M0 M1 : Nat → Nat → Int} (h : HasRank P C R M0 n) (e : ∀ i j, i < R → j < C → M1 i j = M0 i j) : HasRank P C R M1 n :=
  h.same (SameSp.of_eqv fun i hi => .of_eq fun j hj => e i j hi hj)

/-- an order in which numbers ascend -/
theorem order_ex (n : Nat) (q : Nat → Nat) (hq : ∀ i k, i < n → k < n → q i = q k → i = k) :
    ∃ τ σ : Nat → Nat, (∀ i, i < n → τ i < n) ∧ (∀ i, i < n → σ i < n ∧ τ (σ i) = i) ∧ (∀ i k, i < n → k < n → τ i = τ k → i = k) ∧ ∀ i k, i < k → k < n → q (τ i) < q (τ k) := by
  let le : Nat → Nat → Bool := fun a b => decide (q a ≤ q b)
  let l := (List.range n).mergeSort le
  have hp : l.Perm (List.range n) := List.mergeSort_perm _ _
  have hs : l.Pairwise fun a b => le a b = true := List.pairwise_mergeSort (fun a b c h1 h2 => by simp [le] at *; omega) (fun a b => by simp [le]; omega) _
  have hlen : l.length = n := by rw [hp.length_eq]; simp
  have hnd : l.Nodup := hp.nodup_iff.2 List.nodup_range
  have hget : ∀ i, i < n → l.getD i 0 ∈ l := fun i hi => by
    rw [List.getD_eq_getElem?_getD, List.getElem?_eq_getElem (by omega)]
    exact List.getElem_mem _
  have hlt : ∀ i, i < n → l.getD i 0 < n := fun i hi => by
    have := hp.mem_iff.1 (hget i hi)
    simpa using this
  have hinj : ∀ i k, i < n → k < n → l.getD i 0 = l.getD k 0 → i = k := fun i k hi hk e => by
    rw [List.getD_eq_getElem?_getD, List.getD_eq_getElem?_getD, List.getElem?_eq_getElem (by omega), List.getElem?_eq_getElem (by omega)] at e
    exact (List.getElem_inj hnd).1 (by simpa using e)
  have hsur : ∀ i, i < n → ∃ k, k < n ∧ l.getD k 0 = i := fun i hi => by
    have : i ∈ l := hp.mem_iff.2 (by simpa using hi)
    obtain ⟨k, hk, e⟩ := List.mem_iff_getElem.1 this
    exact ⟨k, by omega, by rw [List.getD_eq_getElem?_getD, List.getElem?_eq_getElem hk, Option.getD_some, e]⟩
  refine ⟨fun i => l.getD i 0, fun i => if h : i < n then Classical.choose (hsur i h) else 0, hlt, fun i hi => ?_, hinj, fun i k hik hk => ?_⟩
  · simp only [hi, dif_pos]
    exact Classical.choose_spec (hsur i hi)
  · have h1 := List.pairwise_iff_getElem.1 hs i k (by omega) (by omega) hik
    have h2 : q (l.getD i 0) ≤ q (l.getD k 0) := by
      rw [List.getD_eq_getElem?_getD, List.getD_eq_getElem?_getD, List.getElem?_eq_getElem (by omega), List.getElem?_eq_getElem (by omega)]
      exact of_decide_eq_true h1
    rcases Nat.lt_or_ge (q (l.getD i 0)) (q (l.getD k 0)) with h | h
    · exact h
    · have := hinj i k (by omega) hk (hq _ _ (hlt i (by omega)) (hlt k hk) (by omega))
      omega

/-- rows with columns of their own, put in order -/
theorem Red.sort {P : Int} {C n : Nat} {M : Nat → Nat → Int} {q : Nat → Nat} (h : Red P C n M q) (hr : ∀ i c, i < n → c < C → 0 ≤ M i c ∧ M i c < P) : ∃ M' q', IsRed P C n M n M' q' := by
  have hinj : ∀ i k, i < n → k < n → q i = q k → i = k := fun i k hi hk e => by
    have a := h.unit i k hi hk
    rw [← e, h.unit i i hi hi, if_pos rfl] at a
    by_cases e2 : i = k
    · exact e2
    · rw [if_neg e2] at a; cases a
  obtain ⟨τ, σ, h1, h2, h3, h4⟩ := order_ex n q hinj
  refine ⟨fun i => M (τ i), fun i => q (τ i), ⟨fun i hi => h.lt _ (h1 i hi), fun i k hi hk => ?_, fun i j hi hj => h.lead _ j (h1 i hi) hj⟩, h4, fun i c hi hc => hr _ c (h1 i hi) hc, ?_⟩
  · rw [h.unit _ _ (h1 i hi) (h1 k hk)]
    by_cases e : i = k
    · subst e; simp
    · rw [if_neg e, if_neg fun e2 => e (h3 i k hi hk e2)]
  · refine SameSp.perm σ τ (fun i hi => ⟨(h2 i hi).1, ?_⟩) (fun i hi => ⟨h1 i hi, .refl _ _ _⟩)
    rw [(h2 i hi).2]; exact .refl _ _ _

theorem El.all {p : Int} {C : Nat} {out : List (List Int)} {q : Nat → Nat} {r : List Int} (hp : 2 ≤ p) (hr : Red p C out.length (mt out) q) (h : RowOk p C r) : ∀ t, t ≤ out.length → ∃ cur, El p C out q r cur t
  | 0, _ => ⟨r, El.start h⟩
  | t + 1, ht => by
    obtain ⟨cur, hc⟩ := El.all hp hr h t (by omega)
    exact ⟨_, hc.step hp hr (by omega)⟩

/-- rows of functions as lists -/
def rowsL (n C : Nat) (M : Nat → Nat → Int) : List (List Int) := (List.range n).map fun i => (List.range C).map (M i)
theorem rowsL_length (n C : Nat) (M : Nat → Nat → Int) : (rowsL n C M).length = n := by simp [rowsL]
theorem rowsL_mt {n C i j : Nat} {M : Nat → Nat → Int} (hi : i < n) (hj : j < C) : mt (rowsL n C M) i j = M i j := by
  simp [mt, rowsL, List.getD_eq_getElem?_getD, hi, hj]
theorem rowL_ok {P : Int} {C : Nat} {r : Nat → Int} (hP : 0 < P) (hr : ∀ j, j < C → 0 ≤ r j ∧ r j < P) : RowOk P C ((List.range C).map r) := by
  refine ⟨by simp, fun j => ?_⟩
  by_cases hj : j < C
  · simpa [List.getD_eq_getElem?_getD, hj] using hr j hj
  · rw [getD_out (by simp; omega)]; omega
theorem rowsL_ok {P : Int} {n C : Nat} {M : Nat → Nat → Int} (hP : 0 < P) (hr : ∀ i j, i < n → j < C → 0 ≤ M i j ∧ M i j < P) : RowsOk P C (rowsL n C M) := fun i hi => by
  rw [rowsL_length] at hi
  have e : (rowsL n C M).getD i [] = (List.range C).map (M i) := by simp [rowsL, List.getD_eq_getElem?_getD, hi]
  rw [e]
  exact rowL_ok hP (hr i · hi)

/-- a matrix with a row behind it -/
def snocM (n : Nat) (M : Nat → Nat → Int) (r : Nat → Int) (i : Nat) : Nat → Int := if i < n then M i else r

/-- with a row more the rank is the same or one more -/
theorem HasRank.more {P : Int} {C n k : Nat} {M0 : Nat → Nat → Int} (hp : primeOk P = true) (h : HasRank P C n M0 k) (r : Nat → Int) (hr : ∀ j, j < C → 0 ≤ r j ∧ r j < P) :
    ∃ k', (k' = k ∨ k' = k + 1) ∧ HasRank P C (n + 1) (snocM n M0 r) k' := by
  obtain ⟨hP2, hP7⟩ := primeOk_range hp
  obtain ⟨M, q, h1, h2, h3, h4⟩ := h
  obtain ⟨out, hout⟩ : ∃ out, out = rowsL k C M := ⟨_, rfl⟩
  have hl : out.length = k := by rw [hout, rowsL_length]
  have hm : ∀ i j, i < k → j < C → mt out i j = M i j := fun i j hi hj => by rw [hout]; exact rowsL_mt hi hj
  have hred : Red P C out.length (mt out) q := by
    rw [hl]
    refine ⟨h1.lt, fun i m hi hm' => ?_, fun i j hi hj => ?_⟩
    · rw [hm i _ hi (h1.lt m hm')]; exact h1.unit i m hi hm'
    · have := h1.lt i hi
      rw [hm i j hi (by omega)]; exact h1.lead i j hi hj
  have hok : RowsOk P C out := by rw [hout]; exact rowsL_ok (by omega) h3
  have hrow : RowOk P C ((List.range C).map r) := rowL_ok (by omega) hr
  have hsp : SameSp P C (n + 1) (snocM n M0 r) (out.length + 1) (mt (out ++ [(List.range C).map r])) := by
    have e0 : SameSp P C n M0 out.length (mt out) := by
      rw [hl]
      exact h4.trans (SameSp.of_eqv fun i hi => .of_eq fun j hj => (hm i j hi hj).symm)
    have e1 : SameSp P C n (snocM n M0 r) out.length (mt out) := (SameSp.of_eqv fun i hi => by unfold snocM; rw [if_pos hi]; exact .refl _ _ _).trans e0
    refine SameSp.snoc e1 ?_ fun i hi => by rw [mt_snoc_lt hi]; exact .refl _ _ _
    rw [mt_snoc_at]
    unfold snocM
    rw [if_neg (Nat.lt_irrefl _)]
    exact .of_eq fun j hj => by simp [List.getD_eq_getElem?_getD, hj]
  generalize (List.range C).map r = rl at *
  obtain ⟨cur, hel⟩ := El.all (r := rl) hP2 hred hrow out.length (Nat.le_refl _)
  have hcl := hel.ok.1
  rcases pivL_cases cur with ⟨_, h0⟩ | ⟨K, _, hK, hKn, hK0⟩
  · refine ⟨k, .inl rfl, ?_⟩
    have := hsp.trans (hel.none h0)
    obtain ⟨M', q', hs⟩ := hred.sort fun i c hi hc => by rw [hl] at hi; rw [hm i c hi hc]; exact h3 i c hi hc
    rw [hl] at hs this
    exact HasRank.same ⟨M', q', hs⟩ this
  · refine ⟨k + 1, .inr rfl, ?_⟩
    have hKr := hel.ok.2 K
    obtain ⟨s, hs0, hs1, hs2⟩ := inv_ex (p := P) (x := cur.getD K 0) hp (by omega) (by omega)
    obtain ⟨t1, t2, t3⟩ := hel.more hP2 hred hok (by omega) hK0 hKn hs2
    have hlen : (clearL P K out (scaleL P s cur) out.length ++ [scaleL P s cur]).length = out.length + 1 := by simp [clearL_length]
    obtain ⟨M', q', hs⟩ := t1.sort fun i c hi hc => (t2 i (by omega)).2 c
    have hk : out.length + 1 = k + 1 := by omega
    rw [hk] at hs t3 hsp
    exact HasRank.same ⟨M', q', hs⟩ (hsp.trans t3)

/-- the ranks of the first rows -/
theorem ranks_ex {P : Int} {C : Nat} {M : Nat → Nat → Int} (hp : primeOk P = true) (R : Nat) (hr : ∀ i j, i < R → j < C → 0 ≤ M i j ∧ M i j < P) :
    ∃ f : Nat → Nat, f 0 = 0 ∧ (∀ n, n ≤ R → HasRank P C n M (f n)) ∧ ∀ n, n < R → f (n + 1) = f n ∨ f (n + 1) = f n + 1 := by
  obtain ⟨hP2, hP7⟩ := primeOk_range hp
  have hex : ∀ n, n ≤ R → ∃ k, HasRank P C n M k := by
    intro n
    induction n with
    | zero => exact fun _ => ⟨0, .zero _ _ _⟩
    | succ n ih =>
      intro hn
      obtain ⟨k, hk⟩ := ih (by omega)
      obtain ⟨k', _, hk'⟩ := hk.more hp (M n) (hr n · (by omega))
      exact ⟨k', hk'.congr fun i j hi hj => by unfold snocM; split; rfl; rw [show i = n by omega]⟩
  refine ⟨fun n => if h : n ≤ R then Classical.choose (hex n h) else 0, ?_, fun n hn => ?_, fun n hn => ?_⟩
  · simp only [Nat.zero_le, dif_pos]
    exact (Classical.choose_spec (hex 0 (Nat.zero_le _))).one hP2 (.zero _ _ _)
  · simp only [hn, dif_pos]
    exact Classical.choose_spec (hex n hn)
  · simp only [show n ≤ R by omega, show n + 1 ≤ R by omega, dif_pos]
    have h1 := Classical.choose_spec (hex n (by omega))
    have h2 := Classical.choose_spec (hex (n + 1) (by omega))
    generalize Classical.choose (hex n (by omega)) = a at *
    generalize Classical.choose (hex (n + 1) (by omega)) = b at *
    obtain ⟨k', hk, hk'⟩ := h1.more hp (M n) (hr n · hn)
    have := (hk'.congr (M1 := M) fun i j hi hj => by unfold snocM; split; rfl; rw [show i = n by omega]).one hP2 h2
    omega
theorem steps_le {f : Nat → Nat} {R : Nat} (h : ∀ n, n < R → f (n + 1) = f n ∨ f (n + 1) = f n + 1) : ∀ d n, n + d ≤ R → f n ≤ f (n + d) ∧ f (n + d) ≤ f n + d
  | 0, n, _ => ⟨Nat.le_refl _, Nat.le_refl _⟩
  | d + 1, n, hd => by
    have a := steps_le h d n (by omega)
    have b := h (n + d) (by omega)
    have e : n + (d + 1) = n + d + 1 := by omega
    rw [e]
    omega
theorem HasRank.le {P : Int} {C R k : Nat} {M : Nat → Nat → Int} (hp : primeOk P = true) (hr : ∀ i j, i < R → j < C → 0 ≤ M i j ∧ M i j < P) (h : HasRank P C R M k) : k ≤ R := by
  obtain ⟨f, f0, f1, f2⟩ := ranks_ex hp R hr
  have := h.one (primeOk_range hp).1 (f1 R (Nat.le_refl _))
  have a := steps_le f2 R 0 (by omega)
  rw [Nat.zero_add] at a
  omega
theorem asc_bound {n C : Nat} {q : Nat → Nat} (h : ∀ i k, i < k → k < n → q i < q k) (hl : ∀ i, i < n → q i < C) : n ≤ C := by
  have : ∀ i, i < n → i ≤ q i := by
    intro i
    induction i with
    | zero => exact fun _ => Nat.zero_le _
    | succ i ih =>
      intro hi
      have a := ih (by omega)
      have b := h i (i + 1) (by omega) hi
      omega
  rcases Nat.eq_zero_or_pos n with e | e
  · omega
  · have a := this (n - 1) (by omega)
    have b := hl (n - 1) (by omega)
    omega
theorem HasRank.leC {P : Int} {C R k : Nat} {M : Nat → Nat → Int} (h : HasRank P C R M k) : k ≤ C := by
  obtain ⟨M', q, h1, h2, _⟩ := h
  exact asc_bound h2 h1.lt
/-- where the rank is the number of rows, so it is for the first of them -/
theorem HasRank.part {P : Int} {C R i : Nat} {M : Nat → Nat → Int} (hp : primeOk P = true) (hr : ∀ i j, i < R → j < C → 0 ≤ M i j ∧ M i j < P) (h : HasRank P C R M R) (hi : i ≤ R) : HasRank P C i M i := by
  obtain ⟨f, f0, f1, f2⟩ := ranks_ex hp R hr
  have e := h.one (primeOk_range hp).1 (f1 R (Nat.le_refl _))
  have a := steps_le f2 i 0 (by omega)
  have b := steps_le f2 (R - i) i (by omega)
  rw [Nat.zero_add] at a
  rw [show i + (R - i) = R by omega] at b
  have := f1 i hi
  rwa [show f i = i by omega] at this

/-- the first i rows of one, and the first j rows of another one behind them -/
def stackM (i : Nat) (A B : Nat → Nat → Int) (t : Nat) : Nat → Int := if t < i then A t else B (t - i)
theorem stackM_lt {i t : Nat} {A B : Nat → Nat → Int} (h : t < i) : stackM i A B t = A t := by unfold stackM; rw [if_pos h]
theorem stackM_ge {i t : Nat} {A B : Nat → Nat → Int} (h : ¬ t < i) : stackM i A B t = B (t - i) := by unfold stackM; rw [if_neg h]
theorem snocM_lt {n t : Nat} {M : Nat → Nat → Int} {r : Nat → Int} (h : t < n) : snocM n M r t = M t := by unfold snocM; rw [if_pos h]
theorem snocM_at (n : Nat) (M : Nat → Nat → Int) (r : Nat → Int) : snocM n M r n = r := by unfold snocM; rw [if_neg (Nat.lt_irrefl _)]
theorem stackM_rng {P : Int} {C i j : Nat} {A B : Nat → Nat → Int} (ha : ∀ t c, t < i → c < C → 0 ≤ A t c ∧ A t c < P) (hb : ∀ t c, t < j → c < C → 0 ≤ B t c ∧ B t c < P) :
    ∀ t c, t < i + j → c < C → 0 ≤ stackM i A B t c ∧ stackM i A B t c < P := fun t c ht hc => by
  unfold stackM
  split
  · exact ha t c (by assumption) hc
  · exact hb _ c (by omega) hc
/-- a row more in the first one: the rank is the same or one more -/
theorem stack_step {P : Int} {C i j k k' : Nat} {A B : Nat → Nat → Int} (hp : primeOk P = true) (hr : ∀ c, c < C → 0 ≤ A i c ∧ A i c < P)
    (h : HasRank P C (i + j) (stackM i A B) k) (h' : HasRank P C (i + 1 + j) (stackM (i + 1) A B) k') : k' = k ∨ k' = k + 1 := by
  obtain ⟨m, hm, h2⟩ := h.more hp (A i) hr
  have hs : SameSp P C (i + 1 + j) (stackM (i + 1) A B) (i + j + 1) (snocM (i + j) (stackM i A B) (A i)) := by
    refine SameSp.perm (fun t => if t < i then t else if t = i then i + j else t - 1) (fun t => if t < i then t else if t = i + j then i else t + 1) (fun t ht => ?_) (fun t ht => ?_)
    · by_cases h1 : t < i
      · simp only [h1, if_true]
        rw [stackM_lt (show t < i + 1 by omega), snocM_lt (show t < i + j by omega), stackM_lt h1]
        exact ⟨by omega, .refl _ _ _⟩
      · by_cases h2 : t = i
        · subst h2
          simp only [h1, if_false, if_true]
          rw [stackM_lt (show t < t + 1 by omega), snocM_at]
          exact ⟨by omega, .refl _ _ _⟩
        · simp only [h1, h2, if_false]
          rw [stackM_ge (show ¬ t < i + 1 by omega), snocM_lt (show t - 1 < i + j by omega), stackM_ge (show ¬ t - 1 < i by omega), show t - (i + 1) = t - 1 - i by omega]
          exact ⟨by omega, .refl _ _ _⟩
    · by_cases h1 : t < i
      · simp only [h1, if_true]
        rw [snocM_lt (show t < i + j by omega), stackM_lt h1, stackM_lt (show t < i + 1 by omega)]
        exact ⟨by omega, .refl _ _ _⟩
      · by_cases h2 : t = i + j
        · subst h2
          simp only [h1, if_false, if_true]
          rw [snocM_at, stackM_lt (show i < i + 1 by omega)]
          exact ⟨by omega, .refl _ _ _⟩
        · simp only [h1, h2, if_false]
          rw [snocM_lt (show t < i + j by omega), stackM_ge h1, stackM_ge (show ¬ t + 1 < i + 1 by omega), show t + 1 - (i + 1) = t - i by omega]
          exact ⟨by omega, .refl _ _ _⟩
  have := h'.one (primeOk_range hp).1 (h2.same hs)
  omega

end Go.Proofs.Ytpfefjdefopccaa

namespace Go.Proofs.Ytpfefjdefopccaa
set_option linter.all false
open Go.RowKit

/-- it is a flag -/
def IsFl (P R C : Int) (D : List Int) : Prop := mxOk P R C D = true ∧ R = C ∧ RkIs P R C D R
theorem fk_yes {P R C : Int} {D : List Int} (h : IsFl P R C D) : Classical.epsilon (FkIs P R C D) = true := (FkIs.eps (b := true) ⟨fun _ => h, fun _ => rfl⟩).symm
theorem fk_no {P R C : Int} {D : List Int} (h : ¬ IsFl P R C D) : Classical.epsilon (FkIs P R C D) = false := (FkIs.eps (b := false) ⟨fun e => (by cases e), fun h2 => absurd h2 h⟩).symm

theorem implFlag_yes (P R C : Int) (d : Value) (D : List Int) (h : IsFl P R C D) (w : World) (hd : Ints w d D) :
    Calls Try.prog 18 #[.agg #[.int .i64 P, .int .i64 R, .int .i64 C, d]] w fun e w' => e = .returned (.bool true) ∧ Below w.heap.size w w' := by
  have := implFlagOk_any P R C d D w hd
  rwa [fk_yes h] at this
theorem implFlag_no (P R C : Int) (d : Value) (D : List Int) (h : ¬ IsFl P R C D) (w : World) (hd : Ints w d D) :
    Calls Try.prog 18 #[.agg #[.int .i64 P, .int .i64 R, .int .i64 C, d]] w fun e w' => e = .returned (.bool false) ∧ Below w.heap.size w w' := by
  have := implFlagOk_any P R C d D w hd
  rwa [fk_no h] at this

theorem IsFl.facts {P R C : Int} {D : List Int} (h : IsFl P R C D) : ∃ n : Nat, R = n ∧ C = n ∧ 1 ≤ n ∧ n ≤ 7 ∧ D.length = n * n ∧ (∀ x ∈ D, 0 ≤ x ∧ x < P) ∧ 2 ≤ P ∧ P ≤ 7 ∧ primeOk P = true ∧ HasRank P n n (mf n fun t => D.getD t 0) n := by
  obtain ⟨h1, h2, h3⟩ := h
  obtain ⟨r, c, rfl, rfl, hr, hc0, hc, hlD, hD, hP2, hP7, hpr⟩ := mxOk_facts h1
  obtain rfl := Int.ofNat.inj h2
  unfold RkIs at h3
  rw [if_pos h1] at h3
  obtain ⟨n, e, _, hn⟩ := h3
  obtain rfl := Int.ofNat.inj e
  simp only [Int.toNat_natCast] at hn
  exact ⟨r, rfl, rfl, hc0, hc, hlD, hD, hP2, hP7, hpr, hn⟩

end Go.Proofs.Ytpfefjdefopccaa

namespace Go.Proofs.Ytpfefjdefopccaa
set_option linter.all false
open Go.RowKit

/-- a row r less multiples of the first k rows of X, such that it has 0 where they begin -/
def elN (P : Int) (X : Nat → Nat → Int) (q : Nat → Nat) (r : Nat → Int) : Nat → Nat → Int
  | 0, j => r j
  | k + 1, j => (elN P X q r k j + (P - elN P X q r k (q k)) * X k j) % P
theorem elN_congr {P : Int} {n : Nat} {X X' : Nat → Nat → Int} {q q' : Nat → Nat} {r : Nat → Int} : ∀ k, (∀ l, l < k → q l < n) → (∀ l, l < k → q l = q' l) → (∀ l j, l < k → j < n → X l j = X' l j) → ∀ j, j < n → elN P X q r k j = elN P X' q' r k j
  | 0, _, _, _, j, _ => rfl
  | k + 1, h0, h1, h2, j, hj => by
    have ih := elN_congr (P := P) (r := r) k (fun l hl => h0 l (by omega)) (fun l hl => h1 l (by omega)) (fun l j hl hj => h2 l j (by omega) hj)
    unfold elN
    rw [ih j hj, ih (q k) (h0 k (by omega)), h1 k (by omega), h2 k j (by omega) hj]
theorem elN_rng {P : Int} {n : Nat} {X : Nat → Nat → Int} {q : Nat → Nat} {r : Nat → Int} (hP : 2 ≤ P) (hr : ∀ j, j < n → 0 ≤ r j ∧ r j < P) : ∀ k j, j < n → 0 ≤ elN P X q r k j ∧ elN P X q r k j < P
  | 0, j, hj => hr j hj
  | k + 1, j, _ => ⟨Int.emod_nonneg _ (by omega), Int.emod_lt_of_pos _ (by omega)⟩

/-- row k of the normal form -/
def NfRow (P : Int) (n : Nat) (M0 X : Nat → Nat → Int) (q : Nat → Nat) (k : Nat) : Prop :=
  q k < n ∧ (∀ j, j < q k → elN P X q (M0 k) k j = 0) ∧ elN P X q (M0 k) k (q k) ≠ 0 ∧ ∃ v : Int, v * elN P X q (M0 k) k (q k) % P = 1 ∧ ∀ j, j < n → X k j = v * elN P X q (M0 k) k j % P
def NfUp (P : Int) (n : Nat) (M0 X : Nat → Nat → Int) (q : Nat → Nat) (i : Nat) : Prop := ∀ k, k < i → NfRow P n M0 X q k
theorem inv_one {P x v v' y : Int} (h : v * x % P = 1) (h' : v' * x % P = 1) : v * y % P = v' * y % P := by
  have h1 : P ∣ v * x - 1 := by have := Int.dvd_self_sub_emod (x := v * x) (m := P); rwa [h] at this
  have h2 : P ∣ v' * x - 1 := by have := Int.dvd_self_sub_emod (x := v' * x) (m := P); rwa [h'] at this
  have h3 : P ∣ v - v' := by
    have a : P ∣ v' * (v * x - 1) := Int.dvd_mul_of_dvd_right h1
    have b : P ∣ v * (v' * x - 1) := Int.dvd_mul_of_dvd_right h2
    have e : v * (v' * x - 1) - v' * (v * x - 1) = -(v - v') := by
      have c : v * (v' * x) = v' * (v * x) := by rw [← Int.mul_assoc, ← Int.mul_assoc, Int.mul_comm v v']
      rw [Int.mul_sub, Int.mul_sub, c, Int.mul_one, Int.mul_one]
      omega
    have := Int.dvd_sub b a
    rw [e] at this
    have := Int.dvd_neg.2 this
    rwa [Int.neg_neg] at this
  have h4 : P ∣ v * y - v' * y := by rw [← Int.sub_mul]; exact Int.dvd_mul_of_dvd_left h3
  exact Int.emod_eq_emod_iff_emod_sub_eq_zero.2 (Int.emod_eq_zero_of_dvd h4)
theorem NfUp.one {P : Int} {n : Nat} {M0 X X' : Nat → Nat → Int} {q q' : Nat → Nat} (hP : 2 ≤ P) : ∀ i, NfUp P n M0 X q i → NfUp P n M0 X' q' i → (∀ k, k < i → q k = q' k) ∧ ∀ k j, k < i → j < n → X k j = X' k j
  | 0, _, _ => ⟨fun k hk => absurd hk (Nat.not_lt_zero _), fun k j hk => absurd hk (Nat.not_lt_zero _)⟩
  | i + 1, h, h' => by
    obtain ⟨h1, h2⟩ := NfUp.one hP i (fun k hk => h k (by omega)) (fun k hk => h' k (by omega))
    obtain ⟨a1, a2, a3, v, a4, a5⟩ := h i (by omega)
    obtain ⟨b1, b2, b3, v', b4, b5⟩ := h' i (by omega)
    have he := elN_congr (P := P) (r := M0 i) i (fun l hl => (h l (by omega)).1) h1 h2
    have hq : q i = q' i := by
      rcases Nat.lt_trichotomy (q i) (q' i) with hlt | e | hlt
      · exact absurd (by rw [he _ a1]; exact b2 _ hlt) a3
      · exact e
      · exact absurd (by rw [← he _ b1]; exact a2 _ hlt) b3
    refine ⟨fun k hk => ?_, fun k j hk hj => ?_⟩
    · by_cases e : k = i
      · subst e; exact hq
      · exact h1 k (by omega)
    · by_cases e : k = i
      · subst e
        rw [a5 j hj, b5 j hj, he j hj]
        rw [he _ a1, hq] at a4
        exact inv_one a4 b4
      · exact h2 k j (by omega) hj
theorem NfUp.rng {P : Int} {n i : Nat} {M0 X : Nat → Nat → Int} {q : Nat → Nat} (hP : 2 ≤ P) (h : NfUp P n M0 X q i) : ∀ k j, k < i → j < n → 0 ≤ X k j ∧ X k j < P := fun k j hk hj => by
  obtain ⟨_, _, _, v, _, a5⟩ := h k hk
  rw [a5 j hj]
  exact ⟨Int.emod_nonneg _ (by omega), Int.emod_lt_of_pos _ (by omega)⟩
/-- the row with others spans what it spanned -/
theorem elN_same {P : Int} {n i : Nat} {X : Nat → Nat → Int} {q : Nat → Nat} {r : Nat → Int} : ∀ t, t ≤ i → SameSp P n (i + 1) (snocM i X r) (i + 1) (snocM i X (elN P X q r t))
  | 0, _ => .of_eqv fun k hk => .of_eq fun j hj => by
    unfold snocM
    split <;> rfl
  | t + 1, ht => by
    refine (elN_same (q := q) t (by omega)).trans (SameSp.elim t (by omega) (fun k => if k = i then P - elN P X q r t (q t) else 0) ?_ fun k hk hne => ?_)
    · rw [snocM_lt (by omega), snocM_lt (by omega)]; exact .refl _ _ _
    · by_cases e : k = i
      · subst e
        simp only [if_true]
        rw [snocM_at, snocM_at, snocM_lt (show t < k by omega)]
        exact Eqv.emod (p := P) (C := n) (fun j => elN P X q r t j + (P - elN P X q r t (q t)) * X t j)
      · simp only [e, if_false]
        rw [snocM_lt (by omega), snocM_lt (by omega)]
        exact .of_eq fun j _ => by omega
theorem SameSp.snocR {P : Int} {C i : Nat} {M X : Nat → Nat → Int} (h : SameSp P C i M i X) : SameSp P C (i + 1) M (i + 1) (snocM i X (M i)) :=
  h.snoc (by rw [snocM_at]; exact .refl _ _ _) fun k hk => by rw [snocM_lt hk]; exact .refl _ _ _
theorem NfUp.same {P : Int} {n : Nat} {M0 X : Nat → Nat → Int} {q : Nat → Nat} (hP : 2 ≤ P) : ∀ i, NfUp P n M0 X q i → SameSp P n i M0 i X
  | 0, _ => ⟨fun k hk => absurd hk (Nat.not_lt_zero _), fun k hk => absurd hk (Nat.not_lt_zero _)⟩
  | i + 1, h => by
    have ih := NfUp.same hP i (fun k hk => h k (by omega))
    obtain ⟨a1, a2, a3, v, a4, a5⟩ := h i (by omega)
    refine (ih.snocR.trans (elN_same (q := q) i (Nat.le_refl _))).trans (SameSp.scale i (by omega) v (elN P X q (M0 i) i (q i)) ?_ ?_ fun k hk hne => ?_)
    · have := Int.dvd_self_sub_emod (x := v * elN P X q (M0 i) i (q i)) (m := P)
      rwa [a4] at this
    · rw [snocM_at]
      intro j hj
      rw [a5 j hj]
      exact Eqv.emod (p := P) (C := n) (fun j => v * elN P X q (M0 i) i j) j hj
    · rw [snocM_lt (by omega)]; exact .refl _ _ _
/-- of a flag, something is left of the row -/
theorem NfUp.left {P : Int} {n i : Nat} {M0 X : Nat → Nat → Int} {q : Nat → Nat} (hp : primeOk P = true) (hM : ∀ k j, j < n → 0 ≤ M0 k j ∧ M0 k j < P) (hn : HasRank P n n M0 n) (h : NfUp P n M0 X q i) (hi : i < n) : ¬ ∀ j, j < n → elN P X q (M0 i) i j = 0 := fun h0 => by
  have hP := (primeOk_range hp).1
  have h1 := hn.part hp (fun k j _ hj => hM k j hj) (show i + 1 ≤ n by omega)
  have h2 := (NfUp.same hP i h).snocR.trans (elN_same (q := q) i (Nat.le_refl _))
  have h3 : SameSp P n i X (i + 1) (snocM i X (elN P X q (M0 i) i)) := by
    refine ⟨fun k hk => ?_, fun k hk => ?_⟩
    · have : Sp P n (i + 1) (snocM i X (elN P X q (M0 i) i)) (snocM i X (elN P X q (M0 i) i) k) := .row (by omega)
      rwa [snocM_lt hk] at this
    · by_cases e : k < i
      · rw [snocM_lt e]; exact .row e
      · obtain rfl : k = i := by omega
        rw [snocM_at]
        exact Sp.zero.eqv (.of_eq fun j hj => (h0 j hj).symm)
  have h4 := (h1.same h2.symm).same h3
  have := h4.le hp (h.rng hP)
  omega
theorem NfUp.snoc {P : Int} {n i : Nat} {M0 X X' : Nat → Nat → Int} {q q' : Nat → Nat} (h : NfUp P n M0 X q i) (hX : ∀ k j, k < i → j < n → X' k j = X k j) (hq : ∀ k, k < i → q' k = q k) (hr : NfRow P n M0 X' q' i) : NfUp P n M0 X' q' (i + 1) := fun k hk => by
  by_cases e : k = i
  · subst e; exact hr
  · have hki : k < i := by omega
    obtain ⟨a1, a2, a3, v, a4, a5⟩ := h k hki
    have he := elN_congr (P := P) (r := M0 k) k (fun l hl => (h l (by omega)).1) (fun l hl => (hq l (by omega)).symm) (fun l j hl hj => (hX l j (by omega) hj).symm)
    refine ⟨by rw [hq k hki]; exact a1, fun j hj => ?_, ?_, v, ?_, fun j hj => ?_⟩
    · rw [hq k hki] at hj; rw [← he j (by omega)]; exact a2 j hj
    · rw [hq k hki, ← he _ a1]; exact a3
    · rw [hq k hki, ← he _ a1]; exact a4
    · rw [hX k j hki hj, ← he j hj]; exact a5 j hj

end Go.Proofs.Ytpfefjdefopccaa

namespace Go.Proofs.Ytpfefjdefopccaa
set_option linter.all false

theorem Sp.narrow {p : Int} {C C' n : Nat} {M : Nat → Nat → Int} {v : Nat → Int} (h : Sp p C n M v) (hC : C' ≤ C) : Sp p C' n M v := by
  induction h with
  | zero => exact .zero
  | add c i hi _ ih => exact .add c i hi ih
  | eqv _ e ih => exact ih.eqv fun j hj => e j (by omega)
theorem Sp.mono {p : Int} {C n n' : Nat} {M : Nat → Nat → Int} {v : Nat → Int} (h : Sp p C n M v) (hn : n ≤ n') : Sp p C n' M v :=
  h.trans fun i hi => .row (by omega)
theorem Sp.congr {p : Int} {C n : Nat} {M M' : Nat → Nat → Int} {v : Nat → Int} (h : Sp p C n M v) (e : ∀ i, i < n → Eqv p C (M i) (M' i)) : Sp p C n M' v :=
  h.trans fun i hi => (Sp.row hi).eqv (e i hi).symm
theorem Sp.sub {p : Int} {C n : Nat} {M : Nat → Nat → Int} {u v : Nat → Int} (h : Sp p C n M u) (h2 : Sp p C n M v) : Sp p C n M (fun j => u j - v j) :=
  (h.comb (-1) h2).eqv (.of_eq fun j _ => by omega)
/-- a sum over rows, with numbers before them -/
theorem Sp.coef {p : Int} {C n : Nat} {M : Nat → Nat → Int} {v : Nat → Int} (h : Sp p C n M v) : ∃ c : Nat → Int, ∀ j, j < C → p ∣ v j - sm n (fun i => c i * M i j) := by
  induction h with
  | zero => exact ⟨fun _ => 0, fun j _ => by rw [sm_congr (g := fun _ => 0) (fun i _ => by simp), sm_zero]; simp⟩
  | @add v c i hi _ ih =>
    obtain ⟨d, hd⟩ := ih
    refine ⟨fun k => d k + c * if i = k then 1 else 0, fun j hj => ?_⟩
    have e : sm n (fun k => (d k + c * if i = k then 1 else 0) * M k j) = sm n (fun k => d k * M k j) + c * M i j := by
      rw [← sm_one n i hi c (fun k => M k j), ← sm_add]
      exact sm_congr fun k _ => by rw [Int.add_mul]
    rw [e]
    have := hd j hj
    rwa [show ∀ a b x : Int, a + x - (b + x) = a - b by intros; omega]
  | eqv _ e ih =>
    obtain ⟨d, hd⟩ := ih
    refine ⟨d, fun j hj => ?_⟩
    have := Int.dvd_sub (hd j hj) (e j hj)
    rwa [show ∀ a b x : Int, a - x - (a - b) = b - x by intros; omega] at this
theorem sp_sm {p : Int} {C n m : Nat} {M : Nat → Nat → Int} (c : Nat → Int) (hm : m ≤ n) : Sp p C n M (fun j => sm m (fun i => c i * M i j)) := by
  induction m with
  | zero => exact .zero
  | succ m ih => exact .add (c m) m (by omega) (ih (by omega))
theorem Sp.of_coef {p : Int} {C n : Nat} {M : Nat → Nat → Int} {v : Nat → Int} (c : Nat → Int) (h : ∀ j, j < C → p ∣ v j - sm n (fun i => c i * M i j)) : Sp p C n M v :=
  (sp_sm c (Nat.le_refl n)).eqv fun j hj => by
    have := Int.dvd_neg.2 (h j hj)
    rwa [Int.neg_sub] at this
theorem sm_split (a b : Nat) (f : Nat → Int) : sm (a + b) f = sm a f + sm b (fun i => f (a + i)) := by
  induction b with
  | zero => simp [sm]
  | succ b ih => rw [← Nat.add_assoc, sm, sm, ih]; omega

/-- the rows are independent -/
def Indep (p : Int) (C n : Nat) (M : Nat → Nat → Int) : Prop := ∀ c : Nat → Int, (∀ j, j < C → p ∣ sm n (fun i => c i * M i j)) → ∀ i, i < n → p ∣ c i
theorem Indep.part {p : Int} {C n m : Nat} {M : Nat → Nat → Int} (h : Indep p C n M) (hm : m ≤ n) : Indep p C m M := fun c hc i hi => by
  have := h (fun k => if k < m then c k else 0) (fun j hj => ?_) i (by omega)
  · simpa [hi] using this
  · obtain ⟨d, rfl⟩ : ∃ d, n = m + d := ⟨n - m, by omega⟩
    have e1 : sm d (fun k => (if m + k < m then c (m + k) else 0) * M (m + k) j) = 0 := (sm_congr (g := fun _ => 0) fun k _ => by simp [show ¬ m + k < m by omega]).trans (sm_zero d)
    have e2 : sm m (fun k => (if k < m then c k else 0) * M k j) = sm m (fun k => c k * M k j) := sm_congr fun k hk => by simp [hk]
    rw [sm_split, e1, e2, Int.add_zero]
    exact hc j hj
/-- a reduced form's rows are -/
theorem Red.indep {p : Int} {C n : Nat} {M : Nat → Nat → Int} {q : Nat → Nat} (h : Red p C n M q) : Indep p C n M := fun c hc i hi => by
  have := hc (q i) (h.lt i hi)
  rw [sm_congr (g := fun k => (c i * if i = k then 1 else 0) * (fun _ => 1) k) (fun k hk => ?_), sm_one n i hi] at this
  · simpa using this
  · rw [h.unit k i hk hi]
    by_cases e : i = k
    · subst e; simp
    · simp [e, show ¬ k = i from fun x => e x.symm]

/-- ascending from below n to below n': no more -/
theorem asc_into {n n' : Nat} {s : Nat → Nat} (h : ∀ i k, i < k → k < n → s i < s k) (hl : ∀ i, i < n → s i < n') : n ≤ n' := asc_bound h hl
theorem asc_same {n : Nat} {s : Nat → Nat} (h : ∀ i k, i < k → k < n → s i < s k) (hl : ∀ i, i < n → s i < n) : ∀ i, i < n → s i = i := by
  have lo : ∀ i, i < n → i ≤ s i := by
    intro i
    induction i with
    | zero => exact fun _ => Nat.zero_le _
    | succ i ih =>
      intro hi
      have a := ih (by omega)
      have b := h i (i + 1) (by omega) hi
      omega
  have hi' : ∀ d i, i < n → n - 1 - i = d → s i ≤ i := by
    intro d
    induction d with
    | zero => intro i hi e; have := hl i hi; omega
    | succ d ih =>
      intro i hi e
      have a := ih (i + 1) (by omega) (by omega)
      have b := h i (i + 1) (by omega) (by omega)
      omega
  intro i hi
  have := lo i hi
  have := hi' _ i hi rfl
  omega

/-- the columns of a span within another one -/
theorem red_cols {p : Int} {C n n' : Nat} {M M' : Nat → Nat → Int} {q q' : Nat → Nat} (hp : 2 ≤ p) (h : Red p C n M q) (h' : Red p C n' M' q') (ha : ∀ i k, i < k → k < n → q i < q k) (ha' : ∀ i k, i < k → k < n' → q' i < q' k)
    (hs : ∀ i, i < n' → Sp p C n M (M' i)) : ∃ s : Nat → Nat, (∀ k, k < n' → s k < n ∧ q (s k) = q' k) ∧ ∀ i k, i < k → k < n' → s i < s k := by
  have hc : ∀ k, ∃ i, k < n' → i < n ∧ q i = q' k := fun k => by
    by_cases hk : k < n'
    · obtain ⟨i, hi, e⟩ := Red.cols h h' hp hs hk
      exact ⟨i, fun _ => ⟨hi, e⟩⟩
    · exact ⟨0, fun x => absurd x hk⟩
  refine ⟨fun k => Classical.choose (hc k), fun k hk => Classical.choose_spec (hc k) hk, fun i k hik hk => ?_⟩
  have a := Classical.choose_spec (hc i) (by omega)
  have b := Classical.choose_spec (hc k) hk
  have := ha' i k hik hk
  rw [← a.2, ← b.2] at this
  show Classical.choose (hc i) < Classical.choose (hc k)
  generalize Classical.choose (hc i) = x at *
  generalize Classical.choose (hc k) = y at *
  rcases Nat.lt_or_ge x y with e | e
  · exact e
  · rcases Nat.lt_or_eq_of_le e with e | e
    · have := ha y x e a.1; omega
    · subst e; omega
/-- no greater rank -/
theorem IsRed.le {P : Int} {C R R' n n' : Nat} {M0 M1 M M' : Nat → Nat → Int} {q q' : Nat → Nat} (hP : 2 ≤ P) (h : IsRed P C R M0 n M q) (h' : IsRed P C R' M1 n' M' q') (hs : ∀ i, i < R' → Sp P C R M0 (M1 i)) : n' ≤ n := by
  have hs' : ∀ i, i < n' → Sp P C n M (M' i) := fun i hi => ((h'.2.2.2.2 i hi).trans hs).trans h.2.2.2.1
  obtain ⟨s, h1, h2⟩ := red_cols hP h.1 h'.1 h.2.1 h'.2.1 hs'
  exact asc_into h2 fun k hk => (h1 k hk).1
theorem HasRank.le_of_sub {P : Int} {C R R' n n' : Nat} {M0 M1 : Nat → Nat → Int} (hP : 2 ≤ P) (h : HasRank P C R M0 n) (h' : HasRank P C R' M1 n') (hs : ∀ i, i < R' → Sp P C R M0 (M1 i)) : n' ≤ n := by
  obtain ⟨M, q, h⟩ := h
  obtain ⟨M', q', h'⟩ := h'
  exact h.le hP h' hs
/-- a span within another one of the same rank is the same -/
theorem HasRank.same_of_sub {P : Int} {C R R' n : Nat} {M0 M1 : Nat → Nat → Int} (hP : 2 ≤ P) (h : HasRank P C R M0 n) (h' : HasRank P C R' M1 n) (hs : ∀ i, i < R' → Sp P C R M0 (M1 i)) : SameSp P C R' M1 R M0 := by
  obtain ⟨M, q, h⟩ := h
  obtain ⟨M', q', h'⟩ := h'
  have hs' : ∀ i, i < n → Sp P C n M (M' i) := fun i hi => ((h'.2.2.2.2 i hi).trans hs).trans h.2.2.2.1
  obtain ⟨s, h1, h2⟩ := red_cols hP h.1 h'.1 h.2.1 h'.2.1 hs'
  have h3 := asc_same h2 fun k hk => (h1 k hk).1
  have hq : ∀ k, k < n → q' k = q k := fun k hk => by have := (h1 k hk).2; rw [h3 k hk] at this; exact this.symm
  refine ⟨hs, fun i hi => ?_⟩
  -- a row of the greater one, less its part in the smaller one, has 0 at all columns
  have hrow : ∀ v, Sp P C n M v → Sp P C n M' v := fun v hv => by
    have hd : Sp P C n M (fun j => v j - sm n (fun i => v (q i) * M' i j)) := hv.sub ((sp_sm _ (Nat.le_refl n)).trans hs')
    have hz : ∀ k, k < n → P ∣ v (q k) - sm n (fun i => v (q i) * M' i (q k)) := fun k hk => by
      rw [sm_congr (g := fun i => (v (q k) * if k = i then 1 else 0) * (fun _ => 1) i) (fun i hi => ?_), sm_one n k hk]
      · simp
      · rw [← hq k hk, h'.1.unit i k hi hk]
        by_cases e : k = i
        · subst e; simp [hq k hk]
        · simp [e, show ¬ i = k from fun x => e x.symm]
    refine .of_coef (fun i => v (q i)) fun j hj => ?_
    have hco := h.1.coord hd j hj
    have : P ∣ sm n (fun i => (v (q i) - sm n (fun t => v (q t) * M' t (q i))) * M i j) := sm_dvd fun i hi => Int.dvd_mul_of_dvd_left (hz i hi)
    have := Int.dvd_add hco this
    rwa [Int.sub_add_cancel] at this
  exact (hrow _ (h.2.2.2.1 i hi)).trans h'.2.2.2.2
/-- independent rows are as many as the rank -/
theorem Indep.rank {P : Int} {C R : Nat} {M0 : Nat → Nat → Int} (hp : primeOk P = true) (hr : ∀ i j, i < R → j < C → 0 ≤ M0 i j ∧ M0 i j < P) (h : Indep P C R M0) : HasRank P C R M0 R := by
  obtain ⟨hP, _⟩ := primeOk_range hp
  obtain ⟨f, f0, f1, f2⟩ := ranks_ex hp R hr
  have h3 : ∀ n, n < R → f (n + 1) = f n + 1 := fun n hn => by
    rcases f2 n hn with e | e
    · exfalso
      have a := f1 n (by omega)
      have b := f1 (n + 1) hn
      rw [e] at b
      have hs := b.same_of_sub hP a fun i hi => .row (by omega)
      obtain ⟨c, hc⟩ := (hs.2 n (by omega)).coef
      have := h.part hn (fun k => if k = n then 1 else - c k) (fun j hj => ?_) n (by omega)
      · simp at this
        exact Red.not_dvd_one hP this
      · have := hc j hj
        rw [sm]
        simp only [if_true, Int.one_mul]
        rw [sm_congr (g := fun i => 0 - c i * M0 i j) (fun k hk => by rw [if_neg (by omega), Int.neg_mul]; omega), ← sm_sub, sm_zero]
        rwa [show ∀ a b : Int, 0 - a + b = b - a by intros; omega]
    · exact e
  have h4 : ∀ n, n ≤ R → f n = n := by
    intro n
    induction n with
    | zero => exact fun _ => f0
    | succ n ih => intro hn; rw [h3 n hn, ih (by omega)]
  have := f1 R (Nat.le_refl _)
  rwa [h4 R (Nat.le_refl _)] at this

end Go.Proofs.Ytpfefjdefopccaa
