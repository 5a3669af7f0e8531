/-
  IsSpace, on both sides.
-/
import Derived.Test.YtmnlpkmnbjoicaaSpan
import Derived.Test.YtmnlpkmnbjoicaaSame
namespace Go.Proofs.Ytmnlpkmnbjoicaa
set_option linter.all false
open Go.RowKit

/-- what IsSpace returns: is the matrix the reduced form of its own span? -/
def IkIs (P R C : Int) (D : List Int) (b : Bool) : Prop := b = true ↔ mxOk P R C D = true ∧ SpIs P R C D ⟨P, R, C, D⟩
theorem IkIs.one {P R C : Int} {D : List Int} {b b' : Bool} (h : IkIs P R C D b) (h' : IkIs P R C D b') : b = b' := by
  unfold IkIs at h h'
  have e : b = true ↔ b' = true := h.trans h'.symm
  cases b <;> cases b' <;> simp_all
theorem IkIs.eps {P R C : Int} {D : List Int} {b : Bool} (h : IkIs P R C D b) : b = Classical.epsilon (IkIs P R C D) := h.one (Classical.epsilon_spec ⟨b, h⟩)
theorem IkIs.no {P R C : Int} {D : List Int} (h : mxOk P R C D = false) : IkIs P R C D false := by
  unfold IkIs; simp [h]
theorem IkIs.same {P R C n : Int} {D L : List Int} (h : mxOk P R C D = true) (hs : SpIs P R C D ⟨P, n, C, L⟩) : IkIs P R C D (mxSame P R C D P n C L) := by
  unfold IkIs
  constructor
  · intro e
    obtain ⟨_, e2, _, e4⟩ := of_decide_eq_true e
    subst e2 e4
    exact ⟨h, hs⟩
  · rintro ⟨_, h2⟩
    have e := h2.one hs
    injection e with _ e2 _ e4
    exact decide_eq_true ⟨rfl, e2, rfl, e4⟩
theorem IkIs.eql {P R C mP mR mC : Int} {D L : List Int} (h : mxOk P R C D = true) (hs : SpIs P R C D ⟨mP, mR, mC, L⟩) : IkIs P R C D (decide (L = D)) := by
  unfold IkIs
  constructor
  · intro e
    have e := of_decide_eq_true e
    refine ⟨h, ?_⟩
    have hs2 := hs
    unfold SpIs at hs2
    rw [if_pos h] at hs2
    obtain ⟨n, M, q, _, _, e5⟩ := hs2
    injection e5 with e6 e7 e8 e9
    obtain ⟨r, c, rfl, rfl, _, hc0, _, hlD, _⟩ := mxOk_facts h
    have hl : n * c = r * c := by
      rw [← hlD, ← e, e9, flatM_length]
      simp
    have hn : n = r := Nat.eq_of_mul_eq_mul_right (by omega) hl
    rw [e6, e7, e8, e, hn] at hs
    exact hs
  · rintro ⟨_, h2⟩
    have e := h2.one hs
    injection e with _ _ _ e4
    exact decide_eq_true e4.symm

set_option maxRecDepth 100000 in
set_option maxHeartbeats 16000000 in
theorem implIsSpace_ex (P R C : Int) (d : Value) (D : List Int) (w : World) (hd : Ints w d D) :
    Calls Try.prog 10 #[.agg #[.int .i64 P, .int .i64 R, .int .i64 C, d]] w fun e w' => ∃ r, e = .returned (.bool r) ∧ IkIs P R C D r ∧ Below w.heap.size w w' := by
  have Hd := Lib.hid hd
  obtain ⟨p, cap, rfl, ⟨_, mx⟩, _⟩ := hd
  unfold maxLen at mx
  cases h1 : mxOk P R C D with
  | false =>
    have H1 := Lib.hid h1
    clear h1
    have Z := Lib.hid (heap_alloc_top w (.cells #[.int .i64 P, .int .i64 R, .int .i64 C, .slice p D.length cap] 26))
    have Hd0 := Lib.hid (Hd.out.below (below_alloc w (.cells #[.int .i64 P, .int .i64 R, .int .i64 C, .slice p D.length cap] 26)))
    have Hba := Lib.hid (below_alloc w (.cells #[.int .i64 P, .int .i64 R, .int .i64 C, .slice p D.length cap] 26))
    go_enter Try.func10, Try.ntmps10
    go_wp2_with fail
    generalize w.alloc (.cells #[.int .i64 P, .int .i64 R, .int .i64 C, .slice p D.length cap] 26) = wa at *
    obtain ⟨c0, c1, c2, c3, cf, cz⟩ := blk4 Z.out
    refine wp_region_held_drew (S := (fun w' => (w'.cell? ⟨w.heap.size, 0, none⟩ = some (.int .i64 P) ∧ w'.cell? ⟨w.heap.size, 1, none⟩ = some (.int .i64 R) ∧ w'.cell? ⟨w.heap.size, 2, none⟩ = some (.int .i64 C) ∧ w'.cell? ⟨w.heap.size, 3, none⟩ = some (.slice p D.length cap)) ∧ Below wa.heap.size wa w')) (by kernel_rfl) ?_ (fun hHeld => ?_)
    · exact ⟨⟨c0, c1, c2, c3⟩, (Below.refl _ _).drew⟩
    refine wpAnyH_take (i := 0) (v := .agg #[.int .i64 P, .int .i64 R, .int .i64 C, .slice p D.length cap]) rfl (by kernel_rfl) (by kernel_rfl) (by kernel_rfl) (fun _ _ _ h => h) (Or.inl ⟨by rfl, fun w hSw => by dsimp only at hSw; go_simp⟩) (by assumption) ?_
    simp only [Act.put, List.getElem_toArray, List.getElem_cons_succ, List.getElem_cons_zero, List.setIfInBounds_toArray, List.set_cons_zero, List.set_cons_succ]
    refine wpAnyH_ready (rs := [1]) (by kernel_rfl) (by simp) ?_
    refine AllReadyH.cons rfl (fun K hK => ?_) AllReadyH.nil
    go_simp
    refine (implMatrixOk_b _ _ _ _ _ _ H1.out _ (Hd0.out.below (Below.refl _ _).drew)).mono ?_
    rintro e w' ⟨rfl, hb1⟩
    go_wp2_with fail
    refine hK.out _ _ ?_ (fun hHeld => ?_)
    · exact keep4 hb1 (by assumption)
    clear hK K
    try simp only [Act.put, List.getElem_toArray, List.getElem_cons_succ, List.getElem_cons_zero, List.setIfInBounds_toArray, List.set_cons_zero, List.set_cons_succ]
    refine wpAnyH_take (i := 2) (v := .bool false) rfl (by kernel_rfl) (by kernel_rfl) (by kernel_rfl) (fun _ _ _ h => h) (Or.inl ⟨by rfl, fun w hSw => by dsimp only at hSw; go_simp⟩) (by assumption) ?_
    simp only [Act.put, List.getElem_toArray, List.getElem_cons_succ, List.getElem_cons_zero, List.setIfInBounds_toArray, List.set_cons_zero, List.set_cons_succ]
    refine wpAnyH_take (i := 3) (v := undef) rfl (by kernel_rfl) (by kernel_rfl) (by kernel_rfl) (fun _ _ _ h => h) (Or.inr ⟨by rfl, rfl⟩) (by assumption) ?_
    simp only [Act.put, List.getElem_toArray, List.getElem_cons_succ, List.getElem_cons_zero, List.setIfInBounds_toArray, List.set_cons_zero, List.set_cons_succ]
    refine wpAnyH_take (i := 4) (v := undef) rfl (by kernel_rfl) (by kernel_rfl) (by kernel_rfl) (fun _ _ _ h => h) (Or.inr ⟨by rfl, rfl⟩) (by assumption) ?_
    simp only [Act.put, List.getElem_toArray, List.getElem_cons_succ, List.getElem_cons_zero, List.setIfInBounds_toArray, List.set_cons_zero, List.set_cons_succ]
    refine wpAnyH_take (i := 5) (v := undef) rfl (by kernel_rfl) (by kernel_rfl) (by kernel_rfl) (fun _ _ _ h => h) (Or.inr ⟨by rfl, rfl⟩) (by assumption) ?_
    simp only [Act.put, List.getElem_toArray, List.getElem_cons_succ, List.getElem_cons_zero, List.setIfInBounds_toArray, List.set_cons_zero, List.set_cons_succ]
    refine wpAnyH_take (i := 6) (v := undef) rfl (by kernel_rfl) (by kernel_rfl) (by kernel_rfl) (fun _ _ _ h => h) (Or.inr ⟨by rfl, rfl⟩) (by assumption) ?_
    simp only [Act.put, List.getElem_toArray, List.getElem_cons_succ, List.getElem_cons_zero, List.setIfInBounds_toArray, List.set_cons_zero, List.set_cons_succ]
    refine wpAnyH_take (i := 7) (v := undef) rfl (by kernel_rfl) (by kernel_rfl) (by kernel_rfl) (fun _ _ _ h => h) (Or.inr ⟨by rfl, rfl⟩) (by assumption) ?_
    simp only [Act.put, List.getElem_toArray, List.getElem_cons_succ, List.getElem_cons_zero, List.setIfInBounds_toArray, List.set_cons_zero, List.set_cons_succ]
    refine wpAnyH_take (i := 8) (v := undef) rfl (by kernel_rfl) (by kernel_rfl) (by kernel_rfl) (fun _ _ _ h => h) (Or.inr ⟨by rfl, rfl⟩) (by assumption) ?_
    simp only [Act.put, List.getElem_toArray, List.getElem_cons_succ, List.getElem_cons_zero, List.setIfInBounds_toArray, List.set_cons_zero, List.set_cons_succ]
    refine wpAnyH_take (i := 9) (v := .bool false) rfl (by kernel_rfl) (by kernel_rfl) (by kernel_rfl) (fun _ _ _ h => h) (Or.inl ⟨by rfl, fun w hSw => by dsimp only at hSw; go_simp⟩) (by assumption) ?_
    simp only [Act.put, List.getElem_toArray, List.getElem_cons_succ, List.getElem_cons_zero, List.setIfInBounds_toArray, List.set_cons_zero, List.set_cons_succ]
    refine wpAnyH_take (i := 10) (v := .bool false) rfl (by kernel_rfl) (by kernel_rfl) (by kernel_rfl) (fun _ _ _ h => h) (Or.inl ⟨by rfl, fun w hSw => by dsimp only at hSw; go_simp⟩) (by assumption) ?_
    simp only [Act.put, List.getElem_toArray, List.getElem_cons_succ, List.getElem_cons_zero, List.setIfInBounds_toArray, List.set_cons_zero, List.set_cons_succ]
    refine wpAnyH_done (by kernel_rfl) ?_ _
    have hbw := held_below (by assumption)
    have Hbw := Lib.hid (Hba.out.trans (Below.mono hbw Hba.out.size))
    go_wp2_with fail
    go_ret
    exact ⟨_, rfl, IkIs.no H1.out, Hbw.out⟩
  | true =>
    obtain ⟨r, c, rfl, rfl, hr, hc0, hc, hlD, hD, hP2, hP7, hpr⟩ := mxOk_facts h1
    have H1 := Lib.hid h1
    have HlD := Lib.hid hlD
    clear h1 hlD hD hpr
    have Z := Lib.hid (heap_alloc_top w (.cells #[.int .i64 P, .int .i64 (r : Int), .int .i64 (c : Int), .slice p D.length cap] 26))
    have Hd0 := Lib.hid (Hd.out.below (below_alloc w (.cells #[.int .i64 P, .int .i64 (r : Int), .int .i64 (c : Int), .slice p D.length cap] 26)))
    have Hba := Lib.hid (below_alloc w (.cells #[.int .i64 P, .int .i64 (r : Int), .int .i64 (c : Int), .slice p D.length cap] 26))
    go_enter Try.func10, Try.ntmps10
    go_wp2_with fail
    generalize w.alloc (.cells #[.int .i64 P, .int .i64 (r : Int), .int .i64 (c : Int), .slice p D.length cap] 26) = wa at *
    obtain ⟨c0, c1, c2, c3, cf, cz⟩ := blk4 Z.out
    have hfd : ∀ (a b c' : Int) (ps : Option Addr) (n ks : Nat) (W : World), (Instr.field 26 (.agg #[.int .i64 a, .int .i64 b, .int .i64 c', .slice ps n ks]) 3).run Try.prog W = .ok (.slice ps n ks) W := fun _ _ _ _ _ _ _ => by kernel_rfl
    first | (go_region_held3 (fun w' => (w'.cell? ⟨w.heap.size, 0, none⟩ = some (.int .i64 P) ∧ w'.cell? ⟨w.heap.size, 1, none⟩ = some (.int .i64 (r : Int)) ∧ w'.cell? ⟨w.heap.size, 2, none⟩ = some (.int .i64 (c : Int)) ∧ w'.cell? ⟨w.heap.size, 3, none⟩ = some (.slice p D.length cap)) ∧ Below wa.heap.size wa w')
      (first | exact ⟨⟨c0, c1, c2, c3⟩, (Below.refl _ _).drew⟩ | exact keep4 hb1 (by assumption))
      (first
        | (go_at_call 37; refine (implMatrixOk_b _ _ _ _ _ _ H1.out _ (held_ints Hd0.out (by assumption))).mono ?_; rintro e w' ⟨rfl, hb1⟩)
        | (go_at_call 12; refine (implSpanOf_ex P r c _ D _ (held_ints Hd0.out (by assumption))).mono ?_; rintro e w' ⟨m, hm, u, rfl, hoS, hb1⟩; obtain ⟨mP, mR, mC, L⟩ := m; have hoS : OwnI 3 w' _ w'.heap.size u L := hoS; obtain ⟨ps, ks, rfl, _, _⟩ := hoS.shape)
        | (go_at_call 38; refine (sliceEq_b _ _ L D _ (OwnI.below hoS (by first | exact Below.refl _ _ | exact (Below.refl _ _).drew)).ints (held_ints Hd0.out (by assumption))).mono ?_; rintro e w' ⟨rfl, hb1⟩))) | fail
    have hbw := held_below (by assumption)
    have Hbw := Lib.hid (Hba.out.trans (Below.mono hbw Hba.out.size))
    have Hsp := Lib.hid hm
    clear hm
    go_wp2_with fail
    go_ret
    exact ⟨_, rfl, IkIs.eql H1.out Hsp.out, Hbw.out⟩

theorem implIsSpace_any (P R C : Int) (d : Value) (D : List Int) (w : World) (hd : Ints w d D) :
    Calls Try.prog 10 #[.agg #[.int .i64 P, .int .i64 R, .int .i64 C, d]] w fun e w' => e = .returned (.bool (Classical.epsilon (IkIs P R C D))) ∧ Below w.heap.size w w' :=
  (implIsSpace_ex P R C d D w hd).mono fun e w' ⟨r, h1, h2, h3⟩ => ⟨by rw [h1, h2.eps], h3⟩

end Go.Proofs.Ytmnlpkmnbjoicaa
