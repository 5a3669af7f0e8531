/-
  What two lists of rows have in common: slices.Clone of rows, impl.common, spec.l7Common.
  FlagOk, on both sides.
  FlagOk, as a property.
  The dimension of what first rows of two matrices have in common, as a property; a list that is known by a property.
-/
import Derived.Test.YtoodgbflaaabmaaJ8
import Derived.Test.YtoodgbflaaabmaaJ7
namespace Go.Proofs.Ytoodgbflaaabmaa
set_option linter.all false
open Go.RowKit

set_option maxRecDepth 100000 in
set_option maxHeartbeats 400000 in
theorem cloneRows_any (v : Value) (n : Nat) (f : Nat → Value) (w : World) (h : Rd w v n f) (h1 : ∀ j, j < n → (f j).oneCell' = true) (hl : n ≤ 1000) :
    Calls Try.prog 85 #[v] w fun e w' => ∃ u, e = .returned u ∧ OwnF w' w.heap.size w'.heap.size 24 u n f ∧ Below w.heap.size w w' := by
  have hI := Lib.hid h
  have H1 := Lib.hid h1
  obtain ⟨p, cap, rfl, ⟨hx1, hx2⟩, hxc⟩ := h
  have keq := fun (n c : Nat) => Lib.run_eql_slice_nil (P := Try.prog) w 42 24 p n c 0 0 Try.underlying42
  cases p with
  | none =>
    have hx0 : n = 0 := by
      rcases Nat.eq_zero_or_pos n with h0 | h0
      · exact h0
      · obtain ⟨b, off, e, _⟩ := hxc h0; cases e
    subst hx0
    clear hxc hI
    go_enter Try.func85, Try.ntmps85
    go_wp2_with fail
    go_ret
    exact ⟨_, rfl, OwnF.nil _ _ _ _ _, Below.refl _ _⟩
  | some a =>
    have Hb1 := Lib.hid (show 0 + n ≤ maxLen by unfold maxLen; omega)
    have Hb2 := Lib.hid (show (0 + n) * 24 ≤ 140737488355328 by omega)
    clear hxc h1
    go_enter Try.func85, Try.ntmps85
    go_wp2_with (at_builtin; go_must (refine wpList_append_F rfl (.tmp 5) (.tmp 6) 42 rfl 24 (.slice none 0 0) 24 Try.underlying42 info_sl rfl w.heap.size (w.heap.size + 1) _ 0 (fun _ => undef) rfl (OwnF.made0 w _ _) (by simp) (by simp) _ _ _ rfl (hI.out.below (below_alloc w _)) H1.out Hb1.out Hb2.out ?_; intro v' w' ho' hg'))
    go_ret
    refine ⟨_, rfl, ?_, (below_alloc w _).trans (grownBy_below hg' (OwnF.made0 w 24 (fun _ => undef)).blocks (Nat.le_refl _) (by simp))⟩
    rw [Nat.zero_add] at ho'
    exact ho'.congr fun j _ => by simp

/-- rows that can be read, one list behind another one -/
theorem rdII_join {T : TypeId} {w : World} {lo hi : Nat} {v : Value} {a b : List (List Int)} {f g : Nat → Value} (h : OwnF w lo hi T v (a.length + b.length) (fun j => if j < a.length then f j else g (j - a.length)))
    (hf : ∀ i, i < a.length → Ints w (f i) (a.getD i [])) (hg : ∀ i, i < b.length → Ints w (g i) (b.getD i [])) : RdII w v (a ++ b) := by
  refine ⟨_, by rw [List.length_append]; exact h.rd, fun i hi => ?_⟩
  rw [List.length_append] at hi
  by_cases e : i < a.length
  · simp only [e, if_true]
    rw [show (a ++ b).getD i [] = a.getD i [] by simp [List.getD_eq_getElem?_getD, List.getElem?_append_left e]]
    exact hf i e
  · simp only [e, if_false]
    rw [show (a ++ b).getD i [] = b.getD (i - a.length) [] by simp [List.getD_eq_getElem?_getD, List.getElem?_append_right (Nat.le_of_not_lt e)]]
    exact hg _ (by omega)
theorem Ints.one {w : World} {v : Value} {xs : List Int} (h : Ints w v xs) : v.oneCell' = true := by
  obtain ⟨p, cap, rfl, _⟩ := h
  rfl
theorem Ints.grown {T : TypeId} {w w' : World} {lo hi n : Nat} {v u : Value} {f : Nat → Value} {xs : List Int} {B : Nat} (h : Ints w u xs) (hb : Below B w w') (hu : ∀ b, (∃ n c o, u = .slice (some ⟨b, o, none⟩) n c) → b < B) : Ints w' u xs := by
  obtain ⟨p, cap, rfl, hm, hc⟩ := h
  refine ⟨p, cap, rfl, hm, fun h0 => ?_⟩
  obtain ⟨b, off, rfl, hx⟩ := hc h0
  exact ⟨b, off, rfl, fun j hj => by
    have := hx j hj
    rw [hb.cell (hu b ⟨_, _, _, rfl⟩)]
    exact this⟩
/-- behind what changed from B on: rows that lay below B -/
theorem Ints.up {w0 w w' : World} {u : Value} {xs : List Int} (h : Ints w0 u xs) (hb : Below w0.heap.size w0 w') : Ints w' u xs := h.below hb

set_option maxRecDepth 100000 in
set_option maxHeartbeats 1000000 in
theorem common_any (P : Int) (C : Nat) (u v : Value) (A B : List (List Int)) (w : World) (hu : RdII w u A) (hv : RdII w v B) (hA : RowsOk P C A) (hB : RowsOk P C B) (hp : primeOk P = true) (hlA : A.length ≤ 40) (hlB : B.length ≤ 40) (hC : C ≤ 100) :
    Calls Try.prog 60 #[u, v, .int .i64 P] w fun e w' => ∃ n : Nat, e = .returned (.int .i64 ((A.length : Int) + (B.length : Int) - (n : Int))) ∧ HasRank P C (A.length + B.length) (mt (A ++ B)) n ∧ Below w.heap.size w w' := by
  obtain ⟨f, hf, hfi⟩ := hu
  obtain ⟨g, hg, hgi⟩ := hv
  obtain ⟨NA, hNA⟩ : ∃ n, n = A.length := ⟨_, rfl⟩
  obtain ⟨NB, hNB⟩ : ∃ n, n = B.length := ⟨_, rfl⟩
  rw [← hNA, ← hNB]
  rw [← hNA] at hf hfi hlA
  rw [← hNB] at hg hgi hlB
  have Hf := Lib.hid hf
  have Hg := Lib.hid hg
  have Hfi := Lib.hid hfi
  have Hgi := Lib.hid hgi
  have HA := Lib.hid hA
  have HB := Lib.hid hB
  have Hp := Lib.hid hp
  obtain ⟨pu, ku, rfl, ⟨_, mu⟩, _⟩ := hf
  obtain ⟨pv, kv, rfl, ⟨_, mv⟩, _⟩ := hg
  unfold maxLen at mu mv
  have HNA := Lib.hid hNA
  have HNB := Lib.hid hNB
  have Hl1 := Lib.hid (show NA + NB ≤ maxLen by unfold maxLen; omega)
  have Hl2 := Lib.hid (show (NA + NB) * 24 ≤ 140737488355328 by omega)
  clear hfi hgi hA hB hp hNA hNB
  go_enter Try.func60, Try.ntmps60
  go_wp2_with fail
  refine (cloneRows_any _ NA f _ Hf.out (fun j hj => (Hfi.out j hj).one) (by omega)).mono ?_
  rintro e w1 ⟨y, rfl, ho, hb⟩
  obtain ⟨py, ky, rfl, _, _⟩ := ho.shape
  have hs1 := hb.size
  have Ho := Lib.hid ho
  have Hb := Lib.hid hb
  clear ho hb
  go_wp2_with (at_builtin; go_must (refine wpList_append_F rfl (.tmp 13) (.tmp 14) 42 rfl 24 (.slice none 0 0) 24 Try.underlying42 info_sl rfl w.heap.size w1.heap.size _ NA _ rfl Ho.out hs1 (Nat.le_refl _) _ _ _ rfl (Rd.below Hg.out Hb.out) (fun j hj => (Hgi.out j hj).one) Hl1.out Hl2.out ?_; intro v' w2 ho' hg'))
  have hb2 : Below w.heap.size w w2 := Hb.out.trans (grownBy_below hg' Ho.out.blocks (Nat.le_refl _) hs1)
  rw [HNA.out, HNB.out] at ho'
  have hr := rdII_join ho' (fun i hi => (Hfi.out i (by rw [HNA.out]; exact hi)).below hb2) (fun i hi => (Hgi.out i (by rw [HNB.out]; exact hi)).below hb2)
  rw [← HNA.out, ← HNB.out] at ho'
  obtain ⟨pj, kj, rfl, _, _⟩ := ho'.shape
  obtain ⟨J, hJ⟩ : ∃ J, J = A ++ B := ⟨_, rfl⟩
  have hJl : J.length = NA + NB := by rw [hJ, List.length_append, ← HNA.out, ← HNB.out]
  rw [← hJ] at hr
  have Hr := Lib.hid hr
  have HJ := Lib.hid hJ
  have HJl := Lib.hid hJl
  have Hb2 := Lib.hid hb2
  clear hr hJ hb2 ho' hg' hJl
  go_wp2_with fail
  refine (reduced_any _ J C P _ Hr.out (by rw [HJ.out]; exact RowsOk.join HA.out HB.out) Hp.out (by rw [HJl.out]; omega) hC).mono ?_
  rintro e w3 ⟨y, L, q, rfl, hoR, hb3, hR1, hR2, hR3, hR4, hR5⟩
  obtain ⟨pr, kr, rfl, hkr1, hkr2⟩ := hoR.shape
  unfold maxLen at hkr2
  rw [HJl.out] at hR5
  have hrank : HasRank P C (NA + NB) (mt J) L.length := by
    refine ⟨mt L, q, hR2, hR3, fun i j hi hj => (hR1 i hi).2 j, ?_⟩
    rw [← HJl.out]; exact hR4
  have Hrank := Lib.hid hrank
  have Hb3 := Lib.hid (Hb2.out.trans (hb3.mono Hb2.out.size))
  clear hrank hb3 hoR hR1 hR2 hR3 hR4
  go_wp2_with fail
  go_ret
  refine ⟨L.length, rfl, ?_, Hb3.out⟩
  rw [← HJ.out]; exact Hrank.out


theorem list_range (D : List Int) {n : Nat} (h : n ≤ D.length) : (List.range n).map (fun t => D.getD t 0) = D.take n := by
  apply List.ext_getElem (by simp; omega)
  intro i h1 h2
  simp at h1
  simp [List.getD_eq_getElem?_getD, show i < D.length by omega]
/-- the first rows -/
theorem l7Top_D (P : Int) (R C n : Nat) (d : Value) (D : List Int) (w : World) (hd : Ints w d D) (hN : D.length = R * C) (hn : n ≤ R) (hR : R ≤ 14) (hC : C ≤ 14) :
    Calls Try.prog 95 #[.agg #[.int .i64 P, .int .i64 (R : Int), .int .i64 (C : Int), d], .int .i64 (n : Int)] w (RetM w ⟨P, n, C, D.take (n * C)⟩) := by
  have hnC : n * C ≤ D.length := by rw [hN]; exact Nat.mul_le_mul_right C hn
  rw [← list_range D hnC]
  obtain ⟨p, k, rfl, _⟩ := id hd
  refine l7Top_any P R C n p k D.length (fun t => D.getD t 0) w ?_ hN hn hR hC
  rw [list_range D (Nat.le_refl _), List.take_length]
  exact hd
theorem take_getD {D : List Int} {n t : Nat} (h : t < n) : (D.take n).getD t 0 = D.getD t 0 := by simp [List.getD_eq_getElem?_getD, List.getElem?_take, h]
theorem flat_lt {n C i c : Nat} (hi : i < n) (hc : c < C) : i * C + c < n * C := by
  have : (i + 1) * C ≤ n * C := Nat.mul_le_mul_right C hi
  rw [Nat.succ_mul] at this
  omega
theorem take_rng {P : Int} {D : List Int} {n : Nat} (hP : 0 < P) (h : ∀ t, 0 ≤ D.getD t 0 ∧ D.getD t 0 < P) (t : Nat) : 0 ≤ (D.take n).getD t 0 ∧ (D.take n).getD t 0 < P := by
  by_cases e : t < n
  · rw [take_getD e]; exact h t
  · rw [List.getD_eq_getElem?_getD, List.getElem?_take, if_neg e]; simp; exact hP
theorem HasRank.take {P : Int} {C n k : Nat} {D : List Int} (h : HasRank P C n (mf C fun t => (D.take (n * C)).getD t 0) k) : HasRank P C n (mf C fun t => D.getD t 0) k :=
  h.congr fun i j hi hj => (take_getD (flat_lt hi hj)).symm


end Go.Proofs.Ytoodgbflaaabmaa

namespace Go.Proofs.Ytoodgbflaaabmaa
set_option linter.all false
open Go.RowKit

/-- what FlagOk returns -/
def FkIs (P R C : Int) (D : List Int) (b : Bool) : Prop := b = true ↔ mxOk P R C D = true ∧ R = C ∧ RkIs P R C D R
theorem FkIs.one {P R C : Int} {D : List Int} {b b' : Bool} (h : FkIs P R C D b) (h' : FkIs P R C D b') : b = b' := by
  unfold FkIs at h h'
  have e : b = true ↔ b' = true := h.trans h'.symm
  cases b <;> cases b' <;> simp_all
theorem FkIs.eps {P R C : Int} {D : List Int} {b : Bool} (h : FkIs P R C D b) : b = Classical.epsilon (FkIs P R C D) := h.one (Classical.epsilon_spec ⟨b, h⟩)
theorem FkIs.no1 {P R C : Int} {D : List Int} (h : mxOk P R C D = false) : FkIs P R C D false := by
  unfold FkIs; simp [h]
theorem FkIs.no2 {P R C : Int} {D : List Int} (h : R ≠ C) : FkIs P R C D false := by
  unfold FkIs; simp [h]
theorem FkIs.yes {P R : Int} {D : List Int} {n : Int} (h : mxOk P R R D = true) (hn : RkIs P R R D n) : FkIs P R R D (n == R) := by
  unfold FkIs
  constructor
  · intro e
    have : n = R := by simpa using e
    subst this
    exact ⟨h, rfl, hn⟩
  · rintro ⟨_, _, hr⟩
    have := hn.one hr
    simpa using this

theorem implRankOf_r (P : Int) (R C : Nat) (d : Value) (D : List Int) (w : World) (hd : Ints w d D) :
    Calls Try.prog 69 #[.agg #[.int .i64 P, .int .i64 (R : Int), .int .i64 (C : Int), d]] w fun e w' => ∃ n, e = .returned (.int .i64 n) ∧ RkIs P R C D n ∧ Below w.heap.size w w' :=
  implRankOf_ex P R C d D w hd

set_option maxRecDepth 100000 in
set_option maxHeartbeats 16000000 in
theorem implFlagOk_any (P R C : Int) (d : Value) (D : List Int) (w : World) (hd : Ints w d D) :
    Calls Try.prog 40 #[.agg #[.int .i64 P, .int .i64 R, .int .i64 C, d]] w fun e w' =>
      e = .returned (.bool (Classical.epsilon (FkIs P R C D))) ∧ Below w.heap.size w w' := by
  suffices h : Calls Try.prog 40 #[.agg #[.int .i64 P, .int .i64 R, .int .i64 C, d]] w fun e w' => ∃ r, e = .returned (.bool r) ∧ FkIs P R C D r ∧ Below w.heap.size w w' from
    h.mono fun e w' ⟨r, h1, h2, h3⟩ => ⟨by rw [h1, h2.eps], h3⟩
  have Hd := Lib.hid hd
  obtain ⟨p, cap, rfl, ⟨_, mx⟩, _⟩ := hd
  unfold maxLen at mx
  cases h1 : mxOk P R C D with
  | false =>
    have H1 := Lib.hid h1
    clear h1
    have Z := Lib.hid (heap_alloc_top w (.cells #[.int .i64 P, .int .i64 R, .int .i64 C, .slice p D.length cap] 34))
    have Hd0 := Lib.hid (Hd.out.below (below_alloc w (.cells #[.int .i64 P, .int .i64 R, .int .i64 C, .slice p D.length cap] 34)))
    have Hba := Lib.hid (below_alloc w (.cells #[.int .i64 P, .int .i64 R, .int .i64 C, .slice p D.length cap] 34))
    go_enter Try.func40, Try.ntmps40
    go_wp2_with fail
    generalize w.alloc (.cells #[.int .i64 P, .int .i64 R, .int .i64 C, .slice p D.length cap] 34) = wa at *
    obtain ⟨c0, c1, c2, c3, cf, cz⟩ := blk4 Z.out
    refine wp_region_held_drew (S := (fun w' => (w'.cell? ⟨w.heap.size, 0, none⟩ = some (.int .i64 P) ∧ w'.cell? ⟨w.heap.size, 1, none⟩ = some (.int .i64 R) ∧ w'.cell? ⟨w.heap.size, 2, none⟩ = some (.int .i64 C) ∧ w'.cell? ⟨w.heap.size, 3, none⟩ = some (.slice p D.length cap)) ∧ Below wa.heap.size wa w')) (by kernel_rfl) ?_ (fun hHeld => ?_)
    · exact ⟨⟨c0, c1, c2, c3⟩, (Below.refl _ _).drew⟩
    refine wpAnyH_take (i := 0) (v := .agg #[.int .i64 P, .int .i64 R, .int .i64 C, .slice p D.length cap]) rfl (by kernel_rfl) (by kernel_rfl) (by kernel_rfl) (fun _ _ _ h => h) (Or.inl ⟨by rfl, fun w hSw => by dsimp only at hSw; go_simp⟩) (by assumption) ?_
    simp only [Act.put, List.getElem_toArray, List.getElem_cons_succ, List.getElem_cons_zero, List.setIfInBounds_toArray, List.set_cons_zero, List.set_cons_succ]
    refine wpAnyH_ready (rs := [1]) (by kernel_rfl) (by simp) ?_
    refine AllReadyH.cons rfl (fun K hK => ?_) AllReadyH.nil
    go_simp
    refine (implMatrixOk_b _ _ _ _ _ _ H1.out _ (Hd0.out.below (Below.refl _ _).drew)).mono ?_
    rintro e w' ⟨rfl, hb1⟩
    go_wp2_with fail
    refine hK.out _ _ ?_ (fun hHeld => ?_)
    · exact keep4 hb1 (by assumption)
    clear hK K
    try simp only [Act.put, List.getElem_toArray, List.getElem_cons_succ, List.getElem_cons_zero, List.setIfInBounds_toArray, List.set_cons_zero, List.set_cons_succ]
    refine wpAnyH_take (i := 2) (v := .bool false) rfl (by kernel_rfl) (by kernel_rfl) (by kernel_rfl) (fun _ _ _ h => h) (Or.inl ⟨by rfl, fun w hSw => by dsimp only at hSw; go_simp⟩) (by assumption) ?_
    simp only [Act.put, List.getElem_toArray, List.getElem_cons_succ, List.getElem_cons_zero, List.setIfInBounds_toArray, List.set_cons_zero, List.set_cons_succ]
    refine wpAnyH_take (i := 3) (v := undef) rfl (by kernel_rfl) (by kernel_rfl) (by kernel_rfl) (fun _ _ _ h => h) (Or.inr ⟨by rfl, rfl⟩) (by assumption) ?_
    simp only [Act.put, List.getElem_toArray, List.getElem_cons_succ, List.getElem_cons_zero, List.setIfInBounds_toArray, List.set_cons_zero, List.set_cons_succ]
    refine wpAnyH_take (i := 4) (v := undef) rfl (by kernel_rfl) (by kernel_rfl) (by kernel_rfl) (fun _ _ _ h => h) (Or.inr ⟨by rfl, rfl⟩) (by assumption) ?_
    simp only [Act.put, List.getElem_toArray, List.getElem_cons_succ, List.getElem_cons_zero, List.setIfInBounds_toArray, List.set_cons_zero, List.set_cons_succ]
    refine wpAnyH_take (i := 5) (v := undef) rfl (by kernel_rfl) (by kernel_rfl) (by kernel_rfl) (fun _ _ _ h => h) (Or.inr ⟨by rfl, rfl⟩) (by assumption) ?_
    simp only [Act.put, List.getElem_toArray, List.getElem_cons_succ, List.getElem_cons_zero, List.setIfInBounds_toArray, List.set_cons_zero, List.set_cons_succ]
    refine wpAnyH_take (i := 6) (v := undef) rfl (by kernel_rfl) (by kernel_rfl) (by kernel_rfl) (fun _ _ _ h => h) (Or.inr ⟨by rfl, rfl⟩) (by assumption) ?_
    simp only [Act.put, List.getElem_toArray, List.getElem_cons_succ, List.getElem_cons_zero, List.setIfInBounds_toArray, List.set_cons_zero, List.set_cons_succ]
    refine wpAnyH_take (i := 7) (v := undef) rfl (by kernel_rfl) (by kernel_rfl) (by kernel_rfl) (fun _ _ _ h => h) (Or.inr ⟨by rfl, rfl⟩) (by assumption) ?_
    simp only [Act.put, List.getElem_toArray, List.getElem_cons_succ, List.getElem_cons_zero, List.setIfInBounds_toArray, List.set_cons_zero, List.set_cons_succ]
    refine wpAnyH_take (i := 8) (v := .bool false) rfl (by kernel_rfl) (by kernel_rfl) (by kernel_rfl) (fun _ _ _ h => h) (Or.inl ⟨by rfl, fun w hSw => by dsimp only at hSw; go_simp⟩) (by assumption) ?_
    simp only [Act.put, List.getElem_toArray, List.getElem_cons_succ, List.getElem_cons_zero, List.setIfInBounds_toArray, List.set_cons_zero, List.set_cons_succ]
    refine wpAnyH_take (i := 9) (v := .bool false) rfl (by kernel_rfl) (by kernel_rfl) (by kernel_rfl) (fun _ _ _ h => h) (Or.inl ⟨by rfl, fun w hSw => by dsimp only at hSw; go_simp⟩) (by assumption) ?_
    simp only [Act.put, List.getElem_toArray, List.getElem_cons_succ, List.getElem_cons_zero, List.setIfInBounds_toArray, List.set_cons_zero, List.set_cons_succ]
    refine wpAnyH_take (i := 10) (v := undef) rfl (by kernel_rfl) (by kernel_rfl) (by kernel_rfl) (fun _ _ _ h => h) (Or.inr ⟨by rfl, rfl⟩) (by assumption) ?_
    simp only [Act.put, List.getElem_toArray, List.getElem_cons_succ, List.getElem_cons_zero, List.setIfInBounds_toArray, List.set_cons_zero, List.set_cons_succ]
    refine wpAnyH_take (i := 11) (v := undef) rfl (by kernel_rfl) (by kernel_rfl) (by kernel_rfl) (fun _ _ _ h => h) (Or.inr ⟨by rfl, rfl⟩) (by assumption) ?_
    simp only [Act.put, List.getElem_toArray, List.getElem_cons_succ, List.getElem_cons_zero, List.setIfInBounds_toArray, List.set_cons_zero, List.set_cons_succ]
    refine wpAnyH_take (i := 12) (v := undef) rfl (by kernel_rfl) (by kernel_rfl) (by kernel_rfl) (fun _ _ _ h => h) (Or.inr ⟨by rfl, rfl⟩) (by assumption) ?_
    simp only [Act.put, List.getElem_toArray, List.getElem_cons_succ, List.getElem_cons_zero, List.setIfInBounds_toArray, List.set_cons_zero, List.set_cons_succ]
    refine wpAnyH_take (i := 13) (v := undef) rfl (by kernel_rfl) (by kernel_rfl) (by kernel_rfl) (fun _ _ _ h => h) (Or.inr ⟨by rfl, rfl⟩) (by assumption) ?_
    simp only [Act.put, List.getElem_toArray, List.getElem_cons_succ, List.getElem_cons_zero, List.setIfInBounds_toArray, List.set_cons_zero, List.set_cons_succ]
    refine wpAnyH_take (i := 14) (v := undef) rfl (by kernel_rfl) (by kernel_rfl) (by kernel_rfl) (fun _ _ _ h => h) (Or.inr ⟨by rfl, rfl⟩) (by assumption) ?_
    simp only [Act.put, List.getElem_toArray, List.getElem_cons_succ, List.getElem_cons_zero, List.setIfInBounds_toArray, List.set_cons_zero, List.set_cons_succ]
    refine wpAnyH_take (i := 15) (v := .bool false) rfl (by kernel_rfl) (by kernel_rfl) (by kernel_rfl) (fun _ _ _ h => h) (Or.inl ⟨by rfl, fun w hSw => by dsimp only at hSw; go_simp⟩) (by assumption) ?_
    simp only [Act.put, List.getElem_toArray, List.getElem_cons_succ, List.getElem_cons_zero, List.setIfInBounds_toArray, List.set_cons_zero, List.set_cons_succ]
    refine wpAnyH_take (i := 16) (v := .bool false) rfl (by kernel_rfl) (by kernel_rfl) (by kernel_rfl) (fun _ _ _ h => h) (Or.inl ⟨by rfl, fun w hSw => by dsimp only at hSw; go_simp⟩) (by assumption) ?_
    simp only [Act.put, List.getElem_toArray, List.getElem_cons_succ, List.getElem_cons_zero, List.setIfInBounds_toArray, List.set_cons_zero, List.set_cons_succ]
    refine wpAnyH_done (by kernel_rfl) ?_ _
    have hbw := held_below (by assumption)
    have Hbw := Lib.hid (Hba.out.trans (Below.mono hbw Hba.out.size))
    go_wp2_with fail
    go_ret
    exact ⟨_, rfl, FkIs.no1 H1.out, Hbw.out⟩
  | true =>
    have H1 := Lib.hid h1
    by_cases hRC : R = C
    case neg =>
      have hRC2 : (R == C) = false := by simpa using hRC
      have HRC := Lib.hid hRC
      clear h1 hRC
      have Z := Lib.hid (heap_alloc_top w (.cells #[.int .i64 P, .int .i64 R, .int .i64 C, .slice p D.length cap] 34))
      have Hd0 := Lib.hid (Hd.out.below (below_alloc w (.cells #[.int .i64 P, .int .i64 R, .int .i64 C, .slice p D.length cap] 34)))
      have Hba := Lib.hid (below_alloc w (.cells #[.int .i64 P, .int .i64 R, .int .i64 C, .slice p D.length cap] 34))
      go_enter Try.func40, Try.ntmps40
      go_wp2_with fail
      generalize w.alloc (.cells #[.int .i64 P, .int .i64 R, .int .i64 C, .slice p D.length cap] 34) = wa at *
      obtain ⟨c0, c1, c2, c3, cf, cz⟩ := blk4 Z.out
      refine wp_region_held_drew (S := (fun w' => (w'.cell? ⟨w.heap.size, 0, none⟩ = some (.int .i64 P) ∧ w'.cell? ⟨w.heap.size, 1, none⟩ = some (.int .i64 R) ∧ w'.cell? ⟨w.heap.size, 2, none⟩ = some (.int .i64 C) ∧ w'.cell? ⟨w.heap.size, 3, none⟩ = some (.slice p D.length cap)) ∧ Below wa.heap.size wa w')) (by kernel_rfl) ?_ (fun hHeld => ?_)
      · exact ⟨⟨c0, c1, c2, c3⟩, (Below.refl _ _).drew⟩
      refine wpAnyH_take (i := 0) (v := .agg #[.int .i64 P, .int .i64 R, .int .i64 C, .slice p D.length cap]) rfl (by kernel_rfl) (by kernel_rfl) (by kernel_rfl) (fun _ _ _ h => h) (Or.inl ⟨by rfl, fun w hSw => by dsimp only at hSw; go_simp⟩) (by assumption) ?_
      simp only [Act.put, List.getElem_toArray, List.getElem_cons_succ, List.getElem_cons_zero, List.setIfInBounds_toArray, List.set_cons_zero, List.set_cons_succ]
      refine wpAnyH_ready (rs := [1]) (by kernel_rfl) (by simp) ?_
      refine AllReadyH.cons rfl (fun K hK => ?_) AllReadyH.nil
      go_simp
      refine (implMatrixOk_b _ _ _ _ _ _ H1.out _ (Hd0.out.below (Below.refl _ _).drew)).mono ?_
      rintro e w' ⟨rfl, hb1⟩
      go_wp2_with fail
      refine hK.out _ _ ?_ (fun hHeld => ?_)
      · exact keep4 hb1 (by assumption)
      clear hK K
      try simp only [Act.put, List.getElem_toArray, List.getElem_cons_succ, List.getElem_cons_zero, List.setIfInBounds_toArray, List.set_cons_zero, List.set_cons_succ]
      refine wpAnyH_take (i := 2) (v := .bool true) rfl (by kernel_rfl) (by kernel_rfl) (by kernel_rfl) (fun _ _ _ h => h) (Or.inl ⟨by rfl, fun w hSw => by dsimp only at hSw; go_simp⟩) (by assumption) ?_
      simp only [Act.put, List.getElem_toArray, List.getElem_cons_succ, List.getElem_cons_zero, List.setIfInBounds_toArray, List.set_cons_zero, List.set_cons_succ]
      refine wpAnyH_take (i := 3) (v := .pointer (some ⟨w.heap.size, 1, none⟩)) rfl (by kernel_rfl) (by kernel_rfl) (by kernel_rfl) (fun _ _ _ h => h) (Or.inl ⟨by rfl, fun w hSw => by dsimp only at hSw; go_simp⟩) (by assumption) ?_
      simp only [Act.put, List.getElem_toArray, List.getElem_cons_succ, List.getElem_cons_zero, List.setIfInBounds_toArray, List.set_cons_zero, List.set_cons_succ]
      refine wpAnyH_take (i := 4) (v := .int .i64 R) rfl (by kernel_rfl) (by kernel_rfl) (by kernel_rfl) (fun _ _ _ h => h) (Or.inl ⟨by rfl, fun w hSw => by dsimp only at hSw; go_simp⟩) (by assumption) ?_
      simp only [Act.put, List.getElem_toArray, List.getElem_cons_succ, List.getElem_cons_zero, List.setIfInBounds_toArray, List.set_cons_zero, List.set_cons_succ]
      refine wpAnyH_take (i := 5) (v := .pointer (some ⟨w.heap.size, 2, none⟩)) rfl (by kernel_rfl) (by kernel_rfl) (by kernel_rfl) (fun _ _ _ h => h) (Or.inl ⟨by rfl, fun w hSw => by dsimp only at hSw; go_simp⟩) (by assumption) ?_
      simp only [Act.put, List.getElem_toArray, List.getElem_cons_succ, List.getElem_cons_zero, List.setIfInBounds_toArray, List.set_cons_zero, List.set_cons_succ]
      refine wpAnyH_take (i := 6) (v := .int .i64 C) rfl (by kernel_rfl) (by kernel_rfl) (by kernel_rfl) (fun _ _ _ h => h) (Or.inl ⟨by rfl, fun w hSw => by dsimp only at hSw; go_simp⟩) (by assumption) ?_
      simp only [Act.put, List.getElem_toArray, List.getElem_cons_succ, List.getElem_cons_zero, List.setIfInBounds_toArray, List.set_cons_zero, List.set_cons_succ]
      refine wpAnyH_take (i := 7) (v := .bool false) rfl (by kernel_rfl) (by kernel_rfl) (by kernel_rfl) (fun _ _ _ h => h) (Or.inl ⟨by rfl, fun w hSw => by dsimp only at hSw; go_simp⟩) (by assumption) ?_
      simp only [Act.put, List.getElem_toArray, List.getElem_cons_succ, List.getElem_cons_zero, List.setIfInBounds_toArray, List.set_cons_zero, List.set_cons_succ]
      refine wpAnyH_take (i := 8) (v := .bool false) rfl (by kernel_rfl) (by kernel_rfl) (by kernel_rfl) (fun _ _ _ h => h) (Or.inl ⟨by rfl, fun w hSw => by dsimp only at hSw; go_simp⟩) (by assumption) ?_
      simp only [Act.put, List.getElem_toArray, List.getElem_cons_succ, List.getElem_cons_zero, List.setIfInBounds_toArray, List.set_cons_zero, List.set_cons_succ]
      refine wpAnyH_take (i := 9) (v := .bool false) rfl (by kernel_rfl) (by kernel_rfl) (by kernel_rfl) (fun _ _ _ h => h) (Or.inl ⟨by rfl, fun w hSw => by dsimp only at hSw; go_simp⟩) (by assumption) ?_
      simp only [Act.put, List.getElem_toArray, List.getElem_cons_succ, List.getElem_cons_zero, List.setIfInBounds_toArray, List.set_cons_zero, List.set_cons_succ]
      refine wpAnyH_take (i := 10) (v := undef) rfl (by kernel_rfl) (by kernel_rfl) (by kernel_rfl) (fun _ _ _ h => h) (Or.inr ⟨by rfl, rfl⟩) (by assumption) ?_
      simp only [Act.put, List.getElem_toArray, List.getElem_cons_succ, List.getElem_cons_zero, List.setIfInBounds_toArray, List.set_cons_zero, List.set_cons_succ]
      refine wpAnyH_take (i := 11) (v := undef) rfl (by kernel_rfl) (by kernel_rfl) (by kernel_rfl) (fun _ _ _ h => h) (Or.inr ⟨by rfl, rfl⟩) (by assumption) ?_
      simp only [Act.put, List.getElem_toArray, List.getElem_cons_succ, List.getElem_cons_zero, List.setIfInBounds_toArray, List.set_cons_zero, List.set_cons_succ]
      refine wpAnyH_take (i := 12) (v := undef) rfl (by kernel_rfl) (by kernel_rfl) (by kernel_rfl) (fun _ _ _ h => h) (Or.inr ⟨by rfl, rfl⟩) (by assumption) ?_
      simp only [Act.put, List.getElem_toArray, List.getElem_cons_succ, List.getElem_cons_zero, List.setIfInBounds_toArray, List.set_cons_zero, List.set_cons_succ]
      refine wpAnyH_take (i := 13) (v := undef) rfl (by kernel_rfl) (by kernel_rfl) (by kernel_rfl) (fun _ _ _ h => h) (Or.inr ⟨by rfl, rfl⟩) (by assumption) ?_
      simp only [Act.put, List.getElem_toArray, List.getElem_cons_succ, List.getElem_cons_zero, List.setIfInBounds_toArray, List.set_cons_zero, List.set_cons_succ]
      refine wpAnyH_take (i := 14) (v := undef) rfl (by kernel_rfl) (by kernel_rfl) (by kernel_rfl) (fun _ _ _ h => h) (Or.inr ⟨by rfl, rfl⟩) (by assumption) ?_
      simp only [Act.put, List.getElem_toArray, List.getElem_cons_succ, List.getElem_cons_zero, List.setIfInBounds_toArray, List.set_cons_zero, List.set_cons_succ]
      refine wpAnyH_take (i := 15) (v := .bool false) rfl (by kernel_rfl) (by kernel_rfl) (by kernel_rfl) (fun _ _ _ h => h) (Or.inl ⟨by rfl, fun w hSw => by dsimp only at hSw; go_simp⟩) (by assumption) ?_
      simp only [Act.put, List.getElem_toArray, List.getElem_cons_succ, List.getElem_cons_zero, List.setIfInBounds_toArray, List.set_cons_zero, List.set_cons_succ]
      refine wpAnyH_take (i := 16) (v := .bool false) rfl (by kernel_rfl) (by kernel_rfl) (by kernel_rfl) (fun _ _ _ h => h) (Or.inl ⟨by rfl, fun w hSw => by dsimp only at hSw; go_simp⟩) (by assumption) ?_
      simp only [Act.put, List.getElem_toArray, List.getElem_cons_succ, List.getElem_cons_zero, List.setIfInBounds_toArray, List.set_cons_zero, List.set_cons_succ]
      refine wpAnyH_done (by kernel_rfl) ?_ _
      have hbw := held_below (by assumption)
      have Hbw := Lib.hid (Hba.out.trans (Below.mono hbw Hba.out.size))
      go_wp2_with fail
      go_ret
      exact ⟨_, rfl, FkIs.no2 HRC.out, Hbw.out⟩
    subst hRC
    obtain ⟨r, c, rfl, hrc, hr, hc0, hc, hlD, hD, hP2, hP7, hpr⟩ := mxOk_facts h1
    have Hrc := Lib.hid hrc
    clear h1 hrc hlD hD hpr
    have Z := Lib.hid (heap_alloc_top w (.cells #[.int .i64 P, .int .i64 (r : Int), .int .i64 (r : Int), .slice p D.length cap] 34))
    have Hd0 := Lib.hid (Hd.out.below (below_alloc w (.cells #[.int .i64 P, .int .i64 (r : Int), .int .i64 (r : Int), .slice p D.length cap] 34)))
    have Hba := Lib.hid (below_alloc w (.cells #[.int .i64 P, .int .i64 (r : Int), .int .i64 (r : Int), .slice p D.length cap] 34))
    go_enter Try.func40, Try.ntmps40
    go_wp2_with fail
    generalize w.alloc (.cells #[.int .i64 P, .int .i64 (r : Int), .int .i64 (r : Int), .slice p D.length cap] 34) = wa at *
    obtain ⟨c0, c1, c2, c3, cf, cz⟩ := blk4 Z.out
    first | (go_region_held3 (fun w' => (w'.cell? ⟨w.heap.size, 0, none⟩ = some (.int .i64 P) ∧ w'.cell? ⟨w.heap.size, 1, none⟩ = some (.int .i64 (r : Int)) ∧ w'.cell? ⟨w.heap.size, 2, none⟩ = some (.int .i64 (r : Int)) ∧ w'.cell? ⟨w.heap.size, 3, none⟩ = some (.slice p D.length cap)) ∧ Below wa.heap.size wa w')
      (first | exact ⟨⟨c0, c1, c2, c3⟩, (Below.refl _ _).drew⟩ | exact keep4 hb1 (by assumption))
      (first
        | (go_at_call 52; refine (implMatrixOk_b _ _ _ _ _ _ H1.out _ (held_ints Hd0.out (by assumption))).mono ?_; rintro e w' ⟨rfl, hb1⟩)
        | (go_at_call 69; refine (implRankOf_r P r r _ D _ (held_ints Hd0.out (by assumption))).mono ?_; rintro e w' ⟨n, rfl, hn, hb1⟩))) | fail
    have hbw := held_below (by assumption)
    have Hbw := Lib.hid (Hba.out.trans (Below.mono hbw Hba.out.size))
    have Hn := Lib.hid hn
    go_wp2_with fail
    go_ret
    exact ⟨_, rfl, FkIs.yes H1.out Hn.out, Hbw.out⟩

end Go.Proofs.Ytoodgbflaaabmaa

namespace Go.Proofs.Ytoodgbflaaabmaa
set_option linter.all false
open Go.RowKit

/-- it is a flag -/
def IsFl (P R C : Int) (D : List Int) : Prop := mxOk P R C D = true ∧ R = C ∧ RkIs P R C D R
theorem fk_yes {P R C : Int} {D : List Int} (h : IsFl P R C D) : Classical.epsilon (FkIs P R C D) = true := (FkIs.eps (b := true) ⟨fun _ => h, fun _ => rfl⟩).symm
theorem fk_no {P R C : Int} {D : List Int} (h : ¬ IsFl P R C D) : Classical.epsilon (FkIs P R C D) = false := (FkIs.eps (b := false) ⟨fun e => (by cases e), fun h2 => absurd h2 h⟩).symm

theorem implFlag_yes (P R C : Int) (d : Value) (D : List Int) (h : IsFl P R C D) (w : World) (hd : Ints w d D) :
    Calls Try.prog 40 #[.agg #[.int .i64 P, .int .i64 R, .int .i64 C, d]] w fun e w' => e = .returned (.bool true) ∧ Below w.heap.size w w' := by
  have := implFlagOk_any P R C d D w hd
  rwa [fk_yes h] at this
theorem implFlag_no (P R C : Int) (d : Value) (D : List Int) (h : ¬ IsFl P R C D) (w : World) (hd : Ints w d D) :
    Calls Try.prog 40 #[.agg #[.int .i64 P, .int .i64 R, .int .i64 C, d]] w fun e w' => e = .returned (.bool false) ∧ Below w.heap.size w w' := by
  have := implFlagOk_any P R C d D w hd
  rwa [fk_no h] at this

theorem IsFl.facts {P R C : Int} {D : List Int} (h : IsFl P R C D) : ∃ n : Nat, R = n ∧ C = n ∧ 1 ≤ n ∧ n ≤ 7 ∧ D.length = n * n ∧ (∀ x ∈ D, 0 ≤ x ∧ x < P) ∧ 2 ≤ P ∧ P ≤ 7 ∧ primeOk P = true ∧ HasRank P n n (mf n fun t => D.getD t 0) n := by
  obtain ⟨h1, h2, h3⟩ := h
  obtain ⟨r, c, rfl, rfl, hr, hc0, hc, hlD, hD, hP2, hP7, hpr⟩ := mxOk_facts h1
  obtain rfl := Int.ofNat.inj h2
  unfold RkIs at h3
  rw [if_pos h1] at h3
  obtain ⟨n, e, _, hn⟩ := h3
  obtain rfl := Int.ofNat.inj e
  simp only [Int.toNat_natCast] at hn
  exact ⟨r, rfl, rfl, hc0, hc, hlD, hD, hP2, hP7, hpr, hn⟩

end Go.Proofs.Ytoodgbflaaabmaa

namespace Go.Proofs.Ytoodgbflaaabmaa
set_option linter.all false
open Go.RowKit

/-- a list that is known by a property, or none -/
def LsQ (Q : List Int → Prop) (l : List Int) : Prop := Q l ∨ ((∀ m, ¬ Q m) ∧ l = [])
theorem LsQ.spec (Q : List Int → Prop) : LsQ Q (Classical.epsilon (LsQ Q)) := by
  refine Classical.epsilon_spec (p := LsQ Q) ?_
  by_cases h : ∃ m, Q m
  · obtain ⟨m, h⟩ := h
    exact ⟨m, .inl h⟩
  · exact ⟨[], .inr ⟨fun m hq => h ⟨m, hq⟩, rfl⟩⟩
theorem LsQ.eps {Q : List Int → Prop} {m : List Int} (hone : ∀ m m', Q m → Q m' → m = m') (h : Q m) : m = Classical.epsilon (LsQ Q) := by
  rcases LsQ.spec Q with h2 | ⟨h2, _⟩
  · exact hone _ _ h h2
  · exact absurd h (h2 m)
theorem LsQ.len {Q : List Int → Prop} {n : Nat} (h : ∀ m, Q m → m.length ≤ n) : (Classical.epsilon (LsQ Q)).length ≤ n := by
  rcases LsQ.spec Q with h2 | ⟨_, h2⟩
  · exact h _ h2
  · rw [h2]; exact Nat.zero_le _

/-- eight cells that are read, where what changed lies from B on -/
theorem keep8B {w W W' : World} {B b1 b2 o0 o1 o2 o3 o4 o5 o6 o7 : Nat} {v0 v1 v2 v3 v4 v5 v6 v7 : Value} (hb : Below B W W') (hB1 : b1 < B) (hB2 : b2 < B) (hw : w.heap.size ≤ B)
    (h : (W.cell? ⟨b1, o0, none⟩ = some v0 ∧ W.cell? ⟨b1, o1, none⟩ = some v1 ∧ W.cell? ⟨b1, o2, none⟩ = some v2 ∧ W.cell? ⟨b1, o3, none⟩ = some v3 ∧ W.cell? ⟨b2, o4, none⟩ = some v4 ∧ W.cell? ⟨b2, o5, none⟩ = some v5 ∧ W.cell? ⟨b2, o6, none⟩ = some v6 ∧ W.cell? ⟨b2, o7, none⟩ = some v7) ∧ Below w.heap.size w W) :
    (W'.cell? ⟨b1, o0, none⟩ = some v0 ∧ W'.cell? ⟨b1, o1, none⟩ = some v1 ∧ W'.cell? ⟨b1, o2, none⟩ = some v2 ∧ W'.cell? ⟨b1, o3, none⟩ = some v3 ∧ W'.cell? ⟨b2, o4, none⟩ = some v4 ∧ W'.cell? ⟨b2, o5, none⟩ = some v5 ∧ W'.cell? ⟨b2, o6, none⟩ = some v6 ∧ W'.cell? ⟨b2, o7, none⟩ = some v7) ∧ Below w.heap.size w W' := by
  obtain ⟨⟨h0, h1, h2, h3, h4, h5, h6, h7⟩, hB⟩ := h
  have e1 : W'.heap[b1]? = W.heap[b1]? := hb.block _ hB1
  have e2 : W'.heap[b2]? = W.heap[b2]? := hb.block _ hB2
  refine ⟨⟨?_, ?_, ?_, ?_, ?_, ?_, ?_, ?_⟩, hB.trans (hb.mono hw)⟩
  · rw [World.cell?_of_block (w := W) e1]; exact h0
  · rw [World.cell?_of_block (w := W) e1]; exact h1
  · rw [World.cell?_of_block (w := W) e1]; exact h2
  · rw [World.cell?_of_block (w := W) e1]; exact h3
  · rw [World.cell?_of_block (w := W) e2]; exact h4
  · rw [World.cell?_of_block (w := W) e2]; exact h5
  · rw [World.cell?_of_block (w := W) e2]; exact h6
  · rw [World.cell?_of_block (w := W) e2]; exact h7
theorem two_lt {w W : World} {c : Prop} {B : Nat} (hs : B ≤ w.heap.size) {w0 : World} (h : c ∧ Below w0.heap.size w0 W) (hw : Below w.heap.size w W) : B ≤ W.heap.size := Nat.le_trans hs hw.size

/-- the dimension of what the first i rows of one and the first j rows of another one have in common, both being bases -/
def CmIs (P : Int) (C : Nat) (A : Nat → Nat → Int) (i : Nat) (B : Nat → Nat → Int) (j : Nat) (m : Int) : Prop := ∃ k : Nat, HasRank P C (i + j) (stackM i A B) k ∧ m = (i : Int) + (j : Int) - (k : Int)
theorem CmIs.one {P : Int} {C i j : Nat} {A B : Nat → Nat → Int} {m m' : Int} (hP : 2 ≤ P) (h : CmIs P C A i B j m) (h' : CmIs P C A i B j m') : m = m' := by
  obtain ⟨k, h1, rfl⟩ := h
  obtain ⟨k', h1', rfl⟩ := h'
  rw [h1.one hP h1']

theorem take_length_le {α : Type} {l : List α} {n : Nat} (h : n ≤ l.length) : (l.take n).length = n := by rw [List.length_take]; omega
theorem take_getD2 {l : List (List Int)} {n i : Nat} (h : i < n) : (l.take n).getD i [] = l.getD i [] := by simp [List.getD_eq_getElem?_getD, List.getElem?_take, h]
theorem RowsOk.take {p : Int} {C n : Nat} {a : List (List Int)} (ha : RowsOk p C a) : RowsOk p C (a.take n) := fun i hi => by
  rw [List.length_take] at hi
  rw [take_getD2 (by omega)]; exact ha i (by omega)
theorem RdII.take {w : World} {p : Option Addr} {n cap k : Nat} {rows : List (List Int)} (h : RdII w (.slice p n cap) rows) (hk : k ≤ rows.length) : RdII w (.slice p k cap) (rows.take k) := by
  obtain ⟨f, ⟨q, c, e, ⟨h1, h2⟩, h3⟩, h4⟩ := h
  injection e with e1 e2 e3
  subst e1 e3
  refine ⟨f, ⟨p, cap, ?_, ⟨by rw [List.length_take]; omega, h2⟩, fun h0 => ?_⟩, fun i hi => ?_⟩
  · rw [take_length_le hk]
  · rw [take_length_le hk] at h0
    obtain ⟨b, off, rfl, hx⟩ := h3 (by omega)
    exact ⟨b, off, rfl, fun j hj => hx j (by rw [List.length_take] at hj; omega)⟩
  · rw [List.length_take] at hi
    rw [take_getD2 (by omega)]
    exact h4 i (by omega)
theorem rowsOf_take {C R n : Nat} {D : List Int} (h : n ≤ R) : (rowsOf R C D).take n = rowsOf n C D := by
  apply List.ext_getElem
  · rw [List.length_take, rowsOf_length, rowsOf_length]; omega
  · intro i h1 h2
    rw [List.getElem_take]
    simp [rowsOf]
/-- common, of the first rows of two matrices -/
theorem common_b (P : Int) (AR BR C i j : Nat) (u v : Value) (DA DB : List Int) (w : World) (hu : RdII w u (rowsOf i C DA)) (hv : RdII w v (rowsOf j C DB)) (hlA : DA.length = AR * C) (hlB : DB.length = BR * C) (hrA : AR ≤ 7) (hrB : BR ≤ 7) (hC : C ≤ 7) (hi : i ≤ AR) (hj : j ≤ BR)
    (hgA : ∀ t, 0 ≤ DA.getD t 0 ∧ DA.getD t 0 < P) (hgB : ∀ t, 0 ≤ DB.getD t 0 ∧ DB.getD t 0 < P) (hpr : primeOk P = true) :
    Calls Try.prog 60 #[u, v, .int .i64 P] w fun e w' =>
      ∃ m : Int, e = .returned (.int .i64 m) ∧ CmIs P C (mf C fun t => DA.getD t 0) i (mf C fun t => DB.getD t 0) j m ∧ -100 ≤ m ∧ m ≤ 100 ∧ Below w.heap.size w w' := by
  have rA : RowsOk P C (rowsOf i C DA) := by
    have := rowsOf_ok (C := C) (R := AR) hlA hgA
    rw [← rowsOf_take hi]; exact this.take
  have rB : RowsOk P C (rowsOf j C DB) := by
    have := rowsOf_ok (C := C) (R := BR) hlB hgB
    rw [← rowsOf_take hj]; exact this.take
  refine (common_any P C u v _ _ w hu hv rA rB hpr (by rw [rowsOf_length]; omega) (by rw [rowsOf_length]; omega) (by omega)).mono ?_
  rintro e w' ⟨n, rfl, hn, hb⟩
  rw [rowsOf_length, rowsOf_length] at hn ⊢
  have e3 := hn.leC
  refine ⟨_, rfl, ⟨n, hn.same ?_, rfl⟩, by omega, by omega, hb⟩
  have := rowsOf_join (P := P) (R := i) (R' := j) (C := C) (D := DA) (D' := DB)
  rwa [List.length_append, rowsOf_length, rowsOf_length] at this

/-- a space and a flag that lie in one -/
def SfIs (P R C : Int) (D : List Int) (P' R' C' : Int) (D' : List Int) : Prop := IsSp P R C D ∧ IsFl P' R' C' D' ∧ P = P' ∧ C = C'
theorem IsSp.facts {P R C : Int} {D : List Int} (h : IsSp P R C D) : ∃ r c : Nat, R = r ∧ C = c ∧ r ≤ 7 ∧ 1 ≤ c ∧ c ≤ 7 ∧ D.length = r * c ∧ (∀ x ∈ D, 0 ≤ x ∧ x < P) ∧ 2 ≤ P ∧ P ≤ 7 ∧ primeOk P = true ∧ HasRank P c r (mf c fun t => D.getD t 0) r := by
  obtain ⟨h1, h2⟩ := h
  obtain ⟨r, c, rfl, rfl, hr, hc0, hc, hlD, hD, hP2, hP7, hpr⟩ := mxOk_facts h1
  unfold SpIs at h2
  rw [if_pos h1] at h2
  obtain ⟨n, M, q, hr2, _, e⟩ := h2
  injection e with _ e2 _ _
  obtain rfl := Int.ofNat.inj e2
  simp only [Int.toNat_natCast] at hr2
  exact ⟨r, c, rfl, rfl, hr, hc0, hc, hlD, hD, hP2, hP7, hpr, M, q, hr2⟩

end Go.Proofs.Ytoodgbflaaabmaa
