/-
  IsSpace, on both sides.
  The rank of one row more (plain law; no program in sight).
  For regions that draw their order: append as a step; what is kept of two boxes and the result's cell.
  Two spaces: l7Two, fitTogether, l7Both.
  The rows of two matrices, one behind the other: l7Both.
  SumSpaces, on both sides.
-/
import Derived.Test.YtoodgbflaaabmaaJ7
import Derived.Test.YtoodgbflaaabmaaJ4
import Derived.Test.YtoodgbflaaabmaaJ6
import Derived.Test.YtoodgbflaaabmaaJ2
import Derived.Test.YtoodgbflaaabmaaJ5
namespace Go.Proofs.Ytoodgbflaaabmaa
set_option linter.all false
open Go.RowKit

/-- what IsSpace returns: is the matrix the reduced form of its own span? -/
def IkIs (P R C : Int) (D : List Int) (b : Bool) : Prop := b = true ↔ mxOk P R C D = true ∧ SpIs P R C D ⟨P, R, C, D⟩
theorem IkIs.one {P R C : Int} {D : List Int} {b b' : Bool} (h : IkIs P R C D b) (h' : IkIs P R C D b') : b = b' := by
  unfold IkIs at h h'
  have e : b = true ↔ b' = true := h.trans h'.symm
  cases b <;> cases b' <;> simp_all
theorem IkIs.eps {P R C : Int} {D : List Int} {b : Bool} (h : IkIs P R C D b) : b = Classical.epsilon (IkIs P R C D) := h.one (Classical.epsilon_spec ⟨b, h⟩)
theorem IkIs.no {P R C : Int} {D : List Int} (h : mxOk P R C D = false) : IkIs P R C D false := by
  unfold IkIs; simp [h]
theorem IkIs.same {P R C n : Int} {D L : List Int} (h : mxOk P R C D = true) (hs : SpIs P R C D ⟨P, n, C, L⟩) : IkIs P R C D (mxSame P R C D P n C L) := by
  unfold IkIs
  constructor
  · intro e
    obtain ⟨_, e2, _, e4⟩ := of_decide_eq_true e
    subst e2 e4
    exact ⟨h, hs⟩
  · rintro ⟨_, h2⟩
    have e := h2.one hs
    injection e with _ e2 _ e4
    exact decide_eq_true ⟨rfl, e2, rfl, e4⟩
theorem IkIs.eql {P R C mP mR mC : Int} {D L : List Int} (h : mxOk P R C D = true) (hs : SpIs P R C D ⟨mP, mR, mC, L⟩) : IkIs P R C D (decide (L = D)) := by
  unfold IkIs
  constructor
  · intro e
    have e := of_decide_eq_true e
    refine ⟨h, ?_⟩
    have hs2 := hs
    unfold SpIs at hs2
    rw [if_pos h] at hs2
    obtain ⟨n, M, q, _, _, e5⟩ := hs2
    injection e5 with e6 e7 e8 e9
    obtain ⟨r, c, rfl, rfl, _, hc0, _, hlD, _⟩ := mxOk_facts h
    have hl : n * c = r * c := by
      rw [← hlD, ← e, e9, flatM_length]
      simp
    have hn : n = r := Nat.eq_of_mul_eq_mul_right (by omega) hl
    rw [e6, e7, e8, e, hn] at hs
    exact hs
  · rintro ⟨_, h2⟩
    have e := h2.one hs
    injection e with _ _ _ e4
    exact decide_eq_true e4.symm

set_option maxRecDepth 100000 in
set_option maxHeartbeats 16000000 in
theorem implIsSpace_ex (P R C : Int) (d : Value) (D : List Int) (w : World) (hd : Ints w d D) :
    Calls Try.prog 22 #[.agg #[.int .i64 P, .int .i64 R, .int .i64 C, d]] w fun e w' => ∃ r, e = .returned (.bool r) ∧ IkIs P R C D r ∧ Below w.heap.size w w' := by
  have Hd := Lib.hid hd
  obtain ⟨p, cap, rfl, ⟨_, mx⟩, _⟩ := hd
  unfold maxLen at mx
  cases h1 : mxOk P R C D with
  | false =>
    have H1 := Lib.hid h1
    clear h1
    have Z := Lib.hid (heap_alloc_top w (.cells #[.int .i64 P, .int .i64 R, .int .i64 C, .slice p D.length cap] 34))
    have Hd0 := Lib.hid (Hd.out.below (below_alloc w (.cells #[.int .i64 P, .int .i64 R, .int .i64 C, .slice p D.length cap] 34)))
    have Hba := Lib.hid (below_alloc w (.cells #[.int .i64 P, .int .i64 R, .int .i64 C, .slice p D.length cap] 34))
    go_enter Try.func22, Try.ntmps22
    go_wp2_with fail
    generalize w.alloc (.cells #[.int .i64 P, .int .i64 R, .int .i64 C, .slice p D.length cap] 34) = wa at *
    obtain ⟨c0, c1, c2, c3, cf, cz⟩ := blk4 Z.out
    refine wp_region_held_drew (S := (fun w' => (w'.cell? ⟨w.heap.size, 0, none⟩ = some (.int .i64 P) ∧ w'.cell? ⟨w.heap.size, 1, none⟩ = some (.int .i64 R) ∧ w'.cell? ⟨w.heap.size, 2, none⟩ = some (.int .i64 C) ∧ w'.cell? ⟨w.heap.size, 3, none⟩ = some (.slice p D.length cap)) ∧ Below wa.heap.size wa w')) (by kernel_rfl) ?_ (fun hHeld => ?_)
    · exact ⟨⟨c0, c1, c2, c3⟩, (Below.refl _ _).drew⟩
    refine wpAnyH_take (i := 0) (v := .agg #[.int .i64 P, .int .i64 R, .int .i64 C, .slice p D.length cap]) rfl (by kernel_rfl) (by kernel_rfl) (by kernel_rfl) (fun _ _ _ h => h) (Or.inl ⟨by rfl, fun w hSw => by dsimp only at hSw; go_simp⟩) (by assumption) ?_
    simp only [Act.put, List.getElem_toArray, List.getElem_cons_succ, List.getElem_cons_zero, List.setIfInBounds_toArray, List.set_cons_zero, List.set_cons_succ]
    refine wpAnyH_ready (rs := [1]) (by kernel_rfl) (by simp) ?_
    refine AllReadyH.cons rfl (fun K hK => ?_) AllReadyH.nil
    go_simp
    refine (implMatrixOk_b _ _ _ _ _ _ H1.out _ (Hd0.out.below (Below.refl _ _).drew)).mono ?_
    rintro e w' ⟨rfl, hb1⟩
    go_wp2_with fail
    refine hK.out _ _ ?_ (fun hHeld => ?_)
    · exact keep4 hb1 (by assumption)
    clear hK K
    try simp only [Act.put, List.getElem_toArray, List.getElem_cons_succ, List.getElem_cons_zero, List.setIfInBounds_toArray, List.set_cons_zero, List.set_cons_succ]
    refine wpAnyH_take (i := 2) (v := .bool false) rfl (by kernel_rfl) (by kernel_rfl) (by kernel_rfl) (fun _ _ _ h => h) (Or.inl ⟨by rfl, fun w hSw => by dsimp only at hSw; go_simp⟩) (by assumption) ?_
    simp only [Act.put, List.getElem_toArray, List.getElem_cons_succ, List.getElem_cons_zero, List.setIfInBounds_toArray, List.set_cons_zero, List.set_cons_succ]
    refine wpAnyH_take (i := 3) (v := undef) rfl (by kernel_rfl) (by kernel_rfl) (by kernel_rfl) (fun _ _ _ h => h) (Or.inr ⟨by rfl, rfl⟩) (by assumption) ?_
    simp only [Act.put, List.getElem_toArray, List.getElem_cons_succ, List.getElem_cons_zero, List.setIfInBounds_toArray, List.set_cons_zero, List.set_cons_succ]
    refine wpAnyH_take (i := 4) (v := undef) rfl (by kernel_rfl) (by kernel_rfl) (by kernel_rfl) (fun _ _ _ h => h) (Or.inr ⟨by rfl, rfl⟩) (by assumption) ?_
    simp only [Act.put, List.getElem_toArray, List.getElem_cons_succ, List.getElem_cons_zero, List.setIfInBounds_toArray, List.set_cons_zero, List.set_cons_succ]
    refine wpAnyH_take (i := 5) (v := undef) rfl (by kernel_rfl) (by kernel_rfl) (by kernel_rfl) (fun _ _ _ h => h) (Or.inr ⟨by rfl, rfl⟩) (by assumption) ?_
    simp only [Act.put, List.getElem_toArray, List.getElem_cons_succ, List.getElem_cons_zero, List.setIfInBounds_toArray, List.set_cons_zero, List.set_cons_succ]
    refine wpAnyH_take (i := 6) (v := undef) rfl (by kernel_rfl) (by kernel_rfl) (by kernel_rfl) (fun _ _ _ h => h) (Or.inr ⟨by rfl, rfl⟩) (by assumption) ?_
    simp only [Act.put, List.getElem_toArray, List.getElem_cons_succ, List.getElem_cons_zero, List.setIfInBounds_toArray, List.set_cons_zero, List.set_cons_succ]
    refine wpAnyH_take (i := 7) (v := undef) rfl (by kernel_rfl) (by kernel_rfl) (by kernel_rfl) (fun _ _ _ h => h) (Or.inr ⟨by rfl, rfl⟩) (by assumption) ?_
    simp only [Act.put, List.getElem_toArray, List.getElem_cons_succ, List.getElem_cons_zero, List.setIfInBounds_toArray, List.set_cons_zero, List.set_cons_succ]
    refine wpAnyH_take (i := 8) (v := undef) rfl (by kernel_rfl) (by kernel_rfl) (by kernel_rfl) (fun _ _ _ h => h) (Or.inr ⟨by rfl, rfl⟩) (by assumption) ?_
    simp only [Act.put, List.getElem_toArray, List.getElem_cons_succ, List.getElem_cons_zero, List.setIfInBounds_toArray, List.set_cons_zero, List.set_cons_succ]
    refine wpAnyH_take (i := 9) (v := .bool false) rfl (by kernel_rfl) (by kernel_rfl) (by kernel_rfl) (fun _ _ _ h => h) (Or.inl ⟨by rfl, fun w hSw => by dsimp only at hSw; go_simp⟩) (by assumption) ?_
    simp only [Act.put, List.getElem_toArray, List.getElem_cons_succ, List.getElem_cons_zero, List.setIfInBounds_toArray, List.set_cons_zero, List.set_cons_succ]
    refine wpAnyH_take (i := 10) (v := .bool false) rfl (by kernel_rfl) (by kernel_rfl) (by kernel_rfl) (fun _ _ _ h => h) (Or.inl ⟨by rfl, fun w hSw => by dsimp only at hSw; go_simp⟩) (by assumption) ?_
    simp only [Act.put, List.getElem_toArray, List.getElem_cons_succ, List.getElem_cons_zero, List.setIfInBounds_toArray, List.set_cons_zero, List.set_cons_succ]
    refine wpAnyH_done (by kernel_rfl) ?_ _
    have hbw := held_below (by assumption)
    have Hbw := Lib.hid (Hba.out.trans (Below.mono hbw Hba.out.size))
    go_wp2_with fail
    go_ret
    exact ⟨_, rfl, IkIs.no H1.out, Hbw.out⟩
  | true =>
    obtain ⟨r, c, rfl, rfl, hr, hc0, hc, hlD, hD, hP2, hP7, hpr⟩ := mxOk_facts h1
    have H1 := Lib.hid h1
    have HlD := Lib.hid hlD
    clear h1 hlD hD hpr
    have Z := Lib.hid (heap_alloc_top w (.cells #[.int .i64 P, .int .i64 (r : Int), .int .i64 (c : Int), .slice p D.length cap] 34))
    have Hd0 := Lib.hid (Hd.out.below (below_alloc w (.cells #[.int .i64 P, .int .i64 (r : Int), .int .i64 (c : Int), .slice p D.length cap] 34)))
    have Hba := Lib.hid (below_alloc w (.cells #[.int .i64 P, .int .i64 (r : Int), .int .i64 (c : Int), .slice p D.length cap] 34))
    go_enter Try.func22, Try.ntmps22
    go_wp2_with fail
    generalize w.alloc (.cells #[.int .i64 P, .int .i64 (r : Int), .int .i64 (c : Int), .slice p D.length cap] 34) = wa at *
    obtain ⟨c0, c1, c2, c3, cf, cz⟩ := blk4 Z.out
    have hfd : ∀ (a b c' : Int) (ps : Option Addr) (n ks : Nat) (W : World), (Instr.field 34 (.agg #[.int .i64 a, .int .i64 b, .int .i64 c', .slice ps n ks]) 3).run Try.prog W = .ok (.slice ps n ks) W := fun _ _ _ _ _ _ _ => by kernel_rfl
    first | (go_region_held3 (fun w' => (w'.cell? ⟨w.heap.size, 0, none⟩ = some (.int .i64 P) ∧ w'.cell? ⟨w.heap.size, 1, none⟩ = some (.int .i64 (r : Int)) ∧ w'.cell? ⟨w.heap.size, 2, none⟩ = some (.int .i64 (c : Int)) ∧ w'.cell? ⟨w.heap.size, 3, none⟩ = some (.slice p D.length cap)) ∧ Below wa.heap.size wa w')
      (first | exact ⟨⟨c0, c1, c2, c3⟩, (Below.refl _ _).drew⟩ | exact keep4 hb1 (by assumption))
      (first
        | (go_at_call 52; refine (implMatrixOk_b _ _ _ _ _ _ H1.out _ (held_ints Hd0.out (by assumption))).mono ?_; rintro e w' ⟨rfl, hb1⟩)
        | (go_at_call 54; refine (implSpanOf_ex P r c _ D _ (held_ints Hd0.out (by assumption))).mono ?_; rintro e w' ⟨m, hm, u, rfl, hoS, hb1⟩; obtain ⟨mP, mR, mC, L⟩ := m; have hoS : OwnI 3 w' _ w'.heap.size u L := hoS; obtain ⟨ps, ks, rfl, _, _⟩ := hoS.shape)
        | (go_at_call 53; refine (sliceEq_b _ _ L D _ (OwnI.below hoS (by first | exact Below.refl _ _ | exact (Below.refl _ _).drew)).ints (held_ints Hd0.out (by assumption))).mono ?_; rintro e w' ⟨rfl, hb1⟩))) | fail
    have hbw := held_below (by assumption)
    have Hbw := Lib.hid (Hba.out.trans (Below.mono hbw Hba.out.size))
    have Hsp := Lib.hid hm
    clear hm
    go_wp2_with fail
    go_ret
    exact ⟨_, rfl, IkIs.eql H1.out Hsp.out, Hbw.out⟩

theorem implIsSpace_any (P R C : Int) (d : Value) (D : List Int) (w : World) (hd : Ints w d D) :
    Calls Try.prog 22 #[.agg #[.int .i64 P, .int .i64 R, .int .i64 C, d]] w fun e w' => e = .returned (.bool (Classical.epsilon (IkIs P R C D))) ∧ Below w.heap.size w w' :=
  (implIsSpace_ex P R C d D w hd).mono fun e w' ⟨r, h1, h2, h3⟩ => ⟨by rw [h1, h2.eps], h3⟩

end Go.Proofs.Ytoodgbflaaabmaa

namespace Go.Proofs.Ytoodgbflaaabmaa
set_option linter.all false
open Go.RowKit

/-- the rank is told by what is spanned -/
theorem HasRank.same {P : Int} {C R R' n : Nat} {M0 M1 : Nat → Nat → Int} (h : HasRank P C R M0 n) (hs : SameSp P C R' M1 R M0) : HasRank P C R' M1 n := by
  obtain ⟨M, q, h1, h2, h3, h4⟩ := h
  exact ⟨M, q, h1, h2, h3, hs.trans h4⟩
theorem HasRank.zero (P : Int) (C : Nat) (M0 : Nat → Nat → Int) : HasRank P C 0 M0 0 :=
  ⟨M0, fun i => i, ⟨fun i hi => absurd hi (Nat.not_lt_zero _), fun i k hi => absurd hi (Nat.not_lt_zero _), fun i j hi => absurd hi (Nat.not_lt_zero _)⟩,
    fun i k _ hk => absurd hk (Nat.not_lt_zero _), fun i c hi => absurd hi (Nat.not_lt_zero _), .refl⟩
theorem HasRank.congr {P : Int} {C R n : Nat} {M0 M1 : Nat → Nat → Int} (h : HasRank P C R M0 n) (e : ∀ i j, i < R → j < C → M1 i j = M0 i j) : HasRank P C R M1 n :=
  h.same (SameSp.of_eqv fun i hi => .of_eq fun j hj => e i j hi hj)

/-- an order in which numbers ascend -/
theorem order_ex (n : Nat) (q : Nat → Nat) (hq : ∀ i k, i < n → k < n → q i = q k → i = k) :
    ∃ τ σ : Nat → Nat, (∀ i, i < n → τ i < n) ∧ (∀ i, i < n → σ i < n ∧ τ (σ i) = i) ∧ (∀ i k, i < n → k < n → τ i = τ k → i = k) ∧ ∀ i k, i < k → k < n → q (τ i) < q (τ k) := by
  let le : Nat → Nat → Bool := fun a b => decide (q a ≤ q b)
  let l := (List.range n).mergeSort le
  have hp : l.Perm (List.range n) := List.mergeSort_perm _ _
  have hs : l.Pairwise fun a b => le a b = true := List.pairwise_mergeSort (fun a b c h1 h2 => by simp [le] at *; omega) (fun a b => by simp [le]; omega) _
  have hlen : l.length = n := by rw [hp.length_eq]; simp
  have hnd : l.Nodup := hp.nodup_iff.2 List.nodup_range
  have hget : ∀ i, i < n → l.getD i 0 ∈ l := fun i hi => by
    rw [List.getD_eq_getElem?_getD, List.getElem?_eq_getElem (by omega)]
    exact List.getElem_mem _
  have hlt : ∀ i, i < n → l.getD i 0 < n := fun i hi => by
    have := hp.mem_iff.1 (hget i hi)
    simpa using this
  have hinj : ∀ i k, i < n → k < n → l.getD i 0 = l.getD k 0 → i = k := fun i k hi hk e => by
    rw [List.getD_eq_getElem?_getD, List.getD_eq_getElem?_getD, List.getElem?_eq_getElem (by omega), List.getElem?_eq_getElem (by omega)] at e
    exact (List.getElem_inj hnd).1 (by simpa using e)
  have hsur : ∀ i, i < n → ∃ k, k < n ∧ l.getD k 0 = i := fun i hi => by
    have : i ∈ l := hp.mem_iff.2 (by simpa using hi)
    obtain ⟨k, hk, e⟩ := List.mem_iff_getElem.1 this
    exact ⟨k, by omega, by rw [List.getD_eq_getElem?_getD, List.getElem?_eq_getElem hk, Option.getD_some, e]⟩
  refine ⟨fun i => l.getD i 0, fun i => if h : i < n then Classical.choose (hsur i h) else 0, hlt, fun i hi => ?_, hinj, fun i k hik hk => ?_⟩
  · simp only [hi, dif_pos]
    exact Classical.choose_spec (hsur i hi)
  · have h1 := List.pairwise_iff_getElem.1 hs i k (by omega) (by omega) hik
    have h2 : q (l.getD i 0) ≤ q (l.getD k 0) := by
      rw [List.getD_eq_getElem?_getD, List.getD_eq_getElem?_getD, List.getElem?_eq_getElem (by omega), List.getElem?_eq_getElem (by omega)]
      exact of_decide_eq_true h1
    rcases Nat.lt_or_ge (q (l.getD i 0)) (q (l.getD k 0)) with h | h
    · exact h
    · have := hinj i k (by omega) hk (hq _ _ (hlt i (by omega)) (hlt k hk) (by omega))
      omega

/-- rows with columns of their own, put in order -/
theorem Red.sort {P : Int} {C n : Nat} {M : Nat → Nat → Int} {q : Nat → Nat} (h : Red P C n M q) (hr : ∀ i c, i < n → c < C → 0 ≤ M i c ∧ M i c < P) : ∃ M' q', IsRed P C n M n M' q' := by
  have hinj : ∀ i k, i < n → k < n → q i = q k → i = k := fun i k hi hk e => by
    have a := h.unit i k hi hk
    rw [← e, h.unit i i hi hi, if_pos rfl] at a
    by_cases e2 : i = k
    · exact e2
    · rw [if_neg e2] at a; cases a
  obtain ⟨τ, σ, h1, h2, h3, h4⟩ := order_ex n q hinj
  refine ⟨fun i => M (τ i), fun i => q (τ i), ⟨fun i hi => h.lt _ (h1 i hi), fun i k hi hk => ?_, fun i j hi hj => h.lead _ j (h1 i hi) hj⟩, h4, fun i c hi hc => hr _ c (h1 i hi) hc, ?_⟩
  · rw [h.unit _ _ (h1 i hi) (h1 k hk)]
    by_cases e : i = k
    · subst e; simp
    · rw [if_neg e, if_neg fun e2 => e (h3 i k hi hk e2)]
  · refine SameSp.perm σ τ (fun i hi => ⟨(h2 i hi).1, ?_⟩) (fun i hi => ⟨h1 i hi, .refl _ _ _⟩)
    rw [(h2 i hi).2]; exact .refl _ _ _

theorem El.all {p : Int} {C : Nat} {out : List (List Int)} {q : Nat → Nat} {r : List Int} (hp : 2 ≤ p) (hr : Red p C out.length (mt out) q) (h : RowOk p C r) : ∀ t, t ≤ out.length → ∃ cur, El p C out q r cur t
  | 0, _ => ⟨r, El.start h⟩
  | t + 1, ht => by
    obtain ⟨cur, hc⟩ := El.all hp hr h t (by omega)
    exact ⟨_, hc.step hp hr (by omega)⟩

/-- rows of functions as lists -/
def rowsL (n C : Nat) (M : Nat → Nat → Int) : List (List Int) := (List.range n).map fun i => (List.range C).map (M i)
theorem rowsL_length (n C : Nat) (M : Nat → Nat → Int) : (rowsL n C M).length = n := by simp [rowsL]
theorem rowsL_mt {n C i j : Nat} {M : Nat → Nat → Int} (hi : i < n) (hj : j < C) : mt (rowsL n C M) i j = M i j := by
  simp [mt, rowsL, List.getD_eq_getElem?_getD, hi, hj]
theorem rowL_ok {P : Int} {C : Nat} {r : Nat → Int} (hP : 0 < P) (hr : ∀ j, j < C → 0 ≤ r j ∧ r j < P) : RowOk P C ((List.range C).map r) := by
  refine ⟨by simp, fun j => ?_⟩
  by_cases hj : j < C
  · simpa [List.getD_eq_getElem?_getD, hj] using hr j hj
  · rw [getD_out (by simp; omega)]; omega
theorem rowsL_ok {P : Int} {n C : Nat} {M : Nat → Nat → Int} (hP : 0 < P) (hr : ∀ i j, i < n → j < C → 0 ≤ M i j ∧ M i j < P) : RowsOk P C (rowsL n C M) := fun i hi => by
  rw [rowsL_length] at hi
  have e : (rowsL n C M).getD i [] = (List.range C).map (M i) := by simp [rowsL, List.getD_eq_getElem?_getD, hi]
  rw [e]
  exact rowL_ok hP (hr i · hi)

/-- a matrix with a row behind it -/
def snocM (n : Nat) (M : Nat → Nat → Int) (r : Nat → Int) (i : Nat) : Nat → Int := if i < n then M i else r

/-- with a row more the rank is the same or one more -/
theorem HasRank.more {P : Int} {C n k : Nat} {M0 : Nat → Nat → Int} (hp : primeOk P = true) (h : HasRank P C n M0 k) (r : Nat → Int) (hr : ∀ j, j < C → 0 ≤ r j ∧ r j < P) :
    ∃ k', (k' = k ∨ k' = k + 1) ∧ HasRank P C (n + 1) (snocM n M0 r) k' := by
  obtain ⟨hP2, hP7⟩ := primeOk_range hp
  obtain ⟨M, q, h1, h2, h3, h4⟩ := h
  obtain ⟨out, hout⟩ : ∃ out, out = rowsL k C M := ⟨_, rfl⟩
  have hl : out.length = k := by rw [hout, rowsL_length]
  have hm : ∀ i j, i < k → j < C → mt out i j = M i j := fun i j hi hj => by rw [hout]; exact rowsL_mt hi hj
  have hred : Red P C out.length (mt out) q := by
    rw [hl]
    refine ⟨h1.lt, fun i m hi hm' => ?_, fun i j hi hj => ?_⟩
    · rw [hm i _ hi (h1.lt m hm')]; exact h1.unit i m hi hm'
    · have := h1.lt i hi
      rw [hm i j hi (by omega)]; exact h1.lead i j hi hj
  have hok : RowsOk P C out := by rw [hout]; exact rowsL_ok (by omega) h3
  have hrow : RowOk P C ((List.range C).map r) := rowL_ok (by omega) hr
  have hsp : SameSp P C (n + 1) (snocM n M0 r) (out.length + 1) (mt (out ++ [(List.range C).map r])) := by
    have e0 : SameSp P C n M0 out.length (mt out) := by
      rw [hl]
      exact h4.trans (SameSp.of_eqv fun i hi => .of_eq fun j hj => (hm i j hi hj).symm)
    have e1 : SameSp P C n (snocM n M0 r) out.length (mt out) := (SameSp.of_eqv fun i hi => by unfold snocM; rw [if_pos hi]; exact .refl _ _ _).trans e0
    refine SameSp.snoc e1 ?_ fun i hi => by rw [mt_snoc_lt hi]; exact .refl _ _ _
    rw [mt_snoc_at]
    unfold snocM
    rw [if_neg (Nat.lt_irrefl _)]
    exact .of_eq fun j hj => by simp [List.getD_eq_getElem?_getD, hj]
  generalize (List.range C).map r = rl at *
  obtain ⟨cur, hel⟩ := El.all (r := rl) hP2 hred hrow out.length (Nat.le_refl _)
  have hcl := hel.ok.1
  rcases pivL_cases cur with ⟨_, h0⟩ | ⟨K, _, hK, hKn, hK0⟩
  · refine ⟨k, .inl rfl, ?_⟩
    have := hsp.trans (hel.none h0)
    obtain ⟨M', q', hs⟩ := hred.sort fun i c hi hc => by rw [hl] at hi; rw [hm i c hi hc]; exact h3 i c hi hc
    rw [hl] at hs this
    exact HasRank.same ⟨M', q', hs⟩ this
  · refine ⟨k + 1, .inr rfl, ?_⟩
    have hKr := hel.ok.2 K
    obtain ⟨s, hs0, hs1, hs2⟩ := inv_ex (p := P) (x := cur.getD K 0) hp (by omega) (by omega)
    obtain ⟨t1, t2, t3⟩ := hel.more hP2 hred hok (by omega) hK0 hKn hs2
    have hlen : (clearL P K out (scaleL P s cur) out.length ++ [scaleL P s cur]).length = out.length + 1 := by simp [clearL_length]
    obtain ⟨M', q', hs⟩ := t1.sort fun i c hi hc => (t2 i (by omega)).2 c
    have hk : out.length + 1 = k + 1 := by omega
    rw [hk] at hs t3 hsp
    exact HasRank.same ⟨M', q', hs⟩ (hsp.trans t3)

/-- the ranks of the first rows -/
theorem ranks_ex {P : Int} {C : Nat} {M : Nat → Nat → Int} (hp : primeOk P = true) (R : Nat) (hr : ∀ i j, i < R → j < C → 0 ≤ M i j ∧ M i j < P) :
    ∃ f : Nat → Nat, f 0 = 0 ∧ (∀ n, n ≤ R → HasRank P C n M (f n)) ∧ ∀ n, n < R → f (n + 1) = f n ∨ f (n + 1) = f n + 1 := by
  obtain ⟨hP2, hP7⟩ := primeOk_range hp
  have hex : ∀ n, n ≤ R → ∃ k, HasRank P C n M k := by
    intro n
    induction n with
    | zero => exact fun _ => ⟨0, .zero _ _ _⟩
    | succ n ih =>
      intro hn
      obtain ⟨k, hk⟩ := ih (by omega)
      obtain ⟨k', _, hk'⟩ := hk.more hp (M n) (hr n · (by omega))
      exact ⟨k', hk'.congr fun i j hi hj => by unfold snocM; split; rfl; rw [show i = n by omega]⟩
  refine ⟨fun n => if h : n ≤ R then Classical.choose (hex n h) else 0, ?_, fun n hn => ?_, fun n hn => ?_⟩
  · simp only [Nat.zero_le, dif_pos]
    exact (Classical.choose_spec (hex 0 (Nat.zero_le _))).one hP2 (.zero _ _ _)
  · simp only [hn, dif_pos]
    exact Classical.choose_spec (hex n hn)
  · simp only [show n ≤ R by omega, show n + 1 ≤ R by omega, dif_pos]
    have h1 := Classical.choose_spec (hex n (by omega))
    have h2 := Classical.choose_spec (hex (n + 1) (by omega))
    generalize Classical.choose (hex n (by omega)) = a at *
    generalize Classical.choose (hex (n + 1) (by omega)) = b at *
    obtain ⟨k', hk, hk'⟩ := h1.more hp (M n) (hr n · hn)
    have := (hk'.congr (M1 := M) fun i j hi hj => by unfold snocM; split; rfl; rw [show i = n by omega]).one hP2 h2
    omega
theorem steps_le {f : Nat → Nat} {R : Nat} (h : ∀ n, n < R → f (n + 1) = f n ∨ f (n + 1) = f n + 1) : ∀ d n, n + d ≤ R → f n ≤ f (n + d) ∧ f (n + d) ≤ f n + d
  | 0, n, _ => ⟨Nat.le_refl _, Nat.le_refl _⟩
  | d + 1, n, hd => by
    have a := steps_le h d n (by omega)
    have b := h (n + d) (by omega)
    have e : n + (d + 1) = n + d + 1 := by omega
    rw [e]
    omega
theorem HasRank.le {P : Int} {C R k : Nat} {M : Nat → Nat → Int} (hp : primeOk P = true) (hr : ∀ i j, i < R → j < C → 0 ≤ M i j ∧ M i j < P) (h : HasRank P C R M k) : k ≤ R := by
  obtain ⟨f, f0, f1, f2⟩ := ranks_ex hp R hr
  have := h.one (primeOk_range hp).1 (f1 R (Nat.le_refl _))
  have a := steps_le f2 R 0 (by omega)
  rw [Nat.zero_add] at a
  omega
theorem asc_bound {n C : Nat} {q : Nat → Nat} (h : ∀ i k, i < k → k < n → q i < q k) (hl : ∀ i, i < n → q i < C) : n ≤ C := by
  have : ∀ i, i < n → i ≤ q i := by
    intro i
    induction i with
    | zero => exact fun _ => Nat.zero_le _
    | succ i ih =>
      intro hi
      have a := ih (by omega)
      have b := h i (i + 1) (by omega) hi
      omega
  rcases Nat.eq_zero_or_pos n with e | e
  · omega
  · have a := this (n - 1) (by omega)
    have b := hl (n - 1) (by omega)
    omega
theorem HasRank.leC {P : Int} {C R k : Nat} {M : Nat → Nat → Int} (h : HasRank P C R M k) : k ≤ C := by
  obtain ⟨M', q, h1, h2, _⟩ := h
  exact asc_bound h2 h1.lt
/-- where the rank is the number of rows, so it is for the first of them -/
theorem HasRank.part {P : Int} {C R i : Nat} {M : Nat → Nat → Int} (hp : primeOk P = true) (hr : ∀ i j, i < R → j < C → 0 ≤ M i j ∧ M i j < P) (h : HasRank P C R M R) (hi : i ≤ R) : HasRank P C i M i := by
  obtain ⟨f, f0, f1, f2⟩ := ranks_ex hp R hr
  have e := h.one (primeOk_range hp).1 (f1 R (Nat.le_refl _))
  have a := steps_le f2 i 0 (by omega)
  have b := steps_le f2 (R - i) i (by omega)
  rw [Nat.zero_add] at a
  rw [show i + (R - i) = R by omega] at b
  have := f1 i hi
  rwa [show f i = i by omega] at this

/-- the first i rows of one, and the first j rows of another one behind them -/
def stackM (i : Nat) (A B : Nat → Nat → Int) (t : Nat) : Nat → Int := if t < i then A t else B (t - i)
theorem stackM_lt {i t : Nat} {A B : Nat → Nat → Int} (h : t < i) : stackM i A B t = A t := by unfold stackM; rw [if_pos h]
theorem stackM_ge {i t : Nat} {A B : Nat → Nat → Int} (h : ¬ t < i) : stackM i A B t = B (t - i) := by unfold stackM; rw [if_neg h]
theorem snocM_lt {n t : Nat} {M : Nat → Nat → Int} {r : Nat → Int} (h : t < n) : snocM n M r t = M t := by unfold snocM; rw [if_pos h]
theorem snocM_at (n : Nat) (M : Nat → Nat → Int) (r : Nat → Int) : snocM n M r n = r := by unfold snocM; rw [if_neg (Nat.lt_irrefl _)]
theorem stackM_rng {P : Int} {C i j : Nat} {A B : Nat → Nat → Int} (ha : ∀ t c, t < i → c < C → 0 ≤ A t c ∧ A t c < P) (hb : ∀ t c, t < j → c < C → 0 ≤ B t c ∧ B t c < P) :
    ∀ t c, t < i + j → c < C → 0 ≤ stackM i A B t c ∧ stackM i A B t c < P := fun t c ht hc => by
  unfold stackM
  split
  · exact ha t c (by assumption) hc
  · exact hb _ c (by omega) hc
/-- a row more in the first one: the rank is the same or one more -/
theorem stack_step {P : Int} {C i j k k' : Nat} {A B : Nat → Nat → Int} (hp : primeOk P = true) (hr : ∀ c, c < C → 0 ≤ A i c ∧ A i c < P)
    (h : HasRank P C (i + j) (stackM i A B) k) (h' : HasRank P C (i + 1 + j) (stackM (i + 1) A B) k') : k' = k ∨ k' = k + 1 := by
  obtain ⟨m, hm, h2⟩ := h.more hp (A i) hr
  have hs : SameSp P C (i + 1 + j) (stackM (i + 1) A B) (i + j + 1) (snocM (i + j) (stackM i A B) (A i)) := by
    refine SameSp.perm (fun t => if t < i then t else if t = i then i + j else t - 1) (fun t => if t < i then t else if t = i + j then i else t + 1) (fun t ht => ?_) (fun t ht => ?_)
    · by_cases h1 : t < i
      · simp only [h1, if_true]
        rw [stackM_lt (show t < i + 1 by omega), snocM_lt (show t < i + j by omega), stackM_lt h1]
        exact ⟨by omega, .refl _ _ _⟩
      · by_cases h2 : t = i
        · subst h2
          simp only [h1, if_false, if_true]
          rw [stackM_lt (show t < t + 1 by omega), snocM_at]
          exact ⟨by omega, .refl _ _ _⟩
        · simp only [h1, h2, if_false]
          rw [stackM_ge (show ¬ t < i + 1 by omega), snocM_lt (show t - 1 < i + j by omega), stackM_ge (show ¬ t - 1 < i by omega), show t - (i + 1) = t - 1 - i by omega]
          exact ⟨by omega, .refl _ _ _⟩
    · by_cases h1 : t < i
      · simp only [h1, if_true]
        rw [snocM_lt (show t < i + j by omega), stackM_lt h1, stackM_lt (show t < i + 1 by omega)]
        exact ⟨by omega, .refl _ _ _⟩
      · by_cases h2 : t = i + j
        · subst h2
          simp only [h1, if_false, if_true]
          rw [snocM_at, stackM_lt (show i < i + 1 by omega)]
          exact ⟨by omega, .refl _ _ _⟩
        · simp only [h1, h2, if_false]
          rw [snocM_lt (show t < i + j by omega), stackM_ge h1, stackM_ge (show ¬ t + 1 < i + 1 by omega), show t + 1 - (i + 1) = t - i by omega]
          exact ⟨by omega, .refl _ _ _⟩
  have := h'.one (primeOk_range hp).1 (h2.same hs)
  omega

end Go.Proofs.Ytoodgbflaaabmaa

namespace Go.Proofs.Ytoodgbflaaabmaa
set_option linter.all false
open Go.RowKit

/-- append, as a step of a region that draws -/
theorem step_append_F {P : Program} {w : World} {ops : Array Oper} {o : Oper} {a : Act} {K : Act → World → Prop} {Q : Exit → Act → World → Prop} {E : Prop} (hgd : o.guard = none) (s x : Operand) (t : TypeId)
    (ho : o.op = .call { callee := .builtin .append, args := #[s, x], argTypes := #[t, t] })
    (e : TypeId) (z : Value) (bytes : Nat) (ht : P.underlying t = some (.slice e)) (hinfo : (P.info? e).map (fun i => (i.zero, i.size, i.bytes)) = some (some z, 1, bytes)) (hzs : z.cells.size = 1)
    (lo hi' : Nat) (v : Value) (n : Nat) (f : Nat → Value) (hs : a.eval s = v) (hown : OwnF w lo hi' e v n f) (hlo : lo ≤ w.heap.size) (hhi : hi' ≤ w.heap.size)
    (u : Value) (m : Nat) (g : Nat → Value) (hxu : a.eval x = u) (hx : Rd w u m g) (h1 : ∀ j, j < m → (g j).oneCell' = true) (h63 : n + m ≤ maxLen) (hbytes : (n + m) * bytes ≤ 140737488355328)
    (h : ∀ v' w', OwnF w' lo w'.heap.size e v' (n + m) (fun j => if j < n then f j else g (j - n)) → w.grownBy w' v.ownBlock → K (a.put o.dst v') w') :
    if Region.wanted o (yielded ops a.tmps) = true then Oper.wp P o a w K Q else E := by
  have hw : Region.wanted o (yielded ops a.tmps) = true := by simp [Region.wanted, hgd]
  rw [if_pos hw]
  obtain ⟨i, hi, hz, hsz, hby⟩ := info_parts hinfo
  obtain ⟨v', w', hr, h2, h3⟩ := run_append_F (P := P) w t o.type e i z bytes ht hi hz hsz hby hzs lo hi' v n f hown hlo hhi u m g hx h1 h63 hbytes
  unfold Oper.wp
  simp [execOp, ho, resolve, invoke, builtin, hs, hxu, hr, Result.andThen]
  exact h v' w' h2 h3

theorem grownBy_below2 {w w' : World} {v : Value} {lo hi : Nat} {T : TypeId} {n : Nat} {f : Nat → Value} (h : w.grownBy w' v.ownBlock) (ho : OwnF w lo hi T v n f) {B : Nat} (h1 : B ≤ lo) (h2 : B ≤ w.heap.size) : Below B w w' :=
  grownBy_below h ho.blocks h1 h2

/-- eight cells that are read, and a block for the result -/
theorem keep9 {w W W' : World} {a0 a1 a2 a3 a4 a5 a6 a7 : Addr} {v0 v1 v2 v3 v4 v5 v6 v7 : Value} {b : Nat} {T : TypeId} (hb : Below W.heap.size W W')
    (h : ((W.cell? a0 = some v0 ∧ W.cell? a1 = some v1 ∧ W.cell? a2 = some v2 ∧ W.cell? a3 = some v3 ∧ W.cell? a4 = some v4 ∧ W.cell? a5 = some v5 ∧ W.cell? a6 = some v6 ∧ W.cell? a7 = some v7) ∧ ∃ y0 y1 y2 y3, W.heap[b]? = some (.cells #[y0, y1, y2, y3] T (0, 0))) ∧ Below w.heap.size w W) :
    ((W'.cell? a0 = some v0 ∧ W'.cell? a1 = some v1 ∧ W'.cell? a2 = some v2 ∧ W'.cell? a3 = some v3 ∧ W'.cell? a4 = some v4 ∧ W'.cell? a5 = some v5 ∧ W'.cell? a6 = some v6 ∧ W'.cell? a7 = some v7) ∧ ∃ y0 y1 y2 y3, W'.heap[b]? = some (.cells #[y0, y1, y2, y3] T (0, 0))) ∧ Below w.heap.size w W' := by
  obtain ⟨⟨⟨h0, h1, h2, h3, h4, h5, h6, h7⟩, y0, y1, y2, y3, hy⟩, hB⟩ := h
  exact ⟨⟨⟨cell_below hb h0, cell_below hb h1, cell_below hb h2, cell_below hb h3, cell_below hb h4, cell_below hb h5, cell_below hb h6, cell_below hb h7⟩, y0, y1, y2, y3, blk_later hy hb⟩, hB.trans (hb.mono hB.size)⟩
theorem keep9_gen {w W W' : World} {b1 b2 o0 o1 o2 o3 o4 o5 o6 o7 : Nat} {v0 v1 v2 v3 v4 v5 v6 v7 z0 z1 z2 z3 : Value} {b : Nat} {T : TypeId} (hh : W'.heap[b1]? = W.heap[b1]?) (hh2 : W'.heap[b2]? = W.heap[b2]?) (hy : W'.heap[b]? = some (.cells #[z0, z1, z2, z3] T (0, 0))) (hB : Below w.heap.size w W')
    (h : W.cell? ⟨b1, o0, none⟩ = some v0 ∧ W.cell? ⟨b1, o1, none⟩ = some v1 ∧ W.cell? ⟨b1, o2, none⟩ = some v2 ∧ W.cell? ⟨b1, o3, none⟩ = some v3 ∧ W.cell? ⟨b2, o4, none⟩ = some v4 ∧ W.cell? ⟨b2, o5, none⟩ = some v5 ∧ W.cell? ⟨b2, o6, none⟩ = some v6 ∧ W.cell? ⟨b2, o7, none⟩ = some v7) :
    ((W'.cell? ⟨b1, o0, none⟩ = some v0 ∧ W'.cell? ⟨b1, o1, none⟩ = some v1 ∧ W'.cell? ⟨b1, o2, none⟩ = some v2 ∧ W'.cell? ⟨b1, o3, none⟩ = some v3 ∧ W'.cell? ⟨b2, o4, none⟩ = some v4 ∧ W'.cell? ⟨b2, o5, none⟩ = some v5 ∧ W'.cell? ⟨b2, o6, none⟩ = some v6 ∧ W'.cell? ⟨b2, o7, none⟩ = some v7) ∧ ∃ y0 y1 y2 y3, W'.heap[b]? = some (.cells #[y0, y1, y2, y3] T (0, 0))) ∧ Below w.heap.size w W' := by
  obtain ⟨h0, h1, h2, h3, h4, h5, h6, h7⟩ := h
  refine ⟨⟨⟨?_, ?_, ?_, ?_, ?_, ?_, ?_, ?_⟩, z0, z1, z2, z3, hy⟩, hB⟩
  · rw [World.cell?_of_block (w := W) hh]; exact h0
  · rw [World.cell?_of_block (w := W) hh]; exact h1
  · rw [World.cell?_of_block (w := W) hh]; exact h2
  · rw [World.cell?_of_block (w := W) hh]; exact h3
  · rw [World.cell?_of_block (w := W) hh2]; exact h4
  · rw [World.cell?_of_block (w := W) hh2]; exact h5
  · rw [World.cell?_of_block (w := W) hh2]; exact h6
  · rw [World.cell?_of_block (w := W) hh2]; exact h7
theorem heap_set4 {W : World} {b1 b : Nat} (hne : b1 ≠ b) (x0 x1 x2 x3 : Value) : ((((W.setCell ⟨b, 0, none⟩ x0).setCell ⟨b, 1, none⟩ x1).setCell ⟨b, 2, none⟩ x2).setCell ⟨b, 3, none⟩ x3).heap[b1]? = W.heap[b1]? := by
  rw [Below.heap_setCell _ _ _ _ (show b1 ≠ (⟨b, 3, none⟩ : Addr).block from hne), Below.heap_setCell _ _ _ _ (show b1 ≠ (⟨b, 2, none⟩ : Addr).block from hne), Below.heap_setCell _ _ _ _ (show b1 ≠ (⟨b, 1, none⟩ : Addr).block from hne), Below.heap_setCell _ _ _ _ (show b1 ≠ (⟨b, 0, none⟩ : Addr).block from hne)]
theorem keep9_set {w W : World} {b1 b2 o0 o1 o2 o3 o4 o5 o6 o7 : Nat} {v0 v1 v2 v3 v4 v5 v6 v7 : Value} {b : Nat} {T : TypeId} (hne : b1 ≠ b) (hne2 : b2 ≠ b) (hbw : w.heap.size ≤ b) (x0 x1 x2 x3 : Value)
    (h : ((W.cell? ⟨b1, o0, none⟩ = some v0 ∧ W.cell? ⟨b1, o1, none⟩ = some v1 ∧ W.cell? ⟨b1, o2, none⟩ = some v2 ∧ W.cell? ⟨b1, o3, none⟩ = some v3 ∧ W.cell? ⟨b2, o4, none⟩ = some v4 ∧ W.cell? ⟨b2, o5, none⟩ = some v5 ∧ W.cell? ⟨b2, o6, none⟩ = some v6 ∧ W.cell? ⟨b2, o7, none⟩ = some v7) ∧ ∃ y0 y1 y2 y3, W.heap[b]? = some (.cells #[y0, y1, y2, y3] T (0, 0))) ∧ Below w.heap.size w W) :
    ((((((W.setCell ⟨b, 0, none⟩ x0).setCell ⟨b, 1, none⟩ x1).setCell ⟨b, 2, none⟩ x2).setCell ⟨b, 3, none⟩ x3).cell? ⟨b1, o0, none⟩ = some v0 ∧ ((((W.setCell ⟨b, 0, none⟩ x0).setCell ⟨b, 1, none⟩ x1).setCell ⟨b, 2, none⟩ x2).setCell ⟨b, 3, none⟩ x3).cell? ⟨b1, o1, none⟩ = some v1 ∧
      ((((W.setCell ⟨b, 0, none⟩ x0).setCell ⟨b, 1, none⟩ x1).setCell ⟨b, 2, none⟩ x2).setCell ⟨b, 3, none⟩ x3).cell? ⟨b1, o2, none⟩ = some v2 ∧ ((((W.setCell ⟨b, 0, none⟩ x0).setCell ⟨b, 1, none⟩ x1).setCell ⟨b, 2, none⟩ x2).setCell ⟨b, 3, none⟩ x3).cell? ⟨b1, o3, none⟩ = some v3 ∧
      ((((W.setCell ⟨b, 0, none⟩ x0).setCell ⟨b, 1, none⟩ x1).setCell ⟨b, 2, none⟩ x2).setCell ⟨b, 3, none⟩ x3).cell? ⟨b2, o4, none⟩ = some v4 ∧ ((((W.setCell ⟨b, 0, none⟩ x0).setCell ⟨b, 1, none⟩ x1).setCell ⟨b, 2, none⟩ x2).setCell ⟨b, 3, none⟩ x3).cell? ⟨b2, o5, none⟩ = some v5 ∧
      ((((W.setCell ⟨b, 0, none⟩ x0).setCell ⟨b, 1, none⟩ x1).setCell ⟨b, 2, none⟩ x2).setCell ⟨b, 3, none⟩ x3).cell? ⟨b2, o6, none⟩ = some v6 ∧ ((((W.setCell ⟨b, 0, none⟩ x0).setCell ⟨b, 1, none⟩ x1).setCell ⟨b, 2, none⟩ x2).setCell ⟨b, 3, none⟩ x3).cell? ⟨b2, o7, none⟩ = some v7) ∧
      ∃ y0 y1 y2 y3, ((((W.setCell ⟨b, 0, none⟩ x0).setCell ⟨b, 1, none⟩ x1).setCell ⟨b, 2, none⟩ x2).setCell ⟨b, 3, none⟩ x3).heap[b]? = some (.cells #[y0, y1, y2, y3] T (0, 0))) ∧
      Below w.heap.size w ((((W.setCell ⟨b, 0, none⟩ x0).setCell ⟨b, 1, none⟩ x1).setCell ⟨b, 2, none⟩ x2).setCell ⟨b, 3, none⟩ x3) := by
  obtain ⟨⟨hc, y0, y1, y2, y3, hy⟩, hB⟩ := h
  have hy4 := set4_all hy x0 x1 x2 x3
  have hB4 := below_set4 hB hbw x0 x1 x2 x3
  exact keep9_gen (heap_set4 hne x0 x1 x2 x3) (heap_set4 hne2 x0 x1 x2 x3) hy4 hB4 hc
theorem s9_blk {w W : World} {c : Prop} {b : Nat} {T : TypeId}
    (h : (c ∧ ∃ y0 y1 y2 y3, W.heap[b]? = some (.cells #[y0, y1, y2, y3] T (0, 0))) ∧ Below w.heap.size w W) :
    ∃ y0 y1 y2 y3, W.heap[b]? = some (.cells #[y0, y1, y2, y3] T (0, 0)) := h.1.2

/-- .. where what changed lies from B on -/
theorem keep9B {w W W' : World} {B b1 b2 o0 o1 o2 o3 o4 o5 o6 o7 : Nat} {v0 v1 v2 v3 v4 v5 v6 v7 : Value} {b : Nat} {T : TypeId} (hb : Below B W W') (hB1 : b1 < B) (hB2 : b2 < B) (hB3 : b < B) (hw : w.heap.size ≤ B)
    (h : ((W.cell? ⟨b1, o0, none⟩ = some v0 ∧ W.cell? ⟨b1, o1, none⟩ = some v1 ∧ W.cell? ⟨b1, o2, none⟩ = some v2 ∧ W.cell? ⟨b1, o3, none⟩ = some v3 ∧ W.cell? ⟨b2, o4, none⟩ = some v4 ∧ W.cell? ⟨b2, o5, none⟩ = some v5 ∧ W.cell? ⟨b2, o6, none⟩ = some v6 ∧ W.cell? ⟨b2, o7, none⟩ = some v7) ∧ ∃ y0 y1 y2 y3, W.heap[b]? = some (.cells #[y0, y1, y2, y3] T (0, 0))) ∧ Below w.heap.size w W) :
    ((W'.cell? ⟨b1, o0, none⟩ = some v0 ∧ W'.cell? ⟨b1, o1, none⟩ = some v1 ∧ W'.cell? ⟨b1, o2, none⟩ = some v2 ∧ W'.cell? ⟨b1, o3, none⟩ = some v3 ∧ W'.cell? ⟨b2, o4, none⟩ = some v4 ∧ W'.cell? ⟨b2, o5, none⟩ = some v5 ∧ W'.cell? ⟨b2, o6, none⟩ = some v6 ∧ W'.cell? ⟨b2, o7, none⟩ = some v7) ∧ ∃ y0 y1 y2 y3, W'.heap[b]? = some (.cells #[y0, y1, y2, y3] T (0, 0))) ∧ Below w.heap.size w W' := by
  obtain ⟨⟨hc, y0, y1, y2, y3, hy⟩, hB⟩ := h
  exact keep9_gen (hb.block _ hB1) (hb.block _ hB2) ((hb.block _ hB3).trans hy) (hB.trans (hb.mono hw)) hc
theorem held_lt {w W : World} {c : Prop} {b : Nat} {T : TypeId} (h : (c ∧ ∃ y0 y1 y2 y3, W.heap[b]? = some (.cells #[y0, y1, y2, y3] T (0, 0))) ∧ Below w.heap.size w W) : b + 1 ≤ W.heap.size := by
  obtain ⟨y0, y1, y2, y3, hy⟩ := h.1.2
  exact blk_lt hy

/-- one list behind another one -/
theorem own_join {T : TypeId} {w : World} {lo hi : Nat} {v : Value} {xs ys : List Int} (h : OwnF w lo hi T v (xs.length + ys.length) (fun j => if j < xs.length then iv xs j else iv ys (j - xs.length))) : OwnI T w lo hi v (xs ++ ys) := by
  refine OwnF.ints ?_
  rw [List.length_append]
  exact h.congr fun j _ => iv_append rfl j

theorem OwnI.one {T : TypeId} {w : World} {lo hi : Nat} {v : Value} {xs : List Int} (h : OwnI T w lo hi v xs) : v.oneCell' = true := by
  obtain ⟨p, cap, rfl, _, _⟩ := h.shape
  rfl
/-- rows of the call's own, put behind others, as a step of a region that draws -/
theorem step_append_II {w : World} {ops : Array Oper} {o : Oper} {a : Act} {K : Act → World → Prop} {Q : Exit → Act → World → Prop} {E : Prop} (hgd : o.guard = none) (s x : Operand)
    (ho : o.op = .call { callee := .builtin .append, args := #[s, x], argTypes := #[42, 42] })
    (lo mid hi : Nat) (v u : Value) (rows rows2 : List (List Int)) (hs : a.eval s = v) (hxu : a.eval x = u)
    (h1 : OwnII 24 3 w lo mid v rows) (h2 : OwnII 24 3 w mid hi u rows2) (hm : lo ≤ mid) (hmh : mid ≤ hi) (hhi : hi ≤ w.heap.size) (hl : rows.length + rows2.length ≤ 1000)
    (h : ∀ v' w', OwnII 24 3 w' lo w'.heap.size v' (rows ++ rows2) → Below lo w w' → K (a.put o.dst v') w') :
    if Region.wanted o (yielded ops a.tmps) = true then Oper.wp Try.prog o a w K Q else E := by
  obtain ⟨f, g1, g2, g3⟩ := h1
  obtain ⟨g, k1, k2, k3⟩ := h2
  refine step_append_F hgd s x 42 ho 24 (.slice none 0 0) 24 Try.underlying42 info_sl rfl lo mid v rows.length f hs g1 (by omega) (by omega) u rows2.length g hxu k1.rd (fun j hj => (k2 j hj).one) (by unfold maxLen; omega) (by omega) ?_
  intro v' w' ho' hg'
  exact h v' w' (OwnII.join g1 g2 g3 k2 k3 hm hmh (by decide) hg' (Nat.le_trans hhi hg'.size) ho') (grownBy_below2 hg' g1 (Nat.le_refl _) (by omega))

/-- the boxes of two arguments -/
theorem boxes_ab (w : World) (A B : Obj) : ((w.alloc A).alloc B).heap[w.heap.size]? = some A ∧ ((w.alloc A).alloc B).heap[w.heap.size + 1]? = some B := by
  refine ⟨?_, heap_alloc_at _ _ (by simp)⟩
  rw [heap_alloc_low _ _ (by simp)]; exact heap_alloc_top _ _
/-- .. and the result's cell -/
theorem boxes_abz (w : World) (A B Z : Obj) : (((w.alloc A).alloc B).alloc Z).heap[w.heap.size]? = some A ∧ (((w.alloc A).alloc B).alloc Z).heap[w.heap.size + 1]? = some B ∧ (((w.alloc A).alloc B).alloc Z).heap[w.heap.size + 1 + 1]? = some Z := by
  refine ⟨?_, ?_, heap_alloc_at _ _ (by simp)⟩
  · rw [heap_alloc_low _ _ (by simp; omega)]; exact (boxes_ab w A B).1
  · rw [heap_alloc_low _ _ (by simp)]; exact (boxes_ab w A B).2
theorem size_ab (w : World) (A B : Obj) : ((w.alloc A).alloc B).heap.size = w.heap.size + 1 + 1 := by simp
theorem size_abz (w : World) (A B Z : Obj) : (((w.alloc A).alloc B).alloc Z).heap.size = w.heap.size + 1 + 1 + 1 := by simp

end Go.Proofs.Ytoodgbflaaabmaa

namespace Go.Proofs.Ytoodgbflaaabmaa
set_option linter.all false
open Go.RowKit

/-- it is a space -/
def IsSp (P R C : Int) (D : List Int) : Prop := mxOk P R C D = true ∧ SpIs P R C D ⟨P, R, C, D⟩
theorem implIsSpace_yes (P R C : Int) (d : Value) (D : List Int) (h : IsSp P R C D) (w : World) (hd : Ints w d D) :
    Calls Try.prog 22 #[.agg #[.int .i64 P, .int .i64 R, .int .i64 C, d]] w fun e w' => e = .returned (.bool true) ∧ Below w.heap.size w w' :=
  (implIsSpace_ex P R C d D w hd).mono fun e w' ⟨r, h1, h2, h3⟩ => ⟨by rw [h1, h2.2 h], h3⟩
theorem implIsSpace_no (P R C : Int) (d : Value) (D : List Int) (h : ¬ IsSp P R C D) (w : World) (hd : Ints w d D) :
    Calls Try.prog 22 #[.agg #[.int .i64 P, .int .i64 R, .int .i64 C, d]] w fun e w' => e = .returned (.bool false) ∧ Below w.heap.size w w' :=
  (implIsSpace_ex P R C d D w hd).mono fun e w' ⟨r, h1, h2, h3⟩ => ⟨by
    cases r with
    | true => exact absurd (h2.1 rfl) h
    | false => exact h1, h3⟩
/-- two spaces that lie in one -/
def TwoIs (P R C : Int) (D : List Int) (P' R' C' : Int) (D' : List Int) : Prop := IsSp P R C D ∧ IsSp P' R' C' D' ∧ P = P' ∧ C = C'
def fitOk (P C P' C' : Int) : Bool := decide (P = P') && decide (C = C')

set_option maxRecDepth 100000 in
set_option maxHeartbeats 2000000 in
theorem fitTogether_any (AP AR AC BP BR BC : Int) (dA dB : Value) (DA DB : List Int) (w : World) (hdA : Ints w dA DA) (hdB : Ints w dB DB) :
    Calls Try.prog 59 #[.agg #[.int .i64 AP, .int .i64 AR, .int .i64 AC, dA], .agg #[.int .i64 BP, .int .i64 BR, .int .i64 BC, dB]] w fun e w' => e = .returned (.bool (fitOk AP AC BP BC)) ∧ Below w.heap.size w w' := by
  by_cases h1 : AP = BP
  case neg =>
    have e1 : (AP == BP) = false := by simpa using h1
    have e0 : fitOk AP AC BP BC = false := by simp [fitOk, h1]
    rw [e0]
    clear h1 e0
    have HdA := Lib.hid hdA
    obtain ⟨pA, kA, rfl, ⟨_, mA⟩, _⟩ := hdA
    unfold maxLen at mA
    have HdB := Lib.hid hdB
    obtain ⟨pB, kB, rfl, ⟨_, mB⟩, _⟩ := hdB
    unfold maxLen at mB
    obtain ⟨z0, z1⟩ := boxes_ab w (.cells #[.int .i64 AP, .int .i64 AR, .int .i64 AC, .slice pA DA.length kA] 34) (.cells #[.int .i64 BP, .int .i64 BR, .int .i64 BC, .slice pB DB.length kB] 34)
    have ZA1 := Lib.hid z0
    have ZB1 := Lib.hid z1
    clear z0 z1
    have HB1 := Lib.hid (below_alloc2 w (.cells #[.int .i64 AP, .int .i64 AR, .int .i64 AC, .slice pA DA.length kA] 34) (.cells #[.int .i64 BP, .int .i64 BR, .int .i64 BC, .slice pB DB.length kB] 34))
    go_enter Try.func59, Try.ntmps59
    go_wp2_with fail
    have hs1 : ((w.alloc (.cells #[.int .i64 AP, .int .i64 AR, .int .i64 AC, .slice pA DA.length kA] 34)).alloc (.cells #[.int .i64 BP, .int .i64 BR, .int .i64 BC, .slice pB DB.length kB] 34)).heap.size = w.heap.size + 1 + 1 := by simp
    generalize (w.alloc (.cells #[.int .i64 AP, .int .i64 AR, .int .i64 AC, .slice pA DA.length kA] 34)).alloc (.cells #[.int .i64 BP, .int .i64 BR, .int .i64 BC, .slice pB DB.length kB] 34) = w1 at *
    obtain ⟨cA0, cA1, cA2, cA3, cAf, cAz⟩ := blk4 ZA1.out
    obtain ⟨cB0, cB1, cB2, cB3, cBf, cBz⟩ := blk4 ZB1.out
    go_wp2_with fail
    go_ret
    exact ⟨rfl, HB1.out⟩
  by_cases h2 : AC = BC
  case neg =>
    have e2 : (AC == BC) = false := by simpa using h2
    have e0 : fitOk AP AC BP BC = false := by simp [fitOk, h2]
    rw [e0]
    clear h2 e0
    subst h1
    have HdA := Lib.hid hdA
    obtain ⟨pA, kA, rfl, ⟨_, mA⟩, _⟩ := hdA
    unfold maxLen at mA
    have HdB := Lib.hid hdB
    obtain ⟨pB, kB, rfl, ⟨_, mB⟩, _⟩ := hdB
    unfold maxLen at mB
    obtain ⟨z0, z1⟩ := boxes_ab w (.cells #[.int .i64 AP, .int .i64 AR, .int .i64 AC, .slice pA DA.length kA] 34) (.cells #[.int .i64 AP, .int .i64 BR, .int .i64 BC, .slice pB DB.length kB] 34)
    have ZA1 := Lib.hid z0
    have ZB1 := Lib.hid z1
    clear z0 z1
    have HB1 := Lib.hid (below_alloc2 w (.cells #[.int .i64 AP, .int .i64 AR, .int .i64 AC, .slice pA DA.length kA] 34) (.cells #[.int .i64 AP, .int .i64 BR, .int .i64 BC, .slice pB DB.length kB] 34))
    go_enter Try.func59, Try.ntmps59
    go_wp2_with fail
    have hs1 : ((w.alloc (.cells #[.int .i64 AP, .int .i64 AR, .int .i64 AC, .slice pA DA.length kA] 34)).alloc (.cells #[.int .i64 AP, .int .i64 BR, .int .i64 BC, .slice pB DB.length kB] 34)).heap.size = w.heap.size + 1 + 1 := by simp
    generalize (w.alloc (.cells #[.int .i64 AP, .int .i64 AR, .int .i64 AC, .slice pA DA.length kA] 34)).alloc (.cells #[.int .i64 AP, .int .i64 BR, .int .i64 BC, .slice pB DB.length kB] 34) = w1 at *
    obtain ⟨cA0, cA1, cA2, cA3, cAf, cAz⟩ := blk4 ZA1.out
    obtain ⟨cB0, cB1, cB2, cB3, cBf, cBz⟩ := blk4 ZB1.out
    go_wp2_with fail
    go_ret
    exact ⟨rfl, HB1.out⟩
  have e0 : fitOk AP AC BP BC = true := by simp [fitOk, h1, h2]
  rw [e0]
  clear e0
  subst h1 h2
  have HdA := Lib.hid hdA
  obtain ⟨pA, kA, rfl, ⟨_, mA⟩, _⟩ := hdA
  unfold maxLen at mA
  have HdB := Lib.hid hdB
  obtain ⟨pB, kB, rfl, ⟨_, mB⟩, _⟩ := hdB
  unfold maxLen at mB
  obtain ⟨z0, z1⟩ := boxes_ab w (.cells #[.int .i64 AP, .int .i64 AR, .int .i64 AC, .slice pA DA.length kA] 34) (.cells #[.int .i64 AP, .int .i64 BR, .int .i64 AC, .slice pB DB.length kB] 34)
  have ZA1 := Lib.hid z0
  have ZB1 := Lib.hid z1
  clear z0 z1
  have HB1 := Lib.hid (below_alloc2 w (.cells #[.int .i64 AP, .int .i64 AR, .int .i64 AC, .slice pA DA.length kA] 34) (.cells #[.int .i64 AP, .int .i64 BR, .int .i64 AC, .slice pB DB.length kB] 34))
  go_enter Try.func59, Try.ntmps59
  go_wp2_with fail
  have hs1 : ((w.alloc (.cells #[.int .i64 AP, .int .i64 AR, .int .i64 AC, .slice pA DA.length kA] 34)).alloc (.cells #[.int .i64 AP, .int .i64 BR, .int .i64 AC, .slice pB DB.length kB] 34)).heap.size = w.heap.size + 1 + 1 := by simp
  generalize (w.alloc (.cells #[.int .i64 AP, .int .i64 AR, .int .i64 AC, .slice pA DA.length kA] 34)).alloc (.cells #[.int .i64 AP, .int .i64 BR, .int .i64 AC, .slice pB DB.length kB] 34) = w1 at *
  obtain ⟨cA0, cA1, cA2, cA3, cAf, cAz⟩ := blk4 ZA1.out
  obtain ⟨cB0, cB1, cB2, cB3, cBf, cBz⟩ := blk4 ZB1.out
  go_wp2_with fail
  go_ret
  exact ⟨rfl, HB1.out⟩

end Go.Proofs.Ytoodgbflaaabmaa

namespace Go.Proofs.Ytoodgbflaaabmaa
set_option linter.all false
open Go.RowKit


end Go.Proofs.Ytoodgbflaaabmaa

namespace Go.Proofs.Ytoodgbflaaabmaa
set_option linter.all false
open Go.RowKit

/-- a matrix and a bool that are known by a property, or none -/
def PrQ (Q : Mx → Bool → Prop) (x : Mx × Bool) : Prop := Q x.1 x.2 ∨ ((∀ m b, ¬ Q m b) ∧ x = (mxZero, false))
theorem PrQ.spec (Q : Mx → Bool → Prop) : PrQ Q (Classical.epsilon (PrQ Q)) := by
  refine Classical.epsilon_spec (p := PrQ Q) ?_
  by_cases h : ∃ m b, Q m b
  · obtain ⟨m, b, h⟩ := h
    exact ⟨(m, b), .inl h⟩
  · exact ⟨(mxZero, false), .inr ⟨fun m b hq => h ⟨m, b, hq⟩, rfl⟩⟩
theorem PrQ.eps {Q : Mx → Bool → Prop} {m : Mx} {b : Bool} (hone : ∀ m b m' b', Q m b → Q m' b' → m = m' ∧ b = b') (h : Q m b) : m = (Classical.epsilon (PrQ Q)).1 ∧ b = (Classical.epsilon (PrQ Q)).2 := by
  rcases PrQ.spec Q with h2 | ⟨h2, _⟩
  · exact hone _ _ _ _ h h2
  · exact absurd h (h2 m b)

/-- the reduced form of what rows span, as a matrix -/
def RowsIs (P : Int) (C R : Nat) (M0 : Nat → Nat → Int) (m : Mx) : Prop := ∃ (n : Nat) (M : Nat → Nat → Int) (q : Nat → Nat), IsRed P C R M0 n M q ∧ m = ⟨P, n, C, flatM n C M⟩
theorem RowsIs.one {P : Int} {C R : Nat} {M0 : Nat → Nat → Int} {m m' : Mx} (hP : 2 ≤ P) (h : RowsIs P C R M0 m) (h' : RowsIs P C R M0 m') : m = m' := by
  obtain ⟨n, M, q, h1, rfl⟩ := h
  obtain ⟨n', M', q', h1', rfl⟩ := h'
  obtain ⟨e1, _, e3⟩ := h1.one hP h1'
  subst e1
  rw [flatM_congr e3]
theorem RowsIs.len {P : Int} {C R : Nat} {M0 : Nat → Nat → Int} {m : Mx} (hC : C ≤ 14) (h : RowsIs P C R M0 m) : m.D.length ≤ 1000 := by
  obtain ⟨n, M, q, h1, rfl⟩ := h
  have a := asc_bound h1.2.1 h1.1.lt
  have b := Nat.mul_le_mul (Nat.le_trans a hC) hC
  show (flatM n C M).length ≤ 1000
  rw [flatM_length]
  omega
theorem RowsIs.same {P : Int} {C R R' : Nat} {M0 M1 : Nat → Nat → Int} {m : Mx} (h : RowsIs P C R M0 m) (hs : SameSp P C R' M1 R M0) : RowsIs P C R' M1 m := by
  obtain ⟨n, M, q, ⟨h1, h2, h3, h4⟩, rfl⟩ := h
  exact ⟨n, M, q, ⟨h1, h2, h3, hs.trans h4⟩, rfl⟩

/-- what SumSpaces returns -/
def SmIs (P R C : Int) (D : List Int) (P' R' C' : Int) (D' : List Int) (m : Mx) (ok : Bool) : Prop :=
  (TwoIs P R C D P' R' C' D' ∧ ok = true ∧ RowsIs P C.toNat (R.toNat + R'.toNat) (stackM R.toNat (mf C.toNat fun t => D.getD t 0) (mf C.toNat fun t => D'.getD t 0)) m) ∨ (¬ TwoIs P R C D P' R' C' D' ∧ ok = false ∧ m = mxZero)
theorem SmIs.one {P R C : Int} {D : List Int} {P' R' C' : Int} {D' : List Int} (m : Mx) (b : Bool) (m' : Mx) (b' : Bool) (h : SmIs P R C D P' R' C' D' m b) (h' : SmIs P R C D P' R' C' D' m' b') : m = m' ∧ b = b' := by
  rcases h with ⟨t, rfl, h⟩ | ⟨t, rfl, rfl⟩
  · rcases h' with ⟨_, rfl, h'⟩ | ⟨t', _, _⟩
    · obtain ⟨_, _, _, _, _, _, _, _, _, hP, _⟩ := mxOk_facts t.1.1
      exact ⟨h.one hP h', rfl⟩
    · exact absurd t t'
  · rcases h' with ⟨t', _, _⟩ | ⟨_, rfl, rfl⟩
    · exact absurd t' t
    · exact ⟨rfl, rfl⟩
theorem sum_len (P R C : Int) (D : List Int) (P' R' C' : Int) (D' : List Int) : (Classical.epsilon (PrQ (SmIs P R C D P' R' C' D'))).1.D.length ≤ 1000 := by
  rcases PrQ.spec (SmIs P R C D P' R' C' D') with h | ⟨_, h⟩
  · rcases h with ⟨t, _, h⟩ | ⟨_, _, h⟩
    · obtain ⟨r, c, _, rfl, _, _, hc, _⟩ := mxOk_facts t.1.1
      exact h.len (by simp; omega)
    · rw [h]; simp [mxZero]
  · rw [h]; simp [mxZero]

/-- what lies flat, one behind the other -/
theorem both_mf {C R R' : Nat} {D D' : List Int} (hl : D.length = R * C) {i c : Nat} (hi : i < R + R') (hc : c < C) :
    mf C (fun t => (D ++ D').getD t 0) i c = stackM R (mf C fun t => D.getD t 0) (mf C fun t => D'.getD t 0) i c := by
  unfold mf
  by_cases h : i < R
  · rw [stackM_lt h]
    have h1 : i * C + c < R * C := by
      have : (i + 1) * C ≤ R * C := Nat.mul_le_mul_right C h
      rw [Nat.succ_mul] at this
      omega
    simp [List.getD_eq_getElem?_getD, List.getElem?_append_left (show i * C + c < D.length by omega)]
  · rw [stackM_ge h]
    obtain ⟨k, rfl⟩ : ∃ k, i = R + k := ⟨i - R, by omega⟩
    have e : (R + k) * C + c - R * C = (R + k - R) * C + c := by rw [Nat.add_mul, Nat.add_sub_cancel_left]; omega
    simp only [List.getD_eq_getElem?_getD]
    rw [List.getElem?_append_right (by rw [hl, Nat.add_mul]; omega), hl, e]
theorem both_rng {P : Int} {D D' : List Int} (hP : 0 < P) (h : ∀ t, 0 ≤ D.getD t 0 ∧ D.getD t 0 < P) (h' : ∀ t, 0 ≤ D'.getD t 0 ∧ D'.getD t 0 < P) (t : Nat) : 0 ≤ (D ++ D').getD t 0 ∧ (D ++ D').getD t 0 < P := by
  by_cases e : t < D.length
  · rw [List.getD_eq_getElem?_getD, List.getElem?_append_left e, ← List.getD_eq_getElem?_getD]; exact h t
  · rw [List.getD_eq_getElem?_getD, List.getElem?_append_right (by omega), ← List.getD_eq_getElem?_getD]; exact h' _
theorem getD_app_lt {a b : List (List Int)} {i : Nat} (h : i < a.length) : (a ++ b).getD i [] = a.getD i [] := by simp [List.getD_eq_getElem?_getD, List.getElem?_append_left h]
theorem getD_app_ge {a b : List (List Int)} {i : Nat} (h : ¬ i < a.length) : (a ++ b).getD i [] = b.getD (i - a.length) [] := by simp [List.getD_eq_getElem?_getD, List.getElem?_append_right (Nat.le_of_not_lt h)]
/-- rows behind rows -/
theorem rowsOf_join {P : Int} {R R' C : Nat} {D D' : List Int} : SameSp P C (R + R') (stackM R (mf C fun t => D.getD t 0) (mf C fun t => D'.getD t 0)) (rowsOf R C D ++ rowsOf R' C D').length (mt (rowsOf R C D ++ rowsOf R' C D')) := by
  rw [List.length_append, rowsOf_length, rowsOf_length]
  refine SameSp.of_eqv fun i hi => .of_eq fun c hc => ?_
  unfold mt
  by_cases h : i < R
  · rw [stackM_lt h, getD_app_lt (by rw [rowsOf_length]; exact h), rowsOf_getD h, rowAt_getD hc]
    rfl
  · rw [stackM_ge h, getD_app_ge (by rw [rowsOf_length]; exact h), rowsOf_length, rowsOf_getD (by omega), rowAt_getD hc]
    rfl
theorem RowsOk.join {p : Int} {C : Nat} {a b : List (List Int)} (ha : RowsOk p C a) (hb : RowsOk p C b) : RowsOk p C (a ++ b) := fun i hi => by
  by_cases h : i < a.length
  · rw [getD_app_lt h]; exact ha i h
  · rw [List.length_append] at hi
    rw [getD_app_ge h]; exact hb _ (by omega)


end Go.Proofs.Ytoodgbflaaabmaa
