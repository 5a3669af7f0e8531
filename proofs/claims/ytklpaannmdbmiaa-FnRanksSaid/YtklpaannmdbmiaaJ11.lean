/-
  The draws: a flag.
  The law FnNormal, on lists: plain.
  The program's CornerRank.
  Ranks of corners: they grow by at most one; those of a permutation's matrix; what adding rows and columns leaves. Plain.
-/
import Derived.Test.YtklpaannmdbmiaaJ10
import Derived.Test.YtklpaannmdbmiaaJ9
import Derived.Test.YtklpaannmdbmiaaJ2
import Derived.Test.YtklpaannmdbmiaaJ4
import Derived.Test.YtklpaannmdbmiaaJ8
import Derived.Test.YtklpaannmdbmiaaJ5
namespace Go.Proofs.Ytklpaannmdbmiaa
set_option linter.all false
open Go.RowKit

/-! ### triangular matrices -/
theorem set_mf {n i j r s : Nat} {D : List Int} {x : Int} (hl : D.length = n * n) (hi : i < n) (hj : j < n) (hr : r < n) (hs : s < n) :
    mf n (fun t => (D.set (i * n + j) x).getD t 0) r s = if r = i ∧ s = j then x else mf n (fun t => D.getD t 0) r s := by
  have h1 := flat_ltW hi hj
  have h2 := flat_ltW hr hs
  unfold mf
  show (D.set (i * n + j) x).getD (r * n + s) 0 = _
  by_cases e : r = i ∧ s = j
  · obtain ⟨rfl, rfl⟩ := e
    rw [if_pos ⟨rfl, rfl⟩]
    simp [List.getD_eq_getElem?_getD, hl, h1]
  · rw [if_neg e]
    have : ¬ i * n + j = r * n + s := fun h => by
      have a := div_at (k := i) hj
      have b := div_at (k := r) hs
      rw [h] at a
      exact e ⟨by omega, by omega⟩
    simp [List.getD_eq_getElem?_getD, List.getElem?_set_ne this]
theorem set_rng {P x : Int} {D : List Int} (h : ∀ y ∈ D, 0 ≤ y ∧ y < P) (hx : 0 ≤ x ∧ x < P) (t : Nat) : ∀ y ∈ D.set t x, 0 ≤ y ∧ y < P := fun y hy => by
  rcases List.mem_or_eq_of_mem_set hy with h1 | rfl
  · exact h y h1
  · exact hx
/-- 0 above the diagonal, none on it -/
def LowOk (P : Int) (n : Nat) (D : List Int) : Prop := D.length = n * n ∧ (∀ y ∈ D, 0 ≤ y ∧ y < P) ∧ (∀ i, i < n → 1 ≤ mf n (fun t => D.getD t 0) i i) ∧ ∀ i j, i < j → j < n → mf n (fun t => D.getD t 0) i j = 0
/-- 0 below the diagonal, 1 on it -/
def HighOk (P : Int) (n : Nat) (D : List Int) : Prop := D.length = n * n ∧ (∀ y ∈ D, 0 ≤ y ∧ y < P) ∧ (∀ i, i < n → mf n (fun t => D.getD t 0) i i = 1) ∧ ∀ i j, j < i → i < n → mf n (fun t => D.getD t 0) i j = 0
theorem LowOk.set {P x : Int} {n i j : Nat} {D : List Int} (h : LowOk P n D) (hi : i < n) (hj : j ≤ i) (hx : 0 ≤ x ∧ x < P) (hd : j = i → 1 ≤ x) : LowOk P n (D.set (i * n + j) x) := by
  obtain ⟨h1, h2, h3, h4⟩ := h
  refine ⟨by rw [List.length_set]; exact h1, set_rng h2 hx _, fun r hr => ?_, fun r s hrs hs => ?_⟩
  · rw [set_mf h1 hi (by omega) hr hr]
    split
    · exact hd (by omega)
    · exact h3 r hr
  · rw [set_mf h1 hi (by omega) (by omega) hs, if_neg (by omega)]
    exact h4 r s hrs hs
theorem HighOk.set {P x : Int} {n i j : Nat} {D : List Int} (h : HighOk P n D) (hi : i < n) (hj : j < i) (hx : 0 ≤ x ∧ x < P) : HighOk P n (D.set (j * n + i) x) := by
  obtain ⟨h1, h2, h3, h4⟩ := h
  refine ⟨by rw [List.length_set]; exact h1, set_rng h2 hx _, fun r hr => ?_, fun r s hrs hs => ?_⟩
  · rw [set_mf h1 (by omega) hi hr hr, if_neg (by omega)]
    exact h3 r hr
  · rw [set_mf h1 (by omega) hi hs (by omega), if_neg (by omega)]
    exact h4 r s hrs hs
theorem permRows_mf {n : Nat} {xs : List Int} (hl : xs.length = n) {i j : Nat} (hi : i < n) (hj : j < n) : mf n (fun t => (permRows xs).flatten.getD t 0) i j = if (j : Int) = xs.getD i 0 then 1 else 0 := by
  obtain ⟨d1, d2⟩ := div_at (k := i) hj
  have h := flat_ltW hi hj
  unfold mf
  show (permRows xs).flatten.getD (i * n + j) 0 = _
  rw [permRows_flat_getD (by rw [hl]; exact h), hl, d1, d2]
theorem permRows_rng {P : Int} (hP : 2 ≤ P) (xs : List Int) : ∀ y ∈ (permRows xs).flatten, 0 ≤ y ∧ y < P := fun y hy => by
  obtain ⟨t, ht, rfl⟩ := List.mem_iff_getElem.1 hy
  have hl : t < xs.length * xs.length := by rwa [permRows_flat_length] at ht
  have := permRows_flat_getD hl
  rw [getD_lt ht] at this
  rw [this]
  split <;> omega
theorem id_low {P : Int} {n : Nat} (hP : 2 ≤ P) : LowOk P n (permRows (idL n)).flatten := by
  refine ⟨by rw [permRows_flat_length, idL_length], permRows_rng hP _, fun i hi => ?_, fun i j hij hj => ?_⟩
  · rw [permRows_mf (idL_length n) hi hi, idL_getD hi, if_pos rfl]; omega
  · rw [permRows_mf (idL_length n) (by omega) hj, idL_getD (by omega), if_neg (by omega)]
theorem id_high {P : Int} {n : Nat} (hP : 2 ≤ P) : HighOk P n (permRows (idL n)).flatten := by
  refine ⟨by rw [permRows_flat_length, idL_length], permRows_rng hP _, fun i hi => ?_, fun i j hij hj => ?_⟩
  · rw [permRows_mf (idL_length n) hi hi, idL_getD hi, if_pos rfl]
  · rw [permRows_mf (idL_length n) hj (by omega), idL_getD hj, if_neg (by omega)]
theorem LowOk.indep {P : Int} {n : Nat} {D : List Int} (hp : primeOk P = true) (h : LowOk P n D) : Indep P n n (mf n fun t => D.getD t 0) := by
  obtain ⟨hP, _⟩ := primeOk_range hp
  refine indep_low (fun i hi => unit_of hp (by have := h.2.2.1 i hi; omega) ?_) h.2.2.2
  exact (getD_range h.2.1 (by omega) _).2
theorem HighOk.indep {P : Int} {n : Nat} {D : List Int} (h : HighOk P n D) : Indep P n n (mf n fun t => D.getD t 0) := by
  refine indep_up (fun i hi => ⟨1, ?_⟩) h.2.2.2
  rw [h.2.2.1 i hi]; simp
/-- the matrix of a permutation -/
theorem perm_indep {P : Int} {xs : List Int} (hp : permOk xs = true) : Indep P xs.length xs.length (mf xs.length fun t => (permRows xs).flatten.getD t 0) := by
  obtain ⟨_, _, hr, hn⟩ := of_decide_eq_true hp
  refine indep_perm (q := fun i => (xs.getD i 0).toNat) (fun i hi => by have := hr _ (getD_mem hi); omega) fun i k hi hk => ?_
  have h1 := hr _ (getD_mem hk)
  rw [permRows_mf rfl hi (by omega), Int.toNat_of_nonneg h1.1]
  by_cases e : i = k
  · subst e; simp
  · rw [if_neg e, if_neg]
    intro h
    refine e ?_
    have a : xs.getD k 0 = xs[k] := getD_lt hk
    have b : xs.getD i 0 = xs[i] := getD_lt hi
    rw [a, b] at h
    rcases Nat.lt_trichotomy i k with c | c | c
    · exact absurd h.symm (List.pairwise_iff_getElem.1 hn i k hi hk c)
    · exact c
    · exact absurd h (List.pairwise_iff_getElem.1 hn k i hk hi c)
/-- low, times a permutation's matrix, times high: a flag -/
theorem draw_flag {P : Int} {n : Nat} {L H xs : List Int} (hp : primeOk P = true) (h1 : 1 ≤ n) (h7 : n ≤ 7) (hL : LowOk P n L) (hH : HighOk P n H) (hx : permOk xs = true) (hl : xs.length = n) :
    ∃ D D', mulMx ⟨P, n, n, L⟩ ⟨P, n, n, (permRows xs).flatten⟩ = ⟨P, n, n, D⟩ ∧ mulMx ⟨P, n, n, D⟩ ⟨P, n, n, H⟩ = ⟨P, n, n, D'⟩ ∧ IsFl P n n D' := by
  obtain ⟨hP, _⟩ := primeOk_range hp
  have ok : ∀ D : List Int, D.length = n * n → (∀ y ∈ D, 0 ≤ y ∧ y < P) → mxOk P n n D = true := fun D hD hr => by
    unfold mxOk
    exact decide_eq_true ⟨hp, by omega, by omega, by rw [hD]; push_cast; rfl, hr⟩
  obtain ⟨D, e1, _, l1, r1, m1⟩ := mul_sq (ok L hL.1 hL.2.1) (ok (permRows xs).flatten (by rw [permRows_flat_length, hl]) (permRows_rng hP _))
  obtain ⟨D', e2, _, l2, r2, m2⟩ := mul_sq (ok D l1 r1) (ok H hH.1 hH.2.1)
  refine ⟨D, D', e1, e2, isFl_of hp h1 h7 l2 r2 ?_⟩
  have i1 : Indep P n n (mf n fun t => D.getD t 0) := ((hL.indep hp).mul (by have := perm_indep (P := P) hx; rwa [hl] at this)).eqv fun i j hi hj => by rw [m1 i j hi hj]; exact emod_dvd _ _
  exact (i1.mul hH.indep).eqv fun i j hi hj => by rw [m2 i j hi hj]; exact emod_dvd _ _

/-! ### what holds in the loops -/
theorem OwnI.setAt {T : TypeId} {w : World} {lo hi g n cap t : Nat} {D : List Int} (h : OwnI T w lo hi (.slice (some ⟨g, 0, none⟩) n cap) D) (ht : t < D.length) (x : Int) : OwnI T (w.setCell ⟨g, t, none⟩ (.int .i64 x)) lo hi (.slice (some ⟨g, 0, none⟩) n cap) (D.set t x) := by
  refine OwnF.ints ?_
  rw [List.length_set]
  refine (h.fn.set t _).congr fun j hj => ?_
  unfold iv
  by_cases e : j = t
  · subst e; simp [List.getD_eq_getElem?_getD, ht]
  · simp [e, List.getD_eq_getElem?_getD, List.getElem?_set_ne (fun h => e h.symm)]
/-- the result's cell, the boxes of the permutation's matrix, of low, of high, what they hold, the cursor -/
structure FlS (w : World) (k : Nat) (P : Int) (n N bA bL bH gl kl gh kh la : Nat) (vA : Value) (DA : List Int) (wr : World) : Prop where
  z : wr.heap[w.heap.size]? = some (.cells #[.int .i64 0, .int .i64 0, .int .i64 0, .slice none 0 0] 26)
  a : wr.heap[bA]? = some (.cells #[.int .i64 P, .int .i64 (n : Int), .int .i64 (n : Int), vA] 26)
  l : wr.heap[bL]? = some (.cells #[.int .i64 P, .int .i64 (n : Int), .int .i64 (n : Int), .slice (some ⟨gl, 0, none⟩) N kl] 26)
  h : wr.heap[bH]? = some (.cells #[.int .i64 P, .int .i64 (n : Int), .int .i64 (n : Int), .slice (some ⟨gh, 0, none⟩) N kh] 26)
  oa : OwnI 3 wr la bA vA DA
  ol : ∃ DL, LowOk P n DL ∧ OwnI 3 wr gl (gl + 1) (.slice (some ⟨gl, 0, none⟩) N kl) DL
  oh : ∃ DH, HighOk P n DH ∧ OwnI 3 wr gh (gh + 1) (.slice (some ⟨gh, 0, none⟩) N kh) DH
  cu : Cur wr k
  fr : Frm k (k + 1) w wr
/-- where it lies -/
structure FlN (w : World) (k n N bA bL bH gl gh la : Nat) : Prop where
  k1 : k < w.heap.size
  a1 : w.heap.size < la
  a2 : la ≤ bA
  l1 : bA < gl
  l2 : gl < bL
  h1 : bL < gh
  h2 : gh < bH
  nn : N = n * n
section
variable {w : World} {k : Nat} {P : Int} {n N bA bL bH gl kl gh kh la : Nat} {vA : Value} {DA : List Int} {wr w1 : World}
theorem FlS.frm (h : FlS w k P n N bA bL bH gl kl gh kh la vA DA wr) (hn : FlN w k n N bA bL bH gl gh la) (hf : Frm k (k + 1) wr w1) (hc : Cur w1 k) : FlS w k P n N bA bL bH gl kl gh kh la vA DA w1 := by
  obtain ⟨a, b, c, d, e, ⟨DL, f1, f2⟩, ⟨DH, g1, g2⟩, _, j⟩ := h
  obtain ⟨k1, a1, a2, l1, l2, h1, h2, _⟩ := hn
  refine ⟨(hf.block _ (blk_lt a) (Or.inr (by omega))).trans a, (hf.block _ (blk_lt b) (Or.inr (by omega))).trans b, (hf.block _ (blk_lt c) (Or.inr (by omega))).trans c, (hf.block _ (blk_lt d) (Or.inr (by omega))).trans d,
    e.frm hf (Or.inr (by omega)), ⟨DL, f1, f2.frm hf (Or.inr (by omega))⟩, ⟨DH, g1, g2.frm hf (Or.inr (by omega))⟩, hc, j.trans hf⟩
theorem FlS.drewN (h : FlS w k P n N bA bL bH gl kl gh kh la vA DA wr) (hn : FlN w k n N bA bL bH gl gh la) (q : Nat) : FlS w k P n N bA bL bH gl kl gh kh la vA DA (wr.drewN q) :=
  h.frm hn ((Frm.refl _ _ _).drewN q) (h.cu.below (Below.of_drewN _ _))
theorem FlS.setL (h : FlS w k P n N bA bL bH gl kl gh kh la vA DA wr) (hn : FlN w k n N bA bL bH gl gh la) {i j t : Nat} {x : Int} (ht : t = i * n + j) (hi : i < n) (hj : j ≤ i) (hx : 0 ≤ x ∧ x < P) (hd : j = i → 1 ≤ x) :
    FlS w k P n N bA bL bH gl kl gh kh la vA DA (wr.setCell ⟨gl, t, none⟩ (.int .i64 x)) := by
  subst ht
  obtain ⟨a, b, c, d, e, ⟨DL, f1, f2⟩, ⟨DH, g1, g2⟩, cu, jf⟩ := h
  obtain ⟨k1, a1, a2, l1, l2, h1, h2, _⟩ := hn
  have hl := flat_ltW hi (show j < n by omega)
  refine ⟨(Below.heap_setCell _ _ _ _ (by show _ ≠ gl; omega)).trans a, (Below.heap_setCell _ _ _ _ (by show _ ≠ gl; omega)).trans b, (Below.heap_setCell _ _ _ _ (by show _ ≠ gl; omega)).trans c, (Below.heap_setCell _ _ _ _ (by show _ ≠ gl; omega)).trans d,
    e.setCell (Or.inr (by show bA ≤ gl; omega)) _, ⟨_, f1.set hi hj hx hd, f2.setAt (by rw [f1.1]; exact hl) x⟩, ⟨DH, g1, g2.setCell (Or.inl (by show gl < gh; omega)) _⟩, ?_, ?_⟩
  · exact cu.keepB ((Below.refl w.heap.size wr).setCell (by show w.heap.size ≤ gl; omega) _) k1
  · exact jf.thenB ((Below.refl w.heap.size wr).setCell (by show w.heap.size ≤ gl; omega) _) (Nat.le_refl _)
theorem FlS.setH (h : FlS w k P n N bA bL bH gl kl gh kh la vA DA wr) (hn : FlN w k n N bA bL bH gl gh la) {i j t : Nat} {x : Int} (ht : t = j * n + i) (hi : i < n) (hj : j < i) (hx : 0 ≤ x ∧ x < P) :
    FlS w k P n N bA bL bH gl kl gh kh la vA DA (wr.setCell ⟨gh, t, none⟩ (.int .i64 x)) := by
  subst ht
  obtain ⟨a, b, c, d, e, ⟨DL, f1, f2⟩, ⟨DH, g1, g2⟩, cu, jf⟩ := h
  obtain ⟨k1, a1, a2, l1, l2, h1, h2, _⟩ := hn
  have hl := flat_ltW (show j < n by omega) hi
  refine ⟨(Below.heap_setCell _ _ _ _ (by show _ ≠ gh; omega)).trans a, (Below.heap_setCell _ _ _ _ (by show _ ≠ gh; omega)).trans b, (Below.heap_setCell _ _ _ _ (by show _ ≠ gh; omega)).trans c, (Below.heap_setCell _ _ _ _ (by show _ ≠ gh; omega)).trans d,
    e.setCell (Or.inr (by show bA ≤ gh; omega)) _, ⟨DL, f1, f2.setCell (Or.inr (by show gl + 1 ≤ gh; omega)) _⟩, ⟨_, g1.set hi hj hx, g2.setAt (by rw [g1.1]; exact hl) x⟩, ?_, ?_⟩
  · exact cu.keepB ((Below.refl w.heap.size wr).setCell (by show w.heap.size ≤ gh; omega) _) k1
  · exact jf.thenB ((Below.refl w.heap.size wr).setCell (by show w.heap.size ≤ gh; omega) _) (Nat.le_refl _)
theorem FlS.cellL (h : FlS w k P n N bA bL bH gl kl gh kh la vA DA wr) (hn : FlN w k n N bA bL bH gl gh la) {t : Nat} (ht : t < N) : ∃ z, wr.cell? ⟨gl, t, none⟩ = some (.int .i64 z) := by
  obtain ⟨_, _, _, _, _, ⟨DL, f1, f2⟩, _⟩ := h
  exact ⟨_, f2.fn.cell (by rw [f1.1, ← hn.nn]; exact ht)⟩
theorem FlS.frzL (h : FlS w k P n N bA bL bH gl kl gh kh la vA DA wr) (t : Nat) : wr.frozen? ⟨gl, t, none⟩ = false := by
  obtain ⟨_, _, _, _, _, ⟨DL, f1, f2⟩, _⟩ := h
  exact f2.fn.frozen t
theorem FlS.cellH (h : FlS w k P n N bA bL bH gl kl gh kh la vA DA wr) (hn : FlN w k n N bA bL bH gl gh la) {t : Nat} (ht : t < N) : ∃ z, wr.cell? ⟨gh, t, none⟩ = some (.int .i64 z) := by
  obtain ⟨_, _, _, _, _, _, ⟨DH, f1, f2⟩, _⟩ := h
  exact ⟨_, f2.fn.cell (by rw [f1.1, ← hn.nn]; exact ht)⟩
theorem FlS.frzH (h : FlS w k P n N bA bL bH gl kl gh kh la vA DA wr) (t : Nat) : wr.frozen? ⟨gh, t, none⟩ = false := by
  obtain ⟨_, _, _, _, _, _, ⟨DH, f1, f2⟩, _⟩ := h
  exact f2.fn.frozen t
theorem FlS.cur (h : FlS w k P n N bA bL bH gl kl gh kh la vA DA wr) : Cur wr k := h.cu
end

end Go.Proofs.Ytklpaannmdbmiaa

namespace Go.Proofs.Ytklpaannmdbmiaa
set_option linter.all false
open Go.RowKit

theorem Nf.congr {P : Int} {n m : Nat} {X X' : Nat → Nat → Int} {q : Nat → Nat} (h : Nf P n X q m) (e : ∀ i j, i < m → j < n → X' i j = X i j) : Nf P n X' q m :=
  ⟨h.lt, fun k j hk hj => by rw [e k j hk (by have := h.lt k hk; omega)]; exact h.zero k j hk hj, fun k hk => by rw [e k _ hk (h.lt k hk)]; exact h.one k hk,
    fun k l hk hl => by rw [e k _ hk (h.lt l (by omega))]; exact h.early k l hk hl, fun k j hk hj => by rw [e k j hk hj]; exact h.rng k j hk hj⟩

/-- the permutation of a flag -/
def qL (n : Nat) (q : Nat → Nat) : List Int := (List.range n).map fun k => (q k : Int)
theorem qL_length (n : Nat) (q : Nat → Nat) : (qL n q).length = n := by simp [qL]
theorem qL_getD {n k : Nat} {q : Nat → Nat} (h : k < n) : (qL n q).getD k 0 = q k := by simp [qL, List.getD_eq_getElem?_getD, h]
theorem qL_congr {n : Nat} {q q' : Nat → Nat} (h : ∀ k, k < n → q k = q' k) : qL n q = qL n q' :=
  List.map_congr_left fun k hk => by rw [h k (List.mem_range.1 hk)]
theorem qL_ok {P : Int} {n : Nat} {X : Nat → Nat → Int} {q : Nat → Nat} (h : Nf P n X q n) (h1 : 1 ≤ n) (h7 : n ≤ 7) : permOk (qL n q) = true := by
  unfold permOk
  refine decide_eq_true ⟨by rw [qL_length]; exact h1, by rw [qL_length]; exact h7, fun x hx => ?_, ?_⟩
  · obtain ⟨k, hk, rfl⟩ := List.mem_map.1 hx
    have := h.lt k (List.mem_range.1 hk)
    rw [qL_length]; omega
  · unfold qL
    refine List.Pairwise.map _ (R := fun a b => a ≠ b ∧ a < n ∧ b < n) ?_ ?_
    · rintro a b ⟨hne, ha, hb⟩ e
      exact hne (h.inj ha hb (Int.ofNat.inj e))
    · refine List.Pairwise.imp_of_mem (R := fun a b => a ≠ b) ?_ List.nodup_range
      intro a b ha hb hne
      exact ⟨hne, List.mem_range.1 ha, List.mem_range.1 hb⟩

variable {P : Int} {n : Nat} {D : List Int} {X : Nat → Nat → Int} {q : Nat → Nat}
theorem NfOf.nfF (hP : 2 ≤ P) (h : NfOf P n D X q) : Nf P n (mf n fun t => (flatM n n X).getD t 0) q n := (h.up.nf hP).congr fun i j hi hj => mf_flatM hi hj
theorem NfOf.again (hf : IsFl P n n D) (h : NfOf P n D X q) {m : Mx} {ok : Bool} (h2 : NfIs P n n (flatM n n X) m ok) : ok = true ∧ m = ⟨P, n, n, flatM n n X⟩ := by
  obtain ⟨_, _, _, _, _, _, _, hP, _⟩ := hf.facts
  obtain ⟨e, X', q', h3, rfl⟩ := NfIs.of (h.fl hf) h2
  refine ⟨e, ?_⟩
  have h4 := (NfUp.own hP (h.nfF hP) h3.up).2
  rw [flatM_congr (M := X') (M' := X) fun i j hi hj => by rw [← h4 i j hi hj, mf_flatM hi hj]]
theorem NfOf.againP (hf : IsFl P n n D) (h : NfOf P n D X q) {l : List Int} (h2 : FpIs P n n (flatM n n X) l) : l = qL n q := by
  obtain ⟨_, _, _, _, _, _, _, hP, _⟩ := hf.facts
  obtain ⟨X', q', h3, rfl⟩ := FpIs.of (h.fl hf) h2
  exact (qL_congr (NfUp.own hP (h.nfF hP) h3.up).1).symm
theorem NfOf.perm (hf : IsFl P n n D) (h : NfOf P n D X q) {l : List Int} (h2 : FpIs P n n D l) : l = qL n q := by
  obtain ⟨_, _, _, _, _, _, _, hP, _⟩ := hf.facts
  obtain ⟨X', q', h3, rfl⟩ := FpIs.of hf h2
  exact (qL_congr (NfUp.fix hP h.up h3.up fun i _ => .refl).1).symm
theorem NfOf.ok (hf : IsFl P n n D) (h : NfOf P n D X q) : permOk (qL n q) = true := by
  obtain ⟨m, _, e, hn0, hn7, _, _, hP, _⟩ := hf.facts
  obtain rfl := Int.ofNat.inj e
  exact qL_ok (h.up.nf hP) hn0 hn7
/-- the matrix of the permutation is a flag in normal form -/
theorem NfOf.pm (hf : IsFl P n n D) (h : NfOf P n D X q) : permMx P (qL n q) = ⟨P, n, n, (permRows (qL n q)).flatten⟩ := by
  obtain ⟨m, _, e, hn0, hn7, _, _, hP, _, hp, _⟩ := hf.facts
  rw [permMx_yes hp (h.ok hf), qL_length]
theorem NfOf.pmFl (hf : IsFl P n n D) (h : NfOf P n D X q) : IsFl P n n (permRows (qL n q)).flatten := by
  obtain ⟨m, _, e, hn0, hn7, _, _, hP, _, hp, _⟩ := hf.facts
  obtain rfl := Int.ofNat.inj e
  refine isFl_of hp hn0 hn7 (by rw [permRows_flat_length, qL_length]) (permRows_rng hP _) ?_
  have := perm_indep (P := P) (h.ok hf)
  rwa [qL_length] at this
theorem NfOf.pmP (hf : IsFl P n n D) (h : NfOf P n D X q) {l : List Int} (h2 : FpIs P n n (permRows (qL n q)).flatten l) : l = qL n q := by
  obtain ⟨_, _, _, _, _, _, _, hP, _⟩ := hf.facts
  obtain ⟨X', q', h3, rfl⟩ := FpIs.of (h.pmFl hf) h2
  have g := h.up.nf hP
  have e : ∀ i j, i < n → j < n → mf n (fun t => (permRows (qL n q)).flatten.getD t 0) i j = if j = q i then 1 else 0 := fun i j hi hj => by
    rw [permRows_mf (qL_length n q) hi hj, qL_getD hi]
    by_cases c : j = q i
    · rw [if_pos c, if_pos (by rw [c])]
    · rw [if_neg c, if_neg (by omega)]
  have hN : Nf P n (mf n fun t => (permRows (qL n q)).flatten.getD t 0) q n := by
    refine ⟨g.lt, fun k j hk hj => ?_, fun k hk => ?_, fun k l hk hl => ?_, fun k j hk hj => ?_⟩
    · rw [e k j hk (by have := g.lt k hk; omega), if_neg (by omega)]
    · rw [e k _ hk (g.lt k hk), if_pos rfl]
    · rw [e k _ hk (g.lt l (by omega)), if_neg fun c => by have := g.inj (by omega) hk c; omega]
    · rw [e k j hk hj]; split <;> omega
  exact (qL_congr (NfUp.own hP hN h3.up).1).symm
theorem NfOf.pos (hf : IsFl P n n D) (h : NfOf P n D X q) {l : List Int} (h2 : RpIs P n n D P n n (flatM n n X) l) : l = idL n := by
  obtain ⟨_, _, _, _, _, _, _, hP, _⟩ := hf.facts
  exact RpIs.same hf (h.fl hf) (h.same hP) h2

/-- rows below i are done: an earlier row is added to each -/
def AddUp (P : Int) (n : Nat) (D D' : List Int) (i : Nat) : Prop :=
  D'.length = n * n ∧ (∀ k c, k < n → c < n → (k = 0 ∨ i ≤ k) → D'.getD (k * n + c) 0 = D.getD (k * n + c) 0) ∧
    ∀ k, 1 ≤ k → k < i → ∃ j, j < k ∧ ∀ c, c < n → D'.getD (k * n + c) 0 = (D.getD (k * n + c) 0 + D'.getD (j * n + c) 0) % P
/-- in row i the first k places are done -/
def AddIn (P : Int) (n : Nat) (D0 D' : List Int) (i j k : Nat) : Prop :=
  D'.length = n * n ∧ (∀ r c, r < n → c < n → (r ≠ i ∨ k ≤ c) → D'.getD (r * n + c) 0 = D0.getD (r * n + c) 0) ∧
    ∀ c, c < k → D'.getD (i * n + c) 0 = (D0.getD (i * n + c) 0 + D0.getD (j * n + c) 0) % P
theorem AddIn.start {D0 : List Int} {i j : Nat} (h : D0.length = n * n) : AddIn P n D0 D0 i j 0 := ⟨h, fun _ _ _ _ _ => rfl, fun _ h => absurd h (Nat.not_lt_zero _)⟩
theorem flat_inj2 {n r c r' c' : Nat} (hc : c < n) (hc' : c' < n) (h : r * n + c = r' * n + c') : r = r' ∧ c = c' := by
  obtain ⟨a, b⟩ := div_at (k := r) hc
  obtain ⟨a', b'⟩ := div_at (k := r') hc'
  rw [h] at a b
  exact ⟨a.symm.trans a', b.symm.trans b'⟩
theorem AddIn.step {D0 D' : List Int} {i j k : Nat} (h : AddIn P n D0 D' i j k) (hi : i < n) (hj : j < i) (hk : k < n) : AddIn P n D0 (D'.set (i * n + k) ((D'.getD (i * n + k) 0 + D'.getD (j * n + k) 0) % P)) i j (k + 1) := by
  obtain ⟨h1, h2, h3⟩ := h
  have hset : ∀ t x, (D'.set (i * n + k) x).getD t 0 = if t = i * n + k then x else D'.getD t 0 := fun t x => by
    have hb : i * n + k < D'.length := by rw [h1]; exact flat_lt hi hk
    by_cases e : t = i * n + k
    · subst e; simp [List.getD_eq_getElem?_getD, hb]
    · rw [if_neg e]; simp [List.getD_eq_getElem?_getD, List.getElem?_set, show ¬ i * n + k = t from fun c => e c.symm]
  refine ⟨by rw [List.length_set, h1], fun r c hr hc ho => ?_, fun c hc => ?_⟩
  · rw [hset, if_neg fun e => by have := flat_inj2 hc hk e; omega]
    exact h2 r c hr hc (by omega)
  · rw [hset]
    by_cases e : c = k
    · subst e
      rw [if_pos rfl, h2 i c hi hk (Or.inr (Nat.le_refl _)), h2 j c (by omega) hk (Or.inl (by omega))]
    · rw [if_neg fun e2 => by have := flat_inj2 (by omega) hk e2; omega]
      exact h3 c (by omega)
theorem AddIn.done {D0 D' : List Int} {i j : Nat} (h0 : AddUp P n D D0 i) (h : AddIn P n D0 D' i j n) (h1 : 1 ≤ i) (hi : i < n) (hj : j < i) : AddUp P n D D' (i + 1) := by
  obtain ⟨a1, a2, a3⟩ := h0
  obtain ⟨b1, b2, b3⟩ := h
  refine ⟨b1, fun k c hk hc ho => ?_, fun k hk1 hk => ?_⟩
  · rw [b2 k c hk hc (Or.inl (by omega)), a2 k c hk hc (by omega)]
  · by_cases e : k = i
    · subst e
      refine ⟨j, hj, fun c hc => ?_⟩
      rw [b3 c hc, a2 k c hi hc (Or.inr (Nat.le_refl _)), b2 j c (by omega) hc (Or.inl (by omega))]
    · obtain ⟨j', hj', h5⟩ := a3 k hk1 (by omega)
      refine ⟨j', hj', fun c hc => ?_⟩
      rw [b2 k c (by omega) hc (Or.inl (by omega)), h5 c hc, b2 j' c (by omega) hc (Or.inl (by omega))]
theorem AddUp.start (h : D.length = n * n) : AddUp P n D D 1 := ⟨h, fun _ _ _ _ _ => rfl, fun k h1 h2 => absurd h1 (by omega)⟩
theorem AddUp.rng {D' : List Int} {i : Nat} (h : AddUp P n D D' i) (hP : 2 ≤ P) (hr : ∀ t, 0 ≤ D.getD t 0 ∧ D.getD t 0 < P) : ∀ k c, k < n → c < n → 0 ≤ D'.getD (k * n + c) 0 ∧ D'.getD (k * n + c) 0 < P := fun k c hk hc => by
  by_cases e : k = 0 ∨ i ≤ k
  · rw [h.2.1 k c hk hc e]; exact hr _
  · obtain ⟨j, hj, h5⟩ := h.2.2 k (by omega) (by omega)
    rw [h5 c hc]; exact emod_rng hP _
theorem AddUp.same {D' : List Int} (h : AddUp P n D D' n) (h1 : 1 ≤ n) : ∀ i, i ≤ n → SameSp P n i (mf n fun t => D.getD t 0) i (mf n fun t => D'.getD t 0) :=
  same_added n fun i hi => by
    by_cases e : i = 0
    · subst e
      refine ⟨fun _ => 0, .zero, .of_eq fun j hj => ?_⟩
      show D'.getD (0 * n + j) 0 = D.getD (0 * n + j) 0 + 0
      rw [h.2.1 0 j hi hj (Or.inl rfl)]; omega
    · obtain ⟨j, hj, h5⟩ := h.2.2 i (by omega) hi
      refine ⟨_, Sp.row hj, fun c hc => ?_⟩
      show P ∣ D'.getD (i * n + c) 0 - (D.getD (i * n + c) 0 + D'.getD (j * n + c) 0)
      rw [h5 c hc]; exact emod_dvd _ _
theorem AddUp.fl {D' : List Int} (hf : IsFl P n n D) (h : AddUp P n D D' n) : IsFl P n n D' := by
  obtain ⟨m, _, e, hn0, hn7, hlD, hD, hP, _, hp, hrk⟩ := hf.facts
  obtain rfl := Int.ofNat.inj e
  have hrg := h.rng hP (fun t => getD_range hD (by omega) t)
  refine isFl_of hp hn0 hn7 h.1 (fun x hx => ?_) ((hrk.same (h.same hn0 n (Nat.le_refl _)).symm).indep hp (fun i j hi hj => hrg i j hi hj))
  obtain ⟨t, ht, rfl⟩ := List.getElem_of_mem hx
  rw [h.1] at ht
  have h2 := hrg (t / n) (t % n) (Nat.div_lt_of_lt_mul ht) (Nat.mod_lt _ hn0)
  rw [Nat.div_add_mod'] at h2
  rwa [List.getD_eq_getElem?_getD, List.getElem?_eq_getElem (by rw [h.1]; exact ht)] at h2
theorem NfOf.added {D' : List Int} (hf : IsFl P n n D) (h : NfOf P n D X q) (ha : AddUp P n D D' n) {m : Mx} {ok : Bool} (h2 : NfIs P n n D' m ok) : ok = true ∧ m = ⟨P, n, n, flatM n n X⟩ := by
  obtain ⟨_, _, e, hn0, _, _, _, hP, _⟩ := hf.facts
  obtain rfl := Int.ofNat.inj e
  obtain ⟨e, X', q', h3, rfl⟩ := NfIs.of (ha.fl hf) h2
  refine ⟨e, ?_⟩
  have h4 := (NfUp.fix hP h.up h3.up (ha.same hn0)).2
  rw [flatM_congr (M := X') (M' := X) fun i j hi hj => (h4 i j hi hj).symm]

end Go.Proofs.Ytklpaannmdbmiaa

namespace Go.Proofs.Ytklpaannmdbmiaa
set_option linter.all false
open Go.RowKit

/-- the first i rows, the first b numbers of each -/
def cutL (c b : Nat) (D : List Int) (i : Nat) : List (List Int) := (List.range i).map fun k => (rowAt c D k).take b
theorem cutL_length (c b : Nat) (D : List Int) (i : Nat) : (cutL c b D i).length = i := by simp [cutL]
theorem cutL_getD {c b : Nat} {D : List Int} {i k : Nat} (h : k < i) : (cutL c b D i).getD k [] = (rowAt c D k).take b := by simp [cutL, List.getD_eq_getElem?_getD, h]
theorem take_getDc {xs : List Int} {b j : Nat} (h : j < b) : (xs.take b).getD j 0 = xs.getD j 0 := by simp [List.getD_eq_getElem?_getD, List.getElem?_take, h]
theorem ints_cut {w : World} {p : Option Addr} {n k : Nat} {xs : List Int} {b : Nat} (h : Ints w (.slice p n k) xs) (hb : b ≤ xs.length) : Ints w (.slice p b k) (xs.take b) := by
  obtain ⟨q, cap, e, ⟨h1, h2⟩, hc⟩ := h
  injection e with e1 e2 e3
  subst e1 e3
  have hl : (xs.take b).length = b := by rw [List.length_take]; omega
  refine ⟨p, k, by rw [hl], ⟨by rw [hl]; omega, h2⟩, fun h0 => ?_⟩
  rw [hl] at h0
  obtain ⟨bl, off, e, hx⟩ := hc (by omega)
  refine ⟨bl, off, e, fun j hj => ?_⟩
  rw [hl] at hj
  rw [hx j (by omega), iv, iv, take_getDc hj]
theorem corner_rows {P : Int} {r c a b : Nat} {D : List Int} (hlD : D.length = r * c) (hrg : ∀ t, 0 ≤ D.getD t 0 ∧ D.getD t 0 < P) (ha : a ≤ r) (hb : b ≤ c) :
    RowsOk P b (cutL c b D a) ∧ SameSp P b a (mf c fun t => D.getD t 0) (cutL c b D a).length (mt (cutL c b D a)) := by
  have hl : ∀ k, k < a → (rowAt c D k).length = c := fun k hk => rowAt_length (by rw [hlD]; exact mul_le_of (by omega))
  refine ⟨fun i hi => ?_, ?_⟩
  · rw [cutL_length] at hi
    rw [cutL_getD hi]
    have hlen : ((rowAt c D i).take b).length = b := by rw [List.length_take, hl i hi]; omega
    refine ⟨hlen, fun j => ?_⟩
    by_cases hj : j < b
    · rw [take_getDc hj, rowAt_getD (by omega)]; exact hrg _
    · rw [getD_out (by omega)]; have := hrg 0; omega
  · rw [cutL_length]
    refine SameSp.of_eqv fun i hi => .of_eq fun j hj => ?_
    unfold mf mt
    dsimp only
    rw [cutL_getD hi, take_getDc hj, rowAt_getD (by omega)]

set_option maxRecDepth 100000 in
set_option maxHeartbeats 4000000 in
theorem implCornerRank_yes (P : Int) (r c x y : Nat) (d : Value) (D : List Int) (w : World) (hd : Ints w d D) (h1 : mxOk P r c D = true) (hxr : x ≤ r) (hyc : y ≤ c) :
    Calls Try.prog 11 #[.agg #[.int .i64 P, .int .i64 (r : Int), .int .i64 (c : Int), d], .int .i64 (x : Int), .int .i64 (y : Int)] w fun e w' => ∃ n, e = .returned (.int .i64 n) ∧ CkIs P r c D x y n ∧ Below w.heap.size w w' := by
  have Hd := Lib.hid hd
  obtain ⟨p, cap, rfl, ⟨_, mx⟩, _⟩ := hd
  unfold maxLen at mx
  obtain ⟨r', c', e1, e2, hr, hc0, hc, hlD, hD, hP2, hP7, hpr⟩ := mxOk_facts h1
  have e1 := Int.ofNat.inj e1
  have e2 := Int.ofNat.inj e2
  subst e1 e2
  obtain ⟨hro, hsp⟩ := corner_rows (P := P) hlD (fun t => getD_range hD (by omega) t) hxr hyc
  have H1 := Lib.hid h1
  have HlD := Lib.hid hlD
  have Hpr := Lib.hid hpr
  have Hro := Lib.hid hro
  have Hsp := Lib.hid hsp
  have hx0 : decide ((x : Int) < 0) = false := decide_eq_false (by omega)
  have hy0 : decide ((y : Int) < 0) = false := decide_eq_false (by omega)
  have hx1 : decide ((r : Int) < (x : Int)) = false := by simp; omega
  have hy1 : decide ((c : Int) < (y : Int)) = false := by simp; omega
  have Z := Lib.hid (heap_alloc_top w (.cells #[.int .i64 P, .int .i64 (r : Int), .int .i64 (c : Int), .slice p D.length cap] 26))
  have Hba := Lib.hid (below_alloc w (.cells #[.int .i64 P, .int .i64 (r : Int), .int .i64 (c : Int), .slice p D.length cap] 26))
  clear h1 hlD hD hpr hro hsp
  go_enter Try.func11, Try.ntmps11
  go_wp2_with fail
  refine (implMatrixOk_b _ _ _ _ _ _ H1.out _ (Hd.out.below Hba.out)).mono ?_
  rintro e w1 ⟨rfl, hbl⟩
  have Hb1 := Lib.hid (Hba.out.trans (hbl.mono (by simp)))
  have Z1 := Lib.hid (blk_later Z.out hbl)
  clear hbl
  obtain ⟨c0, c1, c2, c3, cf, cz⟩ := blk4 Z1.out
  go_wp2_with fail
  have hm0 := OwnF.made0 w1 24 (fun _ => .int .i64 0)
  have hb2 := below_alloc w1 (.cells #[] 24)
  have hs2 : (w1.alloc (.cells #[] 24)).heap.size = w1.heap.size + 1 := by simp
  generalize w1.alloc (.cells #[] 24) = w2 at *
  have hs1 := Hb1.out.size
  have Hb2 := Lib.hid (Hb1.out.trans (hb2.mono hs1))
  refine (lines_any P r c _ D _ (Hd.out.below Hb2.out) (by omega) (by omega) hc0 HlD.out).mono ?_
  rintro e w3 ⟨u, rfl, hoL, hb3⟩
  have hnl := rowsOf_length r c D
  obtain ⟨F, g1, g2, g3⟩ := hoL
  have g1 := g1.cut hnl
  obtain ⟨p2, k2, rfl, hk2, hk2b, _⟩ := g1.shape
  unfold maxLen at hk2b
  have hs3 := hb3.size
  have Hb3 := Lib.hid (Hb2.out.trans (hb3.mono (by omega)))
  have HZ3 := Lib.hid (blk_later (blk_later Z1.out hb2) hb3)
  have G1 := Lib.hid g1
  have G2 := Lib.hid (fun i (hi : i < r) => g2 i (by omega))
  have Hm0 := Lib.hid (hm0.below hb3)
  clear g1 g2 g3 hb3 hnl hm0 hb2 c0 c1 c2 c3 cf cz
  have hxi : (x : Int) ≤ (k2 : Int) := by omega
  go_wp2_with fail
  go_loopg [7, 39] x (fun g s7 s39 wr => ∃ (i : Nat) (f : Nat → Value), i ≤ x ∧ g = x - i ∧ s39 = .int .i64 i ∧ Hid (Below w1.heap.size w3 wr) ∧ w3.heap.size ≤ wr.heap.size ∧
    Hid (∀ b, w1.heap.size + 1 ≤ b → b < w3.heap.size → wr.heap[b]? = w3.heap[b]?) ∧ Hid (OwnF wr w1.heap.size wr.heap.size 24 s7 i f) ∧
    Hid (∀ b, s7.ownBlock = some b → b < w1.heap.size + 1 ∨ w3.heap.size ≤ b) ∧ Hid (∀ k, k < i → ∃ pt kt, F k = .slice pt c kt ∧ f k = .slice pt y kt))
  case atStart =>
    refine ⟨0, fun _ => .int .i64 0, Nat.zero_le _, rfl, rfl, Below.refl _ _, Nat.le_refl _, fun b _ _ => rfl, Hm0.out.mono (Nat.le_refl _) (by omega), fun b hb => .inl ?_, fun k hk => absurd hk (Nat.not_lt_zero _)⟩
    simp [Value.ownBlock] at hb; omega
  case round =>
    obtain ⟨i, f, hi, rfl, rfl, hbx, hsx, hun, hpt, hbk, hrw⟩ := hrel
    obtain ⟨p7, k7, rfl, hk7, hk7b, _⟩ := hpt.out.shape
    unfold maxLen at hk7b
    by_cases hlt : i < x
    · have g1 := G1.out.keep (w' := wr) fun b h1 h2 _ => hun.out b (by omega) h2
      obtain ⟨gb, rfl, _, _, _⟩ := g1.at_ (by omega)
      have d1 := g1.cell (show i < r by omega)
      have hrl : (rowAt c D i).length = c := rowAt_length (by rw [HlD.out]; exact mul_le_of (by omega))
      have hI := G2.out i (by omega)
      rw [rowsOf_getD (show i < r by omega)] at hI
      obtain ⟨pt, kt, et, hnt, hkt⟩ := hI.shapeC hrl
      unfold maxLen at hkt
      rw [et] at d1
      have hyk : (y : Int) ≤ (kt : Int) := by omega
      have Het := Lib.hid et
      have Hd1 := Lib.hid (show i + 1 ≤ maxLen by unfold maxLen; omega)
      have Hd2 := Lib.hid (show (i + 1) * 24 ≤ 140737488355328 by omega)
      clear g1 hI et hrl
      go_wp2_with (at_builtin; go_must (refine wpList_append_G rfl (.tmp 43) (.tmp 47) 51 rfl 24 (.slice none 0 0) 24 Try.underlying51 info_sl rfl w1.heap.size wr.heap.size _ i f rfl (hpt.out.below (below_alloc _ _)) (by simp; omega) (by simp) _ _ _ rfl (rd_one _ _ _ rfl) (fun j _ => rfl) Hd1.out Hd2.out ?_; intro v' w' ho' hg' hw'))
      have hsw := hg'.size
      simp only [size_alloc] at hsw hw'
      have hblk := (hpt.out.below (below_alloc wr (.cells #[.slice pt y kt] 24))).blocks
      go_roundg (x - (i + 1))
      case measure => omega
      case rel =>
        refine ⟨i + 1, _, by omega, rfl, by go_num, hbx.out.trans (((below_alloc wr _).mono (by omega)).trans (grownBy_below hg' hblk (Nat.le_refl _) (by simp; omega))), by omega, fun b h1 h2 => ?_, ho', fun b hb => ?_, fun k hk => ?_⟩
        · rw [hg'.block b (by simp; omega) (fun e => by have := hbk.out b e.symm; omega), heap_alloc_low _ _ (by omega)]
          exact hun.out b h1 h2
        · rcases hw' b hb with h | h
          · exact hbk.out b h
          · exact .inr (by omega)
        · by_cases e : k < i
          · simp only [e, if_true]; exact hrw.out k e
          · obtain rfl : k = i := by omega
            simp only [e, if_false]
            exact ⟨pt, kt, Het.out, rfl⟩
    · obtain rfl : i = x := by omega
      have hII : RdII wr (.slice p7 i k7) (cutL c y D i) := by
        refine ⟨f, by rw [cutL_length]; exact hpt.out.rd, fun k hk => ?_⟩
        rw [cutL_length] at hk
        obtain ⟨pt, kt, e1, e2⟩ := hrw.out k hk
        have hI := (G2.out k (by omega)).keep (w' := wr) fun b h1 h2 _ => hun.out b (by omega) h2
        rw [rowsOf_getD (show k < r by omega), e1] at hI
        rw [cutL_getD hk, e2]
        have hrl : (rowAt c D k).length = c := rowAt_length (by rw [HlD.out]; exact mul_le_of (by omega))
        exact ints_cut (OwnI.ints hI) (by omega)
      have HR := Lib.hid (reduced_any _ (cutL c y D i) y P wr hII Hro.out Hpr.out (by rw [cutL_length]; omega) (by omega))
      have hbm := hbx.out.block w.heap.size (blk_lt Z1.out)
      have HZ := Lib.hid (hbm.trans HZ3.out)
      have HBr := Lib.hid (Hb3.out.trans (hbx.out.mono (by omega)))
      clear hII hbm
      obtain ⟨c0, c1, c2, c3, cf, cz⟩ := blk4 HZ.out
      go_wp2_with fail
      refine HR.out.mono ?_
      rintro e w4 ⟨v, L, q, rfl, hoR, hb4, hR1, hR2, hR3, hR4, hR5⟩
      obtain ⟨pv, kv, rfl, hkv1, hkv2⟩ := hoR.shape
      unfold maxLen at hkv2
      have hnk : HasRank P y i (mf c fun t => D.getD t 0) L.length := ⟨_, _, hR2, hR3, fun a j ha hj => (hR1 a ha).2 j, Hsp.out.trans hR4⟩
      have Hnk := Lib.hid hnk
      have Hb4 := Lib.hid (HBr.out.trans (hb4.mono HBr.out.size))
      clear hoR hb4 hR1 hR2 hR3 hR4 hR5 hnk c0 c1 c2 c3 cf cz
      go_wp2_with fail
      go_ret
      exact ⟨_, rfl, CkIs.yes H1.out hxr hyc Hnk.out, Hb4.out⟩

set_option maxRecDepth 100000 in
set_option maxHeartbeats 4000000 in
theorem implCornerRank_no (P R C : Int) (d : Value) (D : List Int) (a b : Int) (w : World) (hd : Ints w d D) (hno : ¬ (mxOk P R C D = true ∧ (0 ≤ a ∧ a ≤ R) ∧ (0 ≤ b ∧ b ≤ C))) :
    Calls Try.prog 11 #[.agg #[.int .i64 P, .int .i64 R, .int .i64 C, d], .int .i64 a, .int .i64 b] w fun e w' => e = .returned (.int .i64 (-1)) ∧ Below w.heap.size w w' := by
  have Hd := Lib.hid hd
  obtain ⟨p, cap, rfl, ⟨_, mx⟩, _⟩ := hd
  unfold maxLen at mx
  cases h1 : mxOk P R C D with
  | false =>
    have H1 := Lib.hid h1
    clear h1 hno
    have Hba := Lib.hid (below_alloc w (.cells #[.int .i64 P, .int .i64 R, .int .i64 C, .slice p D.length cap] 26))
    have Z := Lib.hid (heap_alloc_top w (.cells #[.int .i64 P, .int .i64 R, .int .i64 C, .slice p D.length cap] 26))
    go_enter Try.func11, Try.ntmps11
    go_wp2_with fail
    refine (implMatrixOk_b _ _ _ _ _ _ H1.out _ (Hd.out.below Hba.out)).mono ?_
    rintro e w1 ⟨rfl, hbl⟩
    have Hb1 := Lib.hid (Hba.out.trans (hbl.mono (by simp)))
    have Z1 := Lib.hid (blk_later Z.out hbl)
    clear hbl
    obtain ⟨c0, c1, c2, c3, cf, cz⟩ := blk4 Z1.out
    go_wp2_with fail
    go_ret
    exact ⟨rfl, Hb1.out⟩
  | true =>
    have H1 := Lib.hid h1
    by_cases a1 : a < 0
    · clear h1 hno
      have Hba := Lib.hid (below_alloc w (.cells #[.int .i64 P, .int .i64 R, .int .i64 C, .slice p D.length cap] 26))
      have Z := Lib.hid (heap_alloc_top w (.cells #[.int .i64 P, .int .i64 R, .int .i64 C, .slice p D.length cap] 26))
      go_enter Try.func11, Try.ntmps11
      go_wp2_with fail
      refine (implMatrixOk_b _ _ _ _ _ _ H1.out _ (Hd.out.below Hba.out)).mono ?_
      rintro e w1 ⟨rfl, hbl⟩
      have Hb1 := Lib.hid (Hba.out.trans (hbl.mono (by simp)))
      have Z1 := Lib.hid (blk_later Z.out hbl)
      clear hbl
      obtain ⟨c0, c1, c2, c3, cf, cz⟩ := blk4 Z1.out
      go_wp2_with fail
      go_ret
      exact ⟨rfl, Hb1.out⟩
    have a2 : decide (a < 0) = false := decide_eq_false a1
    by_cases a3 : R < a
    · clear h1 hno a1
      have Hba := Lib.hid (below_alloc w (.cells #[.int .i64 P, .int .i64 R, .int .i64 C, .slice p D.length cap] 26))
      have Z := Lib.hid (heap_alloc_top w (.cells #[.int .i64 P, .int .i64 R, .int .i64 C, .slice p D.length cap] 26))
      go_enter Try.func11, Try.ntmps11
      go_wp2_with fail
      refine (implMatrixOk_b _ _ _ _ _ _ H1.out _ (Hd.out.below Hba.out)).mono ?_
      rintro e w1 ⟨rfl, hbl⟩
      have Hb1 := Lib.hid (Hba.out.trans (hbl.mono (by simp)))
      have Z1 := Lib.hid (blk_later Z.out hbl)
      clear hbl
      obtain ⟨c0, c1, c2, c3, cf, cz⟩ := blk4 Z1.out
      go_wp2_with fail
      go_ret
      exact ⟨rfl, Hb1.out⟩
    have a4 : decide (R < a) = false := decide_eq_false a3
    by_cases b1 : b < 0
    · clear h1 hno a1 a3
      have Hba := Lib.hid (below_alloc w (.cells #[.int .i64 P, .int .i64 R, .int .i64 C, .slice p D.length cap] 26))
      have Z := Lib.hid (heap_alloc_top w (.cells #[.int .i64 P, .int .i64 R, .int .i64 C, .slice p D.length cap] 26))
      go_enter Try.func11, Try.ntmps11
      go_wp2_with fail
      refine (implMatrixOk_b _ _ _ _ _ _ H1.out _ (Hd.out.below Hba.out)).mono ?_
      rintro e w1 ⟨rfl, hbl⟩
      have Hb1 := Lib.hid (Hba.out.trans (hbl.mono (by simp)))
      have Z1 := Lib.hid (blk_later Z.out hbl)
      clear hbl
      obtain ⟨c0, c1, c2, c3, cf, cz⟩ := blk4 Z1.out
      go_wp2_with fail
      go_ret
      exact ⟨rfl, Hb1.out⟩
    have b2 : decide (b < 0) = false := decide_eq_false b1
    by_cases b3 : C < b
    · clear h1 hno a1 a3 b1
      have Hba := Lib.hid (below_alloc w (.cells #[.int .i64 P, .int .i64 R, .int .i64 C, .slice p D.length cap] 26))
      have Z := Lib.hid (heap_alloc_top w (.cells #[.int .i64 P, .int .i64 R, .int .i64 C, .slice p D.length cap] 26))
      go_enter Try.func11, Try.ntmps11
      go_wp2_with fail
      refine (implMatrixOk_b _ _ _ _ _ _ H1.out _ (Hd.out.below Hba.out)).mono ?_
      rintro e w1 ⟨rfl, hbl⟩
      have Hb1 := Lib.hid (Hba.out.trans (hbl.mono (by simp)))
      have Z1 := Lib.hid (blk_later Z.out hbl)
      clear hbl
      obtain ⟨c0, c1, c2, c3, cf, cz⟩ := blk4 Z1.out
      go_wp2_with fail
      go_ret
      exact ⟨rfl, Hb1.out⟩
    exact absurd ⟨h1, ⟨by omega, by omega⟩, ⟨by omega, by omega⟩⟩ hno

theorem implCornerRank_ex (P R C : Int) (d : Value) (D : List Int) (a b : Int) (w : World) (hd : Ints w d D) :
    Calls Try.prog 11 #[.agg #[.int .i64 P, .int .i64 R, .int .i64 C, d], .int .i64 a, .int .i64 b] w fun e w' => ∃ r, e = .returned (.int .i64 r) ∧ CkIs P R C D a b r ∧ Below w.heap.size w w' := by
  by_cases h : mxOk P R C D = true ∧ (0 ≤ a ∧ a ≤ R) ∧ (0 ≤ b ∧ b ≤ C)
  · obtain ⟨r, c, rfl, rfl, hr, hc0, hc, hlD, hD, hP2, hP7, hpr⟩ := mxOk_facts h.1
    obtain ⟨x, rfl⟩ := Int.eq_ofNat_of_zero_le h.2.1.1
    obtain ⟨y, rfl⟩ := Int.eq_ofNat_of_zero_le h.2.2.1
    exact implCornerRank_yes P r c x y d D w hd h.1 (by omega) (by omega)
  · exact (implCornerRank_no P R C d D a b w hd h).mono fun e w' ⟨h1, h2⟩ => ⟨-1, h1, CkIs.no h, h2⟩

theorem implCornerRank_any (P R C : Int) (d : Value) (D : List Int) (a b : Int) (w : World) (hd : Ints w d D) :
    Calls Try.prog 11 #[.agg #[.int .i64 P, .int .i64 R, .int .i64 C, d], .int .i64 a, .int .i64 b] w fun e w' => e = .returned (.int .i64 (Classical.epsilon (CkIs P R C D a b))) ∧ Below w.heap.size w w' :=
  (implCornerRank_ex P R C d D a b w hd).mono fun e w' ⟨r, h1, h2, h3⟩ => ⟨by rw [h1, h2.eps], h3⟩

end Go.Proofs.Ytklpaannmdbmiaa

namespace Go.Proofs.Ytklpaannmdbmiaa
set_option linter.all false
open Go.RowKit

/-- without the last column -/
theorem HasRank.slim {P : Int} {C R k k' : Nat} {M : Nat → Nat → Int} (hP : 2 ≤ P) (h' : HasRank P (C + 1) R M k') (h : HasRank P C R M k) : k ≤ k' ∧ k' ≤ k + 1 := by
  obtain ⟨N, q, h1, h2, h3, h4⟩ := h'
  have key : ∀ k0, k0 ≤ k' → (∀ i, i < k0 → q i < C) → (∀ i, k0 ≤ i → i < k' → ¬ q i < C) → HasRank P C R M k0 := fun k0 hk hlt hge => by
    refine ⟨N, q, ⟨hlt, fun i m hi hm => h1.unit i m (by omega) (by omega), fun i j hi hj => h1.lead i j (by omega) hj⟩, fun i m hi hm => h2 i m hi (by omega), fun i c hi hc => h3 i c (by omega) (by omega), fun i hi => ?_, fun i hi => (h4.2 i (by omega)).narrow (Nat.le_succ _)⟩
    have a := (h4.1 i hi).narrow (Nat.le_succ C)
    refine a.trans fun t ht => ?_
    by_cases e : t < k0
    · exact .row e
    · exact .eqv .zero fun j hj => by
        have := hge t (by omega) ht
        rw [h1.lead t j ht (by omega)]; simp
  by_cases hk0 : k' = 0
  · have := (key 0 (by omega) (fun i hi => absurd hi (Nat.not_lt_zero _)) fun i _ hi => by omega).one hP h
    omega
  · obtain ⟨m, rfl⟩ : ∃ m, k' = m + 1 := ⟨k' - 1, by omega⟩
    by_cases e : q m < C
    · have := (key (m + 1) (Nat.le_refl _) (fun i hi => by
        by_cases e2 : i = m
        · rw [e2]; exact e
        · have := h2 i m (by omega) (by omega); omega) fun i h0 hi => by omega).one hP h
      omega
    · have hqm := h1.lt m (by omega)
      have := (key m (by omega) (fun i hi => by have := h2 i m hi (by omega); omega) fun i h0 hi => by
        obtain rfl : i = m := by omega
        exact e).one hP h
      omega

def ranksB (P : Int) (M : Nat → Nat → Int) (a b : Nat) (k : Nat) : Prop := HasRank P b a M k
open Classical in
/-- the ranks of the corners as numbers -/
noncomputable def crn (P : Int) (n : Nat) (M : Nat → Nat → Int) (a b : Nat) : Nat := if h : a ≤ n ∧ b ≤ n ∧ ∃ k, HasRank P b a M k then h.2.2.choose else 0
theorem crn_ex {P : Int} {n : Nat} {M : Nat → Nat → Int} (hp : primeOk P = true) (hr : ∀ i j, i < n → j < n → 0 ≤ M i j ∧ M i j < P) {a b : Nat} (ha : a ≤ n) (hb : b ≤ n) : HasRank P b a M (crn P n M a b) := by
  obtain ⟨f, _, hf, _⟩ := ranks_ex (C := b) hp n fun i j hi hj => hr i j hi (by omega)
  have h : a ≤ n ∧ b ≤ n ∧ ∃ k, HasRank P b a M k := ⟨ha, hb, f a, hf a ha⟩
  unfold crn
  rw [dif_pos h]
  exact h.2.2.choose_spec
theorem crn_is {P : Int} {n : Nat} {M : Nat → Nat → Int} (hp : primeOk P = true) (hr : ∀ i j, i < n → j < n → 0 ≤ M i j ∧ M i j < P) {a b k : Nat} (ha : a ≤ n) (hb : b ≤ n) (h : HasRank P b a M k) : crn P n M a b = k :=
  (crn_ex hp hr ha hb).one (primeOk_range hp).1 h
theorem crn_step {P : Int} {n : Nat} {M : Nat → Nat → Int} (hp : primeOk P = true) (hr : ∀ i j, i < n → j < n → 0 ≤ M i j ∧ M i j < P) : StepR n (crn P n M) := by
  have hP2 := (primeOk_range hp).1
  refine ⟨fun b => ?_, fun a => ?_, fun a b ha hb => ?_, fun a b ha hb => ?_⟩
  · by_cases hb : b ≤ n
    · exact crn_is hp hr (Nat.zero_le _) hb (.zero _ _ _)
    · unfold crn; rw [dif_neg (fun h => hb h.2.1)]
  · by_cases ha : a ≤ n
    · exact Nat.le_zero.1 (crn_ex hp hr ha (Nat.zero_le _)).leC
    · unfold crn; rw [dif_neg (fun h => ha h.1)]
  · obtain ⟨f, _, hf, hs⟩ := ranks_ex (C := b) hp n fun i j hi hj => hr i j hi (by omega)
    rw [crn_is hp hr (show a ≤ n by omega) hb (hf a (by omega)), crn_is hp hr (show a + 1 ≤ n by omega) hb (hf (a + 1) (by omega))]
    have := hs a ha
    omega
  · exact (crn_ex hp hr ha (show b + 1 ≤ n by omega)).slim hP2 (crn_ex hp hr ha (show b ≤ n by omega))

/-! ### the matrix of a permutation -/
theorem perm_crn {P : Int} {n : Nat} {xs : List Int} {M : Nat → Nat → Int} (hp : primeOk P = true) (hx : P5 n xs) (hM : ∀ i j, i < n → j < n → M i j = if (j : Int) = xs.getD i 0 then 1 else 0) {b : Nat} (hb : b ≤ n) :
    ∀ a, a ≤ n → HasRank P b a M (rkL xs (b : Int) a)
  | 0, _ => .zero _ _ _
  | a + 1, ha => by
    obtain ⟨hP2, _⟩ := primeOk_range hp
    have ih := perm_crn hp hx hM hb a (by omega)
    obtain ⟨t, ht, htn⟩ := hx.rng (show a < n by omega)
    rw [rk_row]
    by_cases e : t < b
    · rw [if_pos (by rw [ht]; omega)]
      obtain ⟨k', hk, hk'⟩ := ih.more hp (M a) fun j hj => by rw [hM a j (by omega) (by omega)]; split <;> omega
      have hk' := hk'.congr (M1 := M) fun i j hi hj => by unfold snocM; split; rfl; rw [show i = a by omega]
      rcases hk with rfl | rfl
      · exfalso
        have hsp := HasRank.same_of_sub hP2 hk' ih fun i hi => .row (Nat.lt_succ_of_lt hi)
        obtain ⟨c, hc⟩ := (hsp.2 a (Nat.lt_succ_self a)).coef
        have := hc t e
        have hz : sm a (fun i => c i * M i t) = 0 := (sm_congr (g := fun _ => 0) fun i hi => by
          rw [hM i t (by omega) htn, if_neg, Int.mul_zero]
          intro e2
          have hnd := hx.ok
          simp only [permOk, decide_eq_true_eq] at hnd
          have := List.pairwise_iff_getElem.1 hnd.2.2.2 i a (by rw [hx.len]; omega) (by rw [hx.len]; omega) hi
          rw [← getD_lt, ← getD_lt, ht, ← e2] at this
          exact this rfl).trans (sm_zero a)
        rw [hz, hM a t (by omega) htn, ht, if_pos rfl] at this
        have := Int.le_of_dvd (by omega) this
        omega
      · exact hk'
    · rw [if_neg (by rw [ht]; omega), Nat.add_zero]
      refine ih.same ⟨fun i hi => ?_, fun i hi => .row (Nat.lt_succ_of_lt hi)⟩
      by_cases e2 : i < a
      · exact .row e2
      · obtain rfl : i = a := by omega
        exact .eqv .zero fun j hj => by
          rw [hM i j (by omega) (by omega), if_neg (by rw [ht]; omega)]; simp

/-! ### rows and columns added to later ones -/
/-- the corners have the same ranks -/
def SameC (P : Int) (n : Nat) (D D' : List Int) : Prop := ∀ a b k, a ≤ n → b ≤ n → HasRank P b a (mf n fun t => D.getD t 0) k → HasRank P b a (mf n fun t => D'.getD t 0) k
theorem SameC.refl (P : Int) (n : Nat) (D : List Int) : SameC P n D D := fun _ _ _ _ _ h => h
theorem SameC.trans {P : Int} {n : Nat} {D D' D2 : List Int} (h : SameC P n D D') (h' : SameC P n D' D2) : SameC P n D D2 := fun a b k ha hb hk => h' a b k ha hb (h a b k ha hb hk)
def RngD (P : Int) (n : Nat) (D : List Int) : Prop := D.length = n * n ∧ ∀ i c, i < n → c < n → 0 ≤ D.getD (i * n + c) 0 ∧ D.getD (i * n + c) 0 < P
theorem AddIn.rng {P : Int} {n i j : Nat} {D D' : List Int} (h : AddIn P n D D' i j n) (hP : 2 ≤ P) (hr : RngD P n D) : RngD P n D' := by
  refine ⟨h.1, fun r c hrn hc => ?_⟩
  by_cases e : r = i
  · subst e; rw [h.2.2 c hc]; exact emod_rng hP _
  · rw [h.2.1 r c hrn hc (.inl e)]; exact hr.2 r c hrn hc
theorem AddIn.sameC {P : Int} {n i j : Nat} {D D' : List Int} (h : AddIn P n D D' i j n) (hi : i < n) (hj : j < i) : SameC P n D D' := fun a b k ha hb hk => by
  have other : ∀ r, r < n → r ≠ i → Eqv P b (mf n (fun t => D.getD t 0) r) (mf n (fun t => D'.getD t 0) r) := fun r hr e => .of_eq fun c hc => (h.2.1 r c hr (by omega) (.inl e)).symm
  have row : Eqv P b (fun c => mf n (fun t => D.getD t 0) i c + mf n (fun t => D.getD t 0) j c) (mf n (fun t => D'.getD t 0) i) := fun c hc => by
    have := h.2.2 c (show c < n by omega)
    show P ∣ D.getD (i * n + c) 0 + D.getD (j * n + c) 0 - D'.getD (i * n + c) 0
    rw [this]
    have := emod_dvd P (D.getD (i * n + c) 0 + D.getD (j * n + c) 0)
    rw [← Int.dvd_neg, Int.neg_sub] at this
    exact this
  refine hk.same ⟨fun r hr => ?_, fun r hr => ?_⟩
  · by_cases e : r = i
    · subst e
      refine .eqv (u := fun c => mf n (fun t => D.getD t 0) r c + 1 * mf n (fun t => D.getD t 0) j c) (.add 1 j (by omega) (.row hr)) ?_
      simpa using row
    · exact .eqv (.row hr) (other r (by omega) e)
  · by_cases e : r = i
    · subst e
      refine .eqv (u := fun c => mf n (fun t => D'.getD t 0) r c + (-1) * mf n (fun t => D'.getD t 0) j c) (.add (-1) j (by omega) (.row hr)) fun c hc => ?_
      have a : P ∣ mf n (fun t => D.getD t 0) r c + mf n (fun t => D.getD t 0) j c - mf n (fun t => D'.getD t 0) r c := row c hc
      have b : P ∣ mf n (fun t => D.getD t 0) j c - mf n (fun t => D'.getD t 0) j c := other j (by omega) (by omega) c hc
      have := Int.dvd_sub b a
      show P ∣ mf n (fun t => D'.getD t 0) r c + (-1) * mf n (fun t => D'.getD t 0) j c - mf n (fun t => D.getD t 0) r c
      refine cast (congrArg (P ∣ ·) ?_) this
      omega
    · exact .eqv (.row hr) (other r (by omega) e).symm
/-- in column i the first k places are done -/
def ColIn (P : Int) (n : Nat) (D0 D' : List Int) (i j k : Nat) : Prop :=
  D'.length = n * n ∧ (∀ r c, r < n → c < n → (c ≠ i ∨ k ≤ r) → D'.getD (r * n + c) 0 = D0.getD (r * n + c) 0) ∧
    ∀ r, r < k → D'.getD (r * n + i) 0 = (D0.getD (r * n + i) 0 + D0.getD (r * n + j) 0) % P
theorem ColIn.start {P : Int} {n : Nat} {D0 : List Int} {i j : Nat} (h : D0.length = n * n) : ColIn P n D0 D0 i j 0 := ⟨h, fun _ _ _ _ _ => rfl, fun _ h => absurd h (Nat.not_lt_zero _)⟩
theorem ColIn.step {P : Int} {n : Nat} {D0 D' : List Int} {i j k : Nat} (h : ColIn P n D0 D' i j k) (hi : i < n) (hj : j < i) (hk : k < n) : ColIn P n D0 (D'.set (k * n + i) ((D'.getD (k * n + i) 0 + D'.getD (k * n + j) 0) % P)) i j (k + 1) := by
  obtain ⟨h1, h2, h3⟩ := h
  have hset : ∀ t x, (D'.set (k * n + i) x).getD t 0 = if t = k * n + i then x else D'.getD t 0 := fun t x => by
    have hb : k * n + i < D'.length := by rw [h1]; exact flat_lt hk hi
    by_cases e : t = k * n + i
    · subst e; simp [List.getD_eq_getElem?_getD, hb]
    · rw [if_neg e]; simp [List.getD_eq_getElem?_getD, List.getElem?_set, show ¬ k * n + i = t from fun c => e c.symm]
  refine ⟨by rw [List.length_set, h1], fun r c hr hc ho => ?_, fun r hr => ?_⟩
  · rw [hset, if_neg fun e => by have := flat_inj2 hc hi e; omega]
    exact h2 r c hr hc (by omega)
  · rw [hset]
    by_cases e : r = k
    · subst e
      rw [if_pos rfl, h2 r i hk hi (Or.inr (Nat.le_refl _)), h2 r j hk (by omega) (Or.inl (by omega))]
    · rw [if_neg fun e2 => by have := flat_inj2 (by omega) hi e2; omega]
      exact h3 r (by omega)
theorem ColIn.rng {P : Int} {n i j : Nat} {D D' : List Int} (h : ColIn P n D D' i j n) (hP : 2 ≤ P) (hr : RngD P n D) : RngD P n D' := by
  refine ⟨h.1, fun r c hrn hc => ?_⟩
  by_cases e : c = i
  · subst e; rw [h.2.2 r hrn]; exact emod_rng hP _
  · rw [h.2.1 r c hrn hc (.inl e)]; exact hr.2 r c hrn hc
/-- the identity with a one at (j, i) -/
def elemU (j i k l : Nat) : Int := if k = l then 1 else if k = j ∧ l = i then 1 else 0
theorem elemU_indep (P : Int) {j i b : Nat} (hji : j < i) : Indep P b b (elemU j i) := indep_up (fun k _ => ⟨1, by unfold elemU; simp⟩) fun k l hl _ => by
  unfold elemU
  rw [if_neg (by omega), if_neg (by omega)]
theorem pr_elem {A : Nat → Nat → Int} {j i b r l : Nat} (hji : j < i) (hl : l < b) (hj : j < b) : pr b A (elemU j i) r l = A r l + if l = i then A r j else 0 := by
  have a : ∀ k, A r k * elemU j i k l = (1 * if l = k then 1 else 0) * A r k + (((if l = i then 1 else 0) * if j = k then 1 else 0) * A r k) := fun k => by
    unfold elemU
    by_cases h1 : k = l
    · subst h1
      by_cases h2 : j = k
      · have h3 : ¬ k = i := by omega
        simp [h3]
      · simp [h2]
    · have h1' : ¬ l = k := fun e => h1 e.symm
      by_cases h2 : k = j
      · subst h2
        by_cases h3 : l = i
        · subst h3; simp [h1, h1']
        · simp [h1, h1', h3]
      · have h2' : ¬ j = k := fun e => h2 e.symm
        simp [h1, h1', h2, h2']
  unfold pr
  rw [sm_congr fun k _ => a k, sm_add, sm_one b l hl 1 (fun k => A r k), sm_one b j hj _ (fun k => A r k)]
  split <;> simp
theorem ColIn.sameC {P : Int} {n i j : Nat} {D D' : List Int} (hp : primeOk P = true) (h : ColIn P n D D' i j n) (hr : RngD P n D) (hi : i < n) (hj : j < i) : SameC P n D D' := fun a b k ha hb hk => by
  by_cases hbi : b ≤ i
  · exact hk.congr fun r c hr hc => h.2.1 r c (by omega) (by omega) (.inl (by omega))
  · have hm := hk.mul hp (elemU_indep P hj (b := b))
    refine hm.congr fun r c hrr hc => ?_
    rw [pr_elem hj hc (by omega)]
    unfold mf
    by_cases e : c = i
    · subst e
      rw [if_pos rfl]
      exact h.2.2 r (by omega)
    · rw [if_neg e, Int.add_zero, Int.emod_eq_of_lt (hr.2 r c (by omega) (by omega)).1 (hr.2 r c (by omega) (by omega)).2]
      exact h.2.1 r c (by omega) (by omega) (.inl e)

end Go.Proofs.Ytklpaannmdbmiaa
