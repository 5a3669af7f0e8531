/-
  The step of the reference's reduction, as plain law.
  l7At: the number at a place of a matrix.
  For a region that draws its order, loads from the boxes of arguments and calls what makes memory: what is kept from world to world. And facts on numbers.
  More on a region that draws its order and makes a box somewhere in it: where the box lies when it is made first, and what a write into it leaves.
  append on an owned slice, once more: the block of what comes back is the old one, or new.
  l1Ints, l7Copy, l7Inverse, l7Top.
-/
import Derived.Test.YtoodgbflaaabmaaJ3
import Derived.Deep.RegionHeld3
import Derived.Deep.DeepCutAuto
import Derived.Test.YtoodgbflaaabmaaJ2
namespace Go.Proofs.Ytoodgbflaaabmaa
set_option linter.all false

/-- what holds when the first j columns are done, with n pivots q -/
structure L7I (P : Int) (C R : Nat) (M0 M : Nat → Nat → Int) (q : Nat → Nat) (n j : Nat) : Prop where
  le : n ≤ R
  rng : ∀ i c, i < R → c < C → 0 ≤ M i c ∧ M i c < P
  lt : ∀ k, k < n → q k < j
  asc : ∀ i k, i < k → k < n → q i < q k
  unit : ∀ i k, i < R → k < n → M i (q k) = if i = k then 1 else 0
  lead : ∀ i c, i < n → c < q i → M i c = 0
  zero : ∀ i c, n ≤ i → i < R → c < j → M i c = 0
  same : SameSp P C R M0 R M

theorem L7I.start {P : Int} {C R : Nat} {M : Nat → Nat → Int} {q : Nat → Nat} (h : ∀ i c, i < R → c < C → 0 ≤ M i c ∧ M i c < P) : L7I P C R M M q 0 0 :=
  ⟨Nat.zero_le _, h, fun k hk => absurd hk (Nat.not_lt_zero _), fun i k _ hk => absurd hk (Nat.not_lt_zero _), fun i k _ hk => absurd hk (Nat.not_lt_zero _), fun i c hi => absurd hi (Nat.not_lt_zero _), fun i c _ _ hc => absurd hc (Nat.not_lt_zero _), .refl⟩

/-- no number in this column from row n on -/
theorem L7I.skip {P : Int} {C R : Nat} {M0 M : Nat → Nat → Int} {q : Nat → Nat} {n j : Nat} (h : L7I P C R M0 M q n j) (h0 : ∀ i, n ≤ i → i < R → M i j = 0) : L7I P C R M0 M q n (j + 1) :=
  ⟨h.le, h.rng, fun k hk => by have := h.lt k hk; omega, h.asc, h.unit, h.lead, fun i c h1 h2 h3 => by
    by_cases e : c = j
    · subst e; exact h0 i h1 h2
    · exact h.zero i c h1 h2 (by omega), h.same⟩

/-- rows a and n in each other's place -/
def swM (a n : Nat) (M : Nat → Nat → Int) (i c : Nat) : Int := if i = a then M n c else if i = n then M a c else M i c
/-- row n, times v -/
def scM (P v : Int) (n : Nat) (M : Nat → Nat → Int) (i c : Nat) : Int := if i = n then (M n c * v) % P else M i c
/-- every other row less its multiple of row n -/
def elM (P : Int) (n j : Nat) (M : Nat → Nat → Int) (i c : Nat) : Int := if i = n then M n c else (M i c + (P - M i j) * M n c) % P

theorem swM_same {P : Int} {C R a n : Nat} (ha : a < R) (hn : n < R) (M : Nat → Nat → Int) : SameSp P C R M R (swM a n M) := by
  refine SameSp.perm (fun i => if i = a then n else if i = n then a else i) (fun i => if i = a then n else if i = n then a else i) (fun i hi => ?_) (fun i hi => ?_)
  · by_cases e : i = a
    · subst e
      simp only [if_true]
      refine ⟨hn, .of_eq fun j _ => ?_⟩
      unfold swM
      by_cases e2 : n = i
      · subst e2; simp
      · simp [e2]
    · by_cases e2 : i = n
      · subst e2
        simp only [e, if_false, if_true]
        exact ⟨ha, .of_eq fun j _ => by unfold swM; simp⟩
      · simp only [e, e2, if_false]
        exact ⟨hi, .of_eq fun j _ => by unfold swM; simp [e, e2]⟩
  · by_cases e : i = a
    · subst e
      simp only [if_true]
      exact ⟨hn, .of_eq fun j _ => by unfold swM; simp⟩
    · by_cases e2 : i = n
      · subst e2
        simp only [e, if_false, if_true]
        exact ⟨ha, .of_eq fun j _ => by unfold swM; simp [e]⟩
      · simp only [e, e2, if_false]
        exact ⟨hi, .of_eq fun j _ => by unfold swM; simp [e, e2]⟩

theorem L7I.step {P v : Int} {C R : Nat} {M0 M : Nat → Nat → Int} {q : Nat → Nat} {n j a : Nat} (hP : 2 ≤ P) (h : L7I P C R M0 M q n j) (hj : j < C) (ha1 : n ≤ a) (ha2 : a < R) (hv : M a j * v % P = 1) :
    L7I P C R M0 (elM P n j (scM P v n (swM a n M))) (fun k => if k < n then q k else j) (n + 1) (j + 1) := by
  have hn : n < R := by omega
  obtain ⟨M1, hM1⟩ : ∃ M1, M1 = swM a n M := ⟨_, rfl⟩
  have r1 : ∀ i c, i < R → c < C → 0 ≤ M1 i c ∧ M1 i c < P := fun i c hi hc => by
    rw [hM1]; unfold swM
    split
    · exact h.rng n c hn hc
    · split
      · exact h.rng a c ha2 hc
      · exact h.rng i c hi hc
  have u1 : ∀ i k, i < R → k < n → M1 i (q k) = if i = k then 1 else 0 := fun i k hi hk => by
    rw [hM1]; unfold swM
    have e1 := h.unit a k ha2 hk
    have e2 := h.unit n k hn hk
    rw [if_neg (by omega)] at e1 e2
    split
    · rw [e2, if_neg (by omega)]
    · split
      · rw [e1, if_neg (by omega)]
      · exact h.unit i k hi hk
  have z1 : ∀ i c, n ≤ i → i < R → c < j → M1 i c = 0 := fun i c h1 h2 h3 => by
    rw [hM1]; unfold swM
    split
    · exact h.zero n c (Nat.le_refl _) hn h3
    · split
      · exact h.zero a c ha1 ha2 h3
      · exact h.zero i c h1 h2 h3
  have l1 : ∀ i c, i < n → c < q i → M1 i c = 0 := fun i c h1 h2 => by
    rw [hM1]; unfold swM
    rw [if_neg (by omega), if_neg (by omega)]
    exact h.lead i c h1 h2
  have v1 : M1 n j * v % P = 1 := by
    have : M1 n j = M a j := by
      rw [hM1]; unfold swM
      by_cases e : n = a
      · subst e; simp
      · simp [e]
    rw [this, hv]
  have s1 : SameSp P C R M0 R M1 := h.same.trans (by rw [hM1]; exact swM_same ha2 hn M)
  rw [← hM1]
  clear hM1
  obtain ⟨M2, hM2⟩ : ∃ M2, M2 = scM P v n M1 := ⟨_, rfl⟩
  have e2 : ∀ i, i ≠ n → M2 i = M1 i := fun i hi => by funext c; rw [hM2]; simp [scM, hi]
  have n2 : ∀ c, M2 n c = (M1 n c * v) % P := fun c => by rw [hM2]; simp [scM]
  have r2 : ∀ i c, i < R → c < C → 0 ≤ M2 i c ∧ M2 i c < P := fun i c hi hc => by
    by_cases e : i = n
    · subst e; rw [n2]; exact ⟨Int.emod_nonneg _ (by omega), Int.emod_lt_of_pos _ (by omega)⟩
    · rw [e2 i e]; exact r1 i c hi hc
  have u2 : ∀ i k, i < R → k < n → M2 i (q k) = if i = k then 1 else 0 := fun i k hi hk => by
    by_cases e : i = n
    · subst e; rw [n2, u1 i k hi hk, if_neg (by omega), Int.zero_mul]; rfl
    · rw [e2 i e]; exact u1 i k hi hk
  have z2 : ∀ i c, n ≤ i → i < R → c < j → M2 i c = 0 := fun i c h1 h2 h3 => by
    by_cases e : i = n
    · subst e; rw [n2, z1 i c h1 h2 h3, Int.zero_mul]; rfl
    · rw [e2 i e]; exact z1 i c h1 h2 h3
  have l2 : ∀ i c, i < n → c < q i → M2 i c = 0 := fun i c h1 h2 => by rw [e2 i (by omega)]; exact l1 i c h1 h2
  have v2 : M2 n j = 1 := by rw [n2, v1]
  have s2 : SameSp P C R M0 R M2 := by
    refine s1.trans (SameSp.scale n hn v (M1 n j) ?_ ?_ fun i _ hi => by rw [e2 i hi]; exact .refl _ _ _)
    · have := Int.dvd_self_sub_emod (x := M1 n j * v) (m := P)
      rw [v1] at this
      rwa [Int.mul_comm] at this
    · intro c _
      rw [n2, Int.mul_comm]
      exact Eqv.emod (p := P) (C := c + 1) (fun c => v * M1 n c) c (Nat.lt_succ_self _)
  rw [← hM2]
  clear hM2
  obtain ⟨M3, hM3⟩ : ∃ M3, M3 = elM P n j M2 := ⟨_, rfl⟩
  have n3 : ∀ c, M3 n c = M2 n c := fun c => by rw [hM3]; simp [elM]
  have e3 : ∀ i c, i ≠ n → M3 i c = (M2 i c + (P - M2 i j) * M2 n c) % P := fun i c hi => by rw [hM3]; simp [elM, hi]
  have u3 : ∀ i k, i < R → k < n → M3 i (q k) = if i = k then 1 else 0 := fun i k hi hk => by
    by_cases e : i = n
    · subst e; rw [n3]; exact u2 i k hi hk
    · rw [e3 i _ e, u2 i k hi hk, u2 n k hn hk, if_neg (show ¬ n = k by omega), Int.mul_zero, Int.add_zero]
      by_cases e4 : i = k
      · rw [if_pos e4]; exact Int.emod_eq_of_lt (by omega) (by omega)
      · rw [if_neg e4]; rfl
  have c3 : ∀ i, i < R → M3 i j = if i = n then 1 else 0 := fun i hi => by
    by_cases e : i = n
    · subst e; rw [n3, v2, if_pos rfl]
    · rw [e3 i _ e, v2, Int.mul_one, show M2 i j + (P - M2 i j) = P by omega, Int.emod_self, if_neg e]
  have z3 : ∀ i c, n ≤ i → i < R → c < j → M3 i c = 0 := fun i c h1 h2 h3 => by
    by_cases e : i = n
    · subst e; rw [n3]; exact z2 i c h1 h2 h3
    · rw [e3 i c e, z2 i c h1 h2 h3, z2 n c (Nat.le_refl _) hn h3, Int.mul_zero]; rfl
  rw [← hM3]
  refine ⟨hn, fun i c hi hc => ?_, fun k hk => ?_, fun i k hik hk => ?_, fun i k hi hk => ?_, fun i c hi hc => ?_, fun i c h1 h2 h3 => ?_, s2.trans ?_⟩
  · by_cases e : i = n
    · subst e; rw [n3]; exact r2 i c hi hc
    · rw [e3 i c e]; exact ⟨Int.emod_nonneg _ (by omega), Int.emod_lt_of_pos _ (by omega)⟩
  · by_cases e : k < n
    · simp only [e, if_true]; have := h.lt k e; omega
    · simp only [e, if_false]; omega
  · by_cases e : k < n
    · simp only [e, if_true, show i < n by omega]; exact h.asc i k hik e
    · simp only [e, if_false, show i < n by omega, if_true]; exact h.lt i (by omega)
  · by_cases e : k < n
    · simp only [e, if_true]; exact u3 i k hi e
    · simp only [e, if_false]
      obtain rfl : k = n := by omega
      exact c3 i hi
  · by_cases e : i < n
    · simp only [e, if_true] at hc
      have := h.lt i e
      rw [e3 i c (by omega), l2 i c e hc, z2 n c (Nat.le_refl _) hn (by omega), Int.mul_zero]; rfl
    · simp only [e, if_false] at hc
      exact z3 i c (by omega) (by omega) hc
  · by_cases e : c = j
    · subst e; rw [c3 i h2, if_neg (by omega)]
    · exact z3 i c (by omega) h2 (by omega)
  · refine SameSp.elim n hn (fun i => P - M2 i j) (.of_eq fun c _ => n3 c) fun i hi hne => ?_
    intro c _
    rw [e3 i c hne]
    exact Eqv.emod (p := P) (C := c + 1) (fun c => M2 i c + (P - M2 i j) * M2 n c) c (Nat.lt_succ_self _)

/-- all columns are done, or all rows have a pivot -/
theorem L7I.done {P : Int} {C R : Nat} {M0 M : Nat → Nat → Int} {q : Nat → Nat} {n j : Nat} (h : L7I P C R M0 M q n j) (hj : j ≤ C) (hd : j = C ∨ n = R) :
    Red P C n M q ∧ (∀ i c, n ≤ i → i < R → c < C → M i c = 0) ∧ SameSp P C R M0 n M := by
  have hz : ∀ i c, n ≤ i → i < R → c < C → M i c = 0 := fun i c h1 h2 h3 => h.zero i c h1 h2 (by omega)
  refine ⟨⟨fun i hi => by have := h.lt i hi; omega, fun i k hi hk => h.unit i k (by have := h.le; omega) hk, h.lead⟩, hz, h.same.trans ⟨fun i hi => ?_, fun i hi => .row (by have := h.le; omega)⟩⟩
  by_cases e : i < n
  · exact .row e
  · exact Sp.zero.eqv (.of_eq fun c hc => (hz i c (by omega) hi hc).symm)

end Go.Proofs.Ytoodgbflaaabmaa

namespace Go.Proofs.Ytoodgbflaaabmaa
set_option linter.all false
open Go.RowKit

set_option maxRecDepth 100000 in
set_option maxHeartbeats 1000000 in
theorem l7At_any (P R : Int) (C i j : Nat) (d : Value) (D : List Int) (w : World) (h : Ints w d D) (hC : i * C + j < D.length) (hD : D.length ≤ 1000000) :
    Calls Try.prog 90 #[.agg #[.int .i64 P, .int .i64 R, .int .i64 (C : Int), d], .int .i64 (i : Int), .int .i64 (j : Int)] w fun e w' =>
      e = .returned (.int .i64 (D.getD (i * C + j) 0)) ∧ Below w.heap.size w w' := by
  obtain ⟨q, capu, rfl, ⟨hu1, hu2⟩, huc⟩ := h
  unfold maxLen at hu2
  obtain ⟨b, off, rfl, hc⟩ := huc (by omega)
  have c1 : w.cell? ⟨b, off + (i * C + j), none⟩ = some (.int .i64 (D.getD (i * C + j) 0)) := by rw [hc _ hC, iv]
  have hb := World.block_lt_of_cell? _ _ c1
  obtain ⟨z, hz⟩ : ∃ z, z = D.getD (i * C + j) 0 := ⟨_, rfl⟩
  rw [← hz] at c1 ⊢
  clear huc hc hz
  go_enter Try.func90, Try.ntmps90
  go_wp2_with fail
  go_ret
  exact ⟨rfl, below_alloc _ _⟩

end Go.Proofs.Ytoodgbflaaabmaa

namespace Go.Proofs.Ytoodgbflaaabmaa
set_option linter.all false
open Go.RowKit

theorem cell_below {w w' : World} {a : Addr} {v : Value} (hb : Below w.heap.size w w') (h : w.cell? a = some v) : w'.cell? a = some v := by
  rw [hb.cell (World.block_lt_of_cell? _ _ h)]; exact h
theorem held_ints {c : Prop} {wr W : World} {v : Value} {xs : List Int} (h : Ints wr v xs) (hS : c ∧ Below wr.heap.size wr W) : Ints W v xs := h.below hS.2
theorem held_below {c : Prop} {wr W : World} (hS : c ∧ Below wr.heap.size wr W) : Below wr.heap.size wr W := hS.2
theorem keep4 {wr W W' : World} {a0 a1 a2 a3 : Addr} {v0 v1 v2 v3 : Value} (hb : Below W.heap.size W W')
    (h : (W.cell? a0 = some v0 ∧ W.cell? a1 = some v1 ∧ W.cell? a2 = some v2 ∧ W.cell? a3 = some v3) ∧ Below wr.heap.size wr W) :
    (W'.cell? a0 = some v0 ∧ W'.cell? a1 = some v1 ∧ W'.cell? a2 = some v2 ∧ W'.cell? a3 = some v3) ∧ Below wr.heap.size wr W' :=
  ⟨⟨cell_below hb h.1.1, cell_below hb h.1.2.1, cell_below hb h.1.2.2.1, cell_below hb h.1.2.2.2⟩, below_trans h.2 hb⟩
theorem keep8 {wr W W' : World} {a0 a1 a2 a3 a4 a5 a6 a7 : Addr} {v0 v1 v2 v3 v4 v5 v6 v7 : Value} (hb : Below W.heap.size W W')
    (h : (W.cell? a0 = some v0 ∧ W.cell? a1 = some v1 ∧ W.cell? a2 = some v2 ∧ W.cell? a3 = some v3 ∧ W.cell? a4 = some v4 ∧ W.cell? a5 = some v5 ∧ W.cell? a6 = some v6 ∧ W.cell? a7 = some v7) ∧ Below wr.heap.size wr W) :
    (W'.cell? a0 = some v0 ∧ W'.cell? a1 = some v1 ∧ W'.cell? a2 = some v2 ∧ W'.cell? a3 = some v3 ∧ W'.cell? a4 = some v4 ∧ W'.cell? a5 = some v5 ∧ W'.cell? a6 = some v6 ∧ W'.cell? a7 = some v7) ∧ Below wr.heap.size wr W' :=
  ⟨⟨cell_below hb h.1.1, cell_below hb h.1.2.1, cell_below hb h.1.2.2.1, cell_below hb h.1.2.2.2.1, cell_below hb h.1.2.2.2.2.1, cell_below hb h.1.2.2.2.2.2.1, cell_below hb h.1.2.2.2.2.2.2.1, cell_below hb h.1.2.2.2.2.2.2.2⟩, below_trans h.2 hb⟩

/-- numbers of a matrix that is right, at a place or behind the end -/
theorem getD_range {D : List Int} {P : Int} (h : ∀ x ∈ D, 0 ≤ x ∧ x < P) (hP : 0 < P) (j : Nat) : 0 ≤ D.getD j 0 ∧ D.getD j 0 < P := by
  by_cases hj : j < D.length
  · exact h _ (getD_mem hj)
  · simp [List.getD_eq_getElem?_getD, show D[j]? = none by simp; omega, hP]
theorem mul_range {x y a b : Int} (h1 : 0 ≤ x) (h2 : x ≤ a) (h3 : 0 ≤ y) (h4 : y ≤ b) : 0 ≤ x * y ∧ x * y ≤ a * b :=
  ⟨Int.mul_nonneg h1 h3, Int.mul_le_mul h2 h4 h3 (by omega)⟩

end Go.Proofs.Ytoodgbflaaabmaa

namespace Go.Proofs.Ytoodgbflaaabmaa
set_option linter.all false
open Go.RowKit

theorem alloc_drew_top (w : World) (o : Obj) : (w.alloc o).drew.heap[w.heap.size]? = some o := heap_alloc_top w o
theorem set4_all {w : World} {b : Nat} {x0 x1 x2 x3 : Value} {T : TypeId} (h : w.heap[b]? = some (.cells #[x0, x1, x2, x3] T (0, 0))) (y0 y1 y2 y3 : Value) :
    ((((w.setCell ⟨b, 0, none⟩ y0).setCell ⟨b, 1, none⟩ y1).setCell ⟨b, 2, none⟩ y2).setCell ⟨b, 3, none⟩ y3).heap[b]? = some (.cells #[y0, y1, y2, y3] T (0, 0)) := by
  have e := heap_setCell_at (heap_setCell_at (heap_setCell_at (heap_setCell_at h 0 y0) 1 y1) 2 y2) 3 y3
  simpa using e

/-- a pointer to a box that was made after wr, with the matrix M in it, whose numbers lie in blocks made after wr -/
def CutBox (T TM : TypeId) (wr wc : World) (M : Mx) (s : Value) : Prop :=
  ∃ q p k lo hi, s = .pointer (some ⟨q, 0, none⟩) ∧ wr.heap.size ≤ q ∧ wc.heap[q]? = some (.cells #[.int .i64 M.P, .int .i64 M.R, .int .i64 M.C, .slice p M.D.length k] TM) ∧
    OwnI T wc lo hi (.slice p M.D.length k) M.D ∧ (q < lo ∨ hi ≤ q) ∧ wr.heap.size ≤ lo ∧ hi ≤ wc.heap.size ∧ q < wc.heap.size ∧ Below wr.heap.size wr wc
theorem cutBox_alloc {T TM : TypeId} {wr w : World} {M : Mx} {p : Option Addr} {k lo : Nat} (hB : Below wr.heap.size wr w)
    (ho : OwnI T w lo w.heap.size (.slice p M.D.length k) M.D) (hlo : wr.heap.size ≤ lo) :
    CutBox T TM wr (w.alloc (.cells #[.int .i64 M.P, .int .i64 M.R, .int .i64 M.C, .slice p M.D.length k] TM)) M (.pointer (some ⟨w.heap.size, 0, none⟩)) :=
  ⟨_, _, _, _, _, rfl, hB.size, heap_alloc_top _ _, OwnI.below ho (below_alloc _ _), Or.inr (Nat.le_refl _), hlo, by simp, by simp, hB.alloc hB.size _⟩
theorem cutBox_set {T TM : TypeId} {wr w : World} {M : Mx} {p : Option Addr} {k lo q : Nat} {x0 x1 x2 x3 : Value} (hB : Below wr.heap.size wr w)
    (hz : w.heap[q]? = some (.cells #[x0, x1, x2, x3] TM)) (ho : OwnI T w lo w.heap.size (.slice p M.D.length k) M.D) (hlo : wr.heap.size ≤ lo) (hq : q < lo) (hr : wr.heap.size ≤ q) :
    CutBox T TM wr ((((w.setCell ⟨q, 0, none⟩ (.int .i64 M.P)).setCell ⟨q, 1, none⟩ (.int .i64 M.R)).setCell ⟨q, 2, none⟩ (.int .i64 M.C)).setCell ⟨q, 3, none⟩ (.slice p M.D.length k)) M (.pointer (some ⟨q, 0, none⟩)) :=
  ⟨_, _, _, _, _, rfl, hr, set4_all hz _ _ _ _, own_set4 ho (Or.inl hq) _ _ _ _, Or.inl hq, hlo, by simp, by have := blk_lt hz; simpa using this, below_set4 hB hr _ _ _ _⟩

end Go.Proofs.Ytoodgbflaaabmaa

namespace Go.Proofs.Ytoodgbflaaabmaa
set_option linter.all false
open Go.RowKit

theorem run_append_where {P : Program} (w : World) (t ty e : TypeId) (i : TypeInfo) (z : Value) (bytes : Nat) (ht : P.underlying t = some (.slice e)) (hi : P.info? e = some i) (hz : i.zero = some z)
    (hsize : i.size = 1) (hby : i.bytes = bytes) (hzs : z.cells.size = 1)
    (lo hi' : Nat) (v : Value) (n : Nat) (f : Nat → Value) (hown : OwnF w lo hi' e v n f)
    (u : Value) (m : Nat) (g : Nat → Value) (hx : Rd w u m g) (h1 : ∀ j, j < m → (g j).oneCell' = true) (h63 : n + m ≤ maxLen) (hbytes : (n + m) * bytes ≤ 140737488355328) {v' : Value} {w' : World}
    (hr : (Builtin.append_ #[t, t] ty #[v, u]).run P w = .ok v' w') : ∀ b, v'.ownBlock = some b → v.ownBlock = some b ∨ w.heap.size ≤ b := by
  obtain ⟨q, c, rfl, ⟨hmc, hcm⟩, hxc⟩ := hx
  have hsm : n + m ≤ 9223372036854775807 := by unfold maxLen at h63; omega
  by_cases hm : m = 0
  · subst hm
    obtain ⟨p, cap, rfl, hnc, _, _⟩ := hown.shape
    rw [run_append_none w t ty e i ht hi p q n cap c hnc] at hr
    injection hr with e1 e2
    subst e1
    exact fun b hb => .inl hb
  · obtain ⟨b, off, rfl, hc⟩ := hxc (by omega)
    have hnews : ∀ (j : Nat) (v : Value), ((List.range m).map g)[j]? = some v → w.cell? ((⟨b, off, none⟩ : Addr).add j) = some v := fun j x hx => by
      have hj : j < m := by
        rcases Nat.lt_or_ge j m with h | h
        · exact h
        · rw [List.getElem?_eq_none (by simpa using h)] at hx; cases hx
      simp [hj] at hx
      subst hx
      have hadd : (⟨b, off, none⟩ : Addr).add j = ⟨b, off + j, none⟩ := by unfold Addr.add; split <;> simp_all
      rw [hadd]
      exact hc j hj
    obtain ⟨xs, ho, hf⟩ := hown
    rcases ho.1.2 with ⟨rfl, rfl⟩ | ⟨gg, cap, cur, rfl, hbg, hg, hnc, hcm2, hcs, htake⟩
    · have hr2 := run_append_nil (P := P) w t ty e i z ht hi hz ⟨b, off, none⟩ m c ((List.range m).map g) (by simp [hsize]) hnews (by omega) (by omega) (by rw [hby]; simp only [Nat.zero_add] at hbytes; omega)
      rw [hr2] at hr
      injection hr with e1 e2
      subst e1
      intro b hb
      simp [Value.ownBlock] at hb
      exact .inr (by omega)
    · by_cases hroom : n + m ≤ cap
      · have hr2 := run_append_room (P := P) w t ty e i ht hi gg n cap cur hg ⟨b, off, none⟩ m c ((List.range m).map g) (by simp [hsize]) hnews (fun x hx => by
            simp only [List.mem_map, List.mem_range] at hx
            obtain ⟨j, hj, rfl⟩ := hx
            exact h1 j hj) hroom (by simp [hsize, hcs]; omega)
        rw [hr2] at hr
        injection hr with e1 e2
        subst e1
        exact fun b hb => .inl hb
      · have hr2 := run_append_grow (P := P) w t ty e i z ht hi hz ⟨gg, 0, none⟩ n cap xs (by rw [ho.len, hsize]) (ho.1.cells (g := gg) rfl) ⟨b, off, none⟩ m c ((List.range m).map g) (by simp [hsize]) hnews (by omega) (by omega) (growslice_fits (by omega) (by rw [hby]; exact hbytes))
        rw [hr2] at hr
        injection hr with e1 e2
        subst e1
        intro b hb
        simp [Value.ownBlock] at hb
        exact .inr (by omega)

/-- as wpList_append_F, with one fact more: where the block lies -/
theorem wpList_append_G {P : Program} {w : World} {ops : Array Oper} {rest : List Oper} {o : Oper} {a : Act} {Q : Exit → Act → World → Prop} (hgd : o.guard = none) (s x : Operand) (t : TypeId)
    (ho : o.op = .call { callee := .builtin .append, args := #[s, x], argTypes := #[t, t] })
    (e : TypeId) (z : Value) (bytes : Nat) (ht : P.underlying t = some (.slice e)) (hinfo : (P.info? e).map (fun i => (i.zero, i.size, i.bytes)) = some (some z, 1, bytes)) (hzs : z.cells.size = 1)
    (lo hi' : Nat) (v : Value) (n : Nat) (f : Nat → Value) (hs : a.eval s = v) (hown : OwnF w lo hi' e v n f) (hlo : lo ≤ w.heap.size) (hhi : hi' ≤ w.heap.size)
    (u : Value) (m : Nat) (g : Nat → Value) (hxu : a.eval x = u) (hx : Rd w u m g) (h1 : ∀ j, j < m → (g j).oneCell' = true) (h63 : n + m ≤ maxLen) (hbytes : (n + m) * bytes ≤ 140737488355328)
    (h : ∀ v' w', OwnF w' lo w'.heap.size e v' (n + m) (fun j => if j < n then f j else g (j - n)) → w.grownBy w' v.ownBlock → (∀ b, v'.ownBlock = some b → v.ownBlock = some b ∨ w.heap.size ≤ b) → wpList P ops Q rest (a.put o.dst v') w') :
    wpList P ops Q (o :: rest) a w := by
  refine wpList_plain hgd fun K hK' => ?_
  obtain ⟨i, hi, hz, hsz, hby⟩ := info_parts hinfo
  obtain ⟨v', w', hr, h2, h3⟩ := run_append_F (P := P) w t o.type e i z bytes ht hi hz hsz hby hzs lo hi' v n f hown hlo hhi u m g hx h1 h63 hbytes
  have h4 := run_append_where (P := P) w t o.type e i z bytes ht hi hz hsz hby hzs lo hi' v n f hown u m g hx h1 h63 hbytes hr
  unfold Oper.wp
  simp [execOp, ho, resolve, invoke, builtin, hs, hxu, hr, Result.andThen]
  exact hK' _ _ (h v' w' h2 h3 h4)

theorem Frm.of_drew {lo hi : Nat} {w w' : World} (h : Frm lo hi w.drew w') : Frm lo hi w w' := ⟨h.os, h.tape, h.output, h.size, h.block⟩
theorem below_of_drew {B : Nat} {w w' : World} (h : Below B w.drew w') : Below B w w' := ⟨h.os, h.tape, h.output, h.size, h.block⟩
/-- behind an append: a list of lists whose blocks are others stays -/
theorem OwnII.grown {Ts Ti : TypeId} {w w' : World} {lo hi : Nat} {v u : Value} {rows : List (List Int)} (h : OwnII Ts Ti w lo hi v rows) (hg : w.grownBy w' u.ownBlock) (hne : ∀ b, u.ownBlock = some b → b < lo ∨ hi ≤ b) : OwnII Ts Ti w' lo hi v rows :=
  h.keep fun k h1 h2 h3 => hg.block k h3 fun e => by have := hne k e.symm; omega

end Go.Proofs.Ytoodgbflaaabmaa

namespace Go.Proofs.Ytoodgbflaaabmaa
set_option linter.all false
open Go.RowKit

set_option maxRecDepth 100000 in
set_option maxHeartbeats 400000 in
theorem l1Ints_any (v : Value) (xs : List Int) (w : World) (h : Ints w v xs) (hl : xs.length ≤ 1000000) :
    Calls Try.prog 91 #[v] w (RetI w xs) := by
  have hI := Lib.hid h
  obtain ⟨p, cap, rfl, ⟨hx1, hx2⟩, hxc⟩ := h
  have Hb1 := Lib.hid (show 0 + xs.length ≤ maxLen by unfold maxLen; omega)
  have Hb2 := Lib.hid (show (0 + xs.length) * 8 ≤ 140737488355328 by omega)
  clear hxc
  go_enter Try.func91, Try.ntmps91
  go_wp2_with (at_builtin; go_must (refine wpList_append_F rfl (.tmp 3) (.tmp 4) 24 rfl 3 (.int .i64 0) 8 Try.underlying24 info_int rfl w.heap.size (w.heap.size + 1) _ 0 (fun _ => undef) rfl (OwnF.made0 w _ _) (by simp) (by simp) _ _ _ rfl (hI.out.below (below_alloc w _)) (fun j _ => iv_one _ j) Hb1.out Hb2.out ?_; intro v' w' ho' hg'))
  go_ret
  refine ⟨_, rfl, OwnF.ints ?_, (below_alloc w _).trans (grownBy_below hg' (OwnF.made0 w 3 (fun _ => undef)).blocks (Nat.le_refl _) (by simp))⟩
  rw [Nat.zero_add] at ho'
  exact ho'.congr fun j _ => by simp

/-- the argument's box, and a block for the result, whatever it holds -/
theorem keep5 {w W W' : World} {a0 a1 a2 a3 : Addr} {v0 v1 v2 v3 : Value} {b : Nat} {T : TypeId} (hb : Below W.heap.size W W')
    (h : ((W.cell? a0 = some v0 ∧ W.cell? a1 = some v1 ∧ W.cell? a2 = some v2 ∧ W.cell? a3 = some v3) ∧ ∃ y0 y1 y2 y3, W.heap[b]? = some (.cells #[y0, y1, y2, y3] T (0, 0))) ∧ Below w.heap.size w W) :
    ((W'.cell? a0 = some v0 ∧ W'.cell? a1 = some v1 ∧ W'.cell? a2 = some v2 ∧ W'.cell? a3 = some v3) ∧ ∃ y0 y1 y2 y3, W'.heap[b]? = some (.cells #[y0, y1, y2, y3] T (0, 0))) ∧ Below w.heap.size w W' := by
  obtain ⟨⟨⟨h0, h1, h2, h3⟩, y0, y1, y2, y3, hy⟩, hB⟩ := h
  exact ⟨⟨⟨cell_below hb h0, cell_below hb h1, cell_below hb h2, cell_below hb h3⟩, y0, y1, y2, y3, blk_later hy hb⟩, hB.trans (hb.mono hB.size)⟩
theorem keep5_gen {w W W' : World} {b1 o0 o1 o2 o3 : Nat} {v0 v1 v2 v3 z0 z1 z2 z3 : Value} {b : Nat} {T : TypeId} (hh : W'.heap[b1]? = W.heap[b1]?) (hy : W'.heap[b]? = some (.cells #[z0, z1, z2, z3] T (0, 0))) (hB : Below w.heap.size w W')
    (h : W.cell? ⟨b1, o0, none⟩ = some v0 ∧ W.cell? ⟨b1, o1, none⟩ = some v1 ∧ W.cell? ⟨b1, o2, none⟩ = some v2 ∧ W.cell? ⟨b1, o3, none⟩ = some v3) :
    ((W'.cell? ⟨b1, o0, none⟩ = some v0 ∧ W'.cell? ⟨b1, o1, none⟩ = some v1 ∧ W'.cell? ⟨b1, o2, none⟩ = some v2 ∧ W'.cell? ⟨b1, o3, none⟩ = some v3) ∧ ∃ y0 y1 y2 y3, W'.heap[b]? = some (.cells #[y0, y1, y2, y3] T (0, 0))) ∧ Below w.heap.size w W' := by
  obtain ⟨h0, h1, h2, h3⟩ := h
  refine ⟨⟨⟨?_, ?_, ?_, ?_⟩, z0, z1, z2, z3, hy⟩, hB⟩
  · rw [World.cell?_of_block (w := W) hh]; exact h0
  · rw [World.cell?_of_block (w := W) hh]; exact h1
  · rw [World.cell?_of_block (w := W) hh]; exact h2
  · rw [World.cell?_of_block (w := W) hh]; exact h3
theorem keep5_set {w W : World} {b1 o0 o1 o2 o3 : Nat} {v0 v1 v2 v3 : Value} {b : Nat} {T : TypeId} (hne : b1 ≠ b) (hbw : w.heap.size ≤ b) (x0 x1 x2 x3 : Value)
    (h : ((W.cell? ⟨b1, o0, none⟩ = some v0 ∧ W.cell? ⟨b1, o1, none⟩ = some v1 ∧ W.cell? ⟨b1, o2, none⟩ = some v2 ∧ W.cell? ⟨b1, o3, none⟩ = some v3) ∧ ∃ y0 y1 y2 y3, W.heap[b]? = some (.cells #[y0, y1, y2, y3] T (0, 0))) ∧ Below w.heap.size w W) :
    ((((((W.setCell ⟨b, 0, none⟩ x0).setCell ⟨b, 1, none⟩ x1).setCell ⟨b, 2, none⟩ x2).setCell ⟨b, 3, none⟩ x3).cell? ⟨b1, o0, none⟩ = some v0 ∧ ((((W.setCell ⟨b, 0, none⟩ x0).setCell ⟨b, 1, none⟩ x1).setCell ⟨b, 2, none⟩ x2).setCell ⟨b, 3, none⟩ x3).cell? ⟨b1, o1, none⟩ = some v1 ∧
      ((((W.setCell ⟨b, 0, none⟩ x0).setCell ⟨b, 1, none⟩ x1).setCell ⟨b, 2, none⟩ x2).setCell ⟨b, 3, none⟩ x3).cell? ⟨b1, o2, none⟩ = some v2 ∧ ((((W.setCell ⟨b, 0, none⟩ x0).setCell ⟨b, 1, none⟩ x1).setCell ⟨b, 2, none⟩ x2).setCell ⟨b, 3, none⟩ x3).cell? ⟨b1, o3, none⟩ = some v3) ∧
      ∃ y0 y1 y2 y3, ((((W.setCell ⟨b, 0, none⟩ x0).setCell ⟨b, 1, none⟩ x1).setCell ⟨b, 2, none⟩ x2).setCell ⟨b, 3, none⟩ x3).heap[b]? = some (.cells #[y0, y1, y2, y3] T (0, 0))) ∧
      Below w.heap.size w ((((W.setCell ⟨b, 0, none⟩ x0).setCell ⟨b, 1, none⟩ x1).setCell ⟨b, 2, none⟩ x2).setCell ⟨b, 3, none⟩ x3) := by
  obtain ⟨⟨hc, y0, y1, y2, y3, hy⟩, hB⟩ := h
  have hh : ((((W.setCell ⟨b, 0, none⟩ x0).setCell ⟨b, 1, none⟩ x1).setCell ⟨b, 2, none⟩ x2).setCell ⟨b, 3, none⟩ x3).heap[b1]? = W.heap[b1]? := by
    rw [Below.heap_setCell _ _ _ _ (show b1 ≠ (⟨b, 3, none⟩ : Addr).block from hne), Below.heap_setCell _ _ _ _ (show b1 ≠ (⟨b, 2, none⟩ : Addr).block from hne), Below.heap_setCell _ _ _ _ (show b1 ≠ (⟨b, 1, none⟩ : Addr).block from hne), Below.heap_setCell _ _ _ _ (show b1 ≠ (⟨b, 0, none⟩ : Addr).block from hne)]
  have hy4 := set4_all hy x0 x1 x2 x3
  have hB4 := below_set4 hB hbw x0 x1 x2 x3
  exact keep5_gen hh hy4 hB4 hc
theorem s5_blk {w W : World} {a0 a1 a2 a3 : Addr} {v0 v1 v2 v3 : Value} {b : Nat} {T : TypeId}
    (h : ((W.cell? a0 = some v0 ∧ W.cell? a1 = some v1 ∧ W.cell? a2 = some v2 ∧ W.cell? a3 = some v3) ∧ ∃ y0 y1 y2 y3, W.heap[b]? = some (.cells #[y0, y1, y2, y3] T (0, 0))) ∧ Below w.heap.size w W) :
    ∃ y0 y1 y2 y3, W.heap[b]? = some (.cells #[y0, y1, y2, y3] T (0, 0)) := h.1.2

/-- the box of a matrix argument and the result's cell -/
theorem box2_start (w : World) (T T2 : TypeId) (P R C : Int) (d : Value) :
    ((w.alloc (.cells #[.int .i64 P, .int .i64 R, .int .i64 C, d] T)).alloc (.cells #[.int .i64 0, .int .i64 0, .int .i64 0, .slice none 0 0] T2)).heap[w.heap.size]? = some (.cells #[.int .i64 P, .int .i64 R, .int .i64 C, d] T (0, 0)) ∧
    ((w.alloc (.cells #[.int .i64 P, .int .i64 R, .int .i64 C, d] T)).alloc (.cells #[.int .i64 0, .int .i64 0, .int .i64 0, .slice none 0 0] T2)).heap[w.heap.size + 1]? = some (.cells #[.int .i64 0, .int .i64 0, .int .i64 0, .slice none 0 0] T2 (0, 0)) := by
  refine ⟨?_, heap_alloc_at _ _ (by simp)⟩
  rw [heap_alloc_low _ _ (by simp)]; exact heap_alloc_top _ _

set_option maxRecDepth 100000 in
set_option maxHeartbeats 1000000 in
theorem l7Copy_any (P R C : Int) (d : Value) (xs : List Int) (w : World) (h : Ints w d xs) (hl : xs.length ≤ 1000000) :
    Calls Try.prog 99 #[.agg #[.int .i64 P, .int .i64 R, .int .i64 C, d]] w (RetM w ⟨P, R, C, xs⟩) := by
  have hI := Lib.hid h
  obtain ⟨pd, kd, rfl, ⟨_, mx⟩, _⟩ := h
  unfold maxLen at mx
  obtain ⟨z1, z2⟩ := box2_start w 34 34 P R C (.slice pd xs.length kd)
  have hB0 := below_alloc2 w (.cells #[.int .i64 P, .int .i64 R, .int .i64 C, .slice pd xs.length kd] 34) (.cells #[.int .i64 0, .int .i64 0, .int .i64 0, .slice none 0 0] 34)
  have Z1 := Lib.hid z1
  have Z2 := Lib.hid z2
  have HB0 := Lib.hid hB0
  clear z1 z2 hB0
  go_enter Try.func99, Try.ntmps99
  go_wp2_with fail
  have hs0 : ((w.alloc (.cells #[.int .i64 P, .int .i64 R, .int .i64 C, .slice pd xs.length kd] 34)).alloc (.cells #[.int .i64 0, .int .i64 0, .int .i64 0, .slice none 0 0] 34)).heap.size = w.heap.size + 1 + 1 := by simp
  generalize (w.alloc (.cells #[.int .i64 P, .int .i64 R, .int .i64 C, .slice pd xs.length kd] 34)).alloc (.cells #[.int .i64 0, .int .i64 0, .int .i64 0, .slice none 0 0] 34) = w2 at *
  obtain ⟨c0, c1, c2, c3, cf, hz⟩ := blk4 Z1.out
  go_region_held3 (fun w' => ((w'.cell? ⟨w.heap.size, 0, none⟩ = some (.int .i64 P) ∧ w'.cell? ⟨w.heap.size, 1, none⟩ = some (.int .i64 R) ∧ w'.cell? ⟨w.heap.size, 2, none⟩ = some (.int .i64 C) ∧ w'.cell? ⟨w.heap.size, 3, none⟩ = some (.slice pd xs.length kd)) ∧ ∃ y0 y1 y2 y3, w'.heap[w.heap.size + 1]? = some (.cells #[y0, y1, y2, y3] 34 (0, 0))) ∧ Below w.heap.size w w')
    (first | exact ⟨⟨⟨c0, c1, c2, c3⟩, _, _, _, _, Z2.out⟩, HB0.out.drew⟩ | exact keep5 hb1 (by assumption) | exact keep5_set (by omega) (by omega) _ _ _ _ (by assumption))
    (first | (go_at_call 91; refine (l1Ints_any _ xs _ (held_ints hI.out (by assumption)) hl).mono ?_; rintro e w' ⟨u, rfl, ho, hb1⟩; obtain ⟨pu, ku, rfl, _, _⟩ := ho.shape; obtain ⟨y0, y1, y2, y3, hy⟩ := s5_blk (by assumption); obtain ⟨d0, d1, d2, d3, df, dz⟩ := blk4 (blk_later hy hb1)))
  have hds : w2.drew.heap.size = w2.heap.size := rfl
  have hbz : Below w.heap.size w w' := HB0.out.trans ((below_of_drew hb1).mono (by omega))
  have hsz := hb1.size
  have hz4 := set4_all (blk_later Z2.out (below_of_drew hb1)) (.int .i64 P) (.int .i64 R) (.int .i64 C) (.slice pu xs.length ku)
  have ho4 : OwnI 3 w' (w.heap.size + 1 + 1) w'.heap.size (.slice pu xs.length ku) xs := ho.mono (by have : w2.drew.heap.size = w2.heap.size := rfl; omega) (Nat.le_refl _)
  have Hz4 := Lib.hid hz4
  have Ho4 := Lib.hid ho4
  have Hbz := Lib.hid hbz
  clear hz4 ho4 hbz ho hb1 hy d0 d1 d2 d3 df
  obtain ⟨f0, f1, f2, f3, ff, fz⟩ := blk4 Hz4.out
  go_wp2_with fail
  refine bodyPost_ret (v := .agg #[.int .i64 P, .int .i64 R, .int .i64 C, .slice pu xs.length ku]) (by simp [results, Try.results99, go_sem, f0, f1, f2, f3, fz]) rfl ⟨_, rfl, ?_, ?_⟩
  · exact (own_set4 Ho4.out (.inl (by omega)) _ _ _ _).mono (by omega) (by simp only [size_setCell]; omega)
  · exact below_set4 Hbz.out (by omega) _ _ _ _

set_option maxRecDepth 100000 in
set_option maxHeartbeats 1000000 in
theorem l7Inverse_any (x p : Int) (w : World) (hp : primeOk p = true) (h0 : 0 < x) (h1 : x < p) :
    Calls Try.prog 100 #[.int .i64 x, .int .i64 p] w fun e w' => ∃ y : Int, e = .returned (.int .i64 y) ∧ 1 ≤ y ∧ y < p ∧ x * y % p = 1 ∧ Qt w w' := by
  obtain ⟨hp2, hp7⟩ := primeOk_range hp
  obtain ⟨k0, hk1, hk2, hk3⟩ := inv_ex hp h0 h1
  obtain ⟨k0n, rfl⟩ := Int.eq_ofNat_of_zero_le (show (0 : Int) ≤ k0 by omega)
  rw [Int.mul_comm] at hk3
  have Hk3 := Lib.hid hk3
  clear hk3 hp
  go_enter Try.func100, Try.ntmps100
  go_wp2_with fail
  go_loopg [5] (k0n - 1) (fun g s5 wr => ∃ k : Nat, 1 ≤ k ∧ k ≤ k0n ∧ g = k0n - k ∧ s5 = .int .i64 k ∧ Qt w wr)
  case atStart => exact ⟨1, Nat.le_refl _, by omega, rfl, rfl, Qt.refl _⟩
  case round =>
    obtain ⟨k, hka, hkb, rfl, rfl, hq⟩ := hrel
    have hm0 : 0 ≤ x * (k : Int) := Int.mul_nonneg (by omega) (by omega)
    have hm1 : x * (k : Int) ≤ 7 * 7 := Int.mul_le_mul (by omega) (by omega) (by omega) (by omega)
    have hp0 : ¬ p = 0 := by omega
    have e1 : Int.tmod (x * (k : Int)) p = x * (k : Int) % p := Int.tmod_eq_emod_of_nonneg hm0
    have b5 : 0 ≤ x * (k : Int) % p := Int.emod_nonneg _ (by omega)
    have b6 : x * (k : Int) % p < p := Int.emod_lt_of_pos _ (by omega)
    have hkp : (k : Int) < p := by omega
    by_cases he : x * (k : Int) % p = 1
    · have he2 : (x * (k : Int) % p == 1) = true := by simpa using he
      have He := Lib.hid he
      clear he
      go_wp2_with fail
      go_ret
      exact ⟨_, rfl, by omega, hkp, He.out, hq⟩
    · have hlt : k < k0n := by
        rcases Nat.lt_or_ge k k0n with h1 | h1
        · exact h1
        · exact absurd (by rw [show k = k0n by omega]; exact Hk3.out) he
      have he2 : (x * (k : Int) % p == 1) = false := by simpa using he
      clear he
      go_wp2_with fail
      go_roundg (k0n - (k + 1))
      case measure => omega
      case rel => exact ⟨k + 1, by omega, by omega, rfl, by go_num, hq⟩

end Go.Proofs.Ytoodgbflaaabmaa
