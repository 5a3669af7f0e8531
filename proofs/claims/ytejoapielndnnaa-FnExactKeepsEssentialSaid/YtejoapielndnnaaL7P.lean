/-
  The step of the reference's reduction, as plain law.
-/
import Derived.Test.YtejoapielndnnaaRedP
namespace Go.Proofs.Ytejoapielndnnaa
set_option linter.all false

/-- what holds when the first j columns are done, with n pivots q -/
structure L7I (P : Int) (C R : Nat) (M0 M : Nat → Nat → Int) (q : Nat → Nat) (n j : Nat) : Prop where
  le : n ≤ R
  rng : ∀ i c, i < R → c < C → 0 ≤ M i c ∧ M i c < P
  lt : ∀ k, k < n → q k < j
  asc : ∀ i k, i < k → k < n → q i < q k
  unit : ∀ i k, i < R → k < n → M i (q k) = if i = k then 1 else 0
  lead : ∀ i c, i < n → c < q i → M i c = 0
  zero : ∀ i c, n ≤ i → i < R → c < j → M i c = 0
  same : SameSp P C R M0 R M

theorem L7I.start {P : Int} {C R : Nat} {M : Nat → Nat → Int} {q : Nat → Nat} (h : ∀ i c, i < R → c < C → 0 ≤ M i c ∧ M i c < P) : L7I P C R M M q 0 0 :=
  ⟨Nat.zero_le _, h, fun k hk => absurd hk (Nat.not_lt_zero _), fun i k _ hk => absurd hk (Nat.not_lt_zero _), fun i k _ hk => absurd hk (Nat.not_lt_zero _), fun i c hi => absurd hi (Nat.not_lt_zero _), fun i c _ _ hc => absurd hc (Nat.not_lt_zero _), .refl⟩

/-- no number in this column from row n on -/
theorem L7I.skip {P : Int} {C R : Nat} {M0 M : Nat → Nat → Int} {q : Nat → Nat} {n j : Nat} (h : L7I P C R M0 M q n j) (h0 : ∀ i, n ≤ i → i < R → M i j = 0) : L7I P C R M0 M q n (j + 1) :=
  ⟨h.le, h.rng, fun k hk => by have := h.lt k hk; omega, h.asc, h.unit, h.lead, fun i c h1 h2 h3 => by
    by_cases e : c = j
    · subst e; exact h0 i h1 h2
    · exact h.zero i c h1 h2 (by omega), h.same⟩

/-- rows a and n in each other's place -/
def swM (a n : Nat) (M : Nat → Nat → Int) (i c : Nat) : Int := if i = a then M n c else if i = n then M a c else M i c
/-- row n, times v -/
def scM (P v : Int) (n : Nat) (M : Nat → Nat → Int) (i c : Nat) : Int := if i = n then (M n c * v) % P else M i c
/-- every other row less its multiple of row n -/
def elM (P : Int) (n j : Nat) (M : Nat → Nat → Int) (i c : Nat) : Int := if i = n then M n c else (M i c + (P - M i j) * M n c) % P

theorem swM_same {P : Int} {C R a n : Nat} (ha : a < R) (hn : n < R) (M : Nat → Nat → Int) : SameSp P C R M R (swM a n M) := by
  refine SameSp.perm (fun i => if i = a then n else if i = n then a else i) (fun i => if i = a then n else if i = n then a else i) (fun i hi => ?_) (fun i hi => ?_)
  · by_cases e : i = a
    · subst e
      simp only [if_true]
      refine ⟨hn, .of_eq fun j _ => ?_⟩
      unfold swM
      by_cases e2 : n = i
      · subst e2; simp
      · simp [e2]
    · by_cases e2 : i = n
      · subst e2
        simp only [e, if_false, if_true]
        exact ⟨ha, .of_eq fun j _ => by unfold swM; simp⟩
      · simp only [e, e2, if_false]
        exact ⟨hi, .of_eq fun j _ => by unfold swM; simp [e, e2]⟩
  · by_cases e : i = a
    · subst e
      simp only [if_true]
      exact ⟨hn, .of_eq fun j _ => by unfold swM; simp⟩
    · by_cases e2 : i = n
      · subst e2
        simp only [e, if_false, if_true]
        exact ⟨ha, .of_eq fun j _ => by unfold swM; simp [e]⟩
      · simp only [e, e2, if_false]
        exact ⟨hi, .of_eq fun j _ => by unfold swM; simp [e, e2]⟩

theorem L7I.step {P v : Int} {C R : Nat} {M0 M : Nat → Nat → Int} {q : Nat → Nat} {n j a : Nat} (hP : 2 ≤ P) (h : L7I P C R M0 M q n j) (hj : j < C) (ha1 : n ≤ a) (ha2 : a < R) (hv : M a j * v % P = 1) :
    L7I P C R M0 (elM P n j (scM P v n (swM a n M))) (fun k => if k < n then q k else j) (n + 1) (j + 1) := by
  have hn : n < R := by omega
  obtain ⟨M1, hM1⟩ : ∃ M1, M1 = swM a n M := ⟨_, rfl⟩
  have r1 : ∀ i c, i < R → c < C → 0 ≤ M1 i c ∧ M1 i c < P := fun i c hi hc => by
    rw [hM1]; unfold swM
    split
    · exact h.rng n c hn hc
    · split
      · exact h.rng a c ha2 hc
      · exact h.rng i c hi hc
  have u1 : ∀ i k, i < R → k < n → M1 i (q k) = if i = k then 1 else 0 := fun i k hi hk => by
    rw [hM1]; unfold swM
    have e1 := h.unit a k ha2 hk
    have e2 := h.unit n k hn hk
    rw [if_neg (by omega)] at e1 e2
    split
    · rw [e2, if_neg (by omega)]
    · split
      · rw [e1, if_neg (by omega)]
      · exact h.unit i k hi hk
  have z1 : ∀ i c, n ≤ i → i < R → c < j → M1 i c = 0 := fun i c h1 h2 h3 => by
    rw [hM1]; unfold swM
    split
    · exact h.zero n c (Nat.le_refl _) hn h3
    · split
      · exact h.zero a c ha1 ha2 h3
      · exact h.zero i c h1 h2 h3
  have l1 : ∀ i c, i < n → c < q i → M1 i c = 0 := fun i c h1 h2 => by
    rw [hM1]; unfold swM
    rw [if_neg (by omega), if_neg (by omega)]
    exact h.lead i c h1 h2
  have v1 : M1 n j * v % P = 1 := by
    have : M1 n j = M a j := by
      rw [hM1]; unfold swM
      by_cases e : n = a
      · subst e; simp
      · simp [e]
    rw [this, hv]
  have s1 : SameSp P C R M0 R M1 := h.same.trans (by rw [hM1]; exact swM_same ha2 hn M)
  rw [← hM1]
  clear hM1
  obtain ⟨M2, hM2⟩ : ∃ M2, M2 = scM P v n M1 := ⟨_, rfl⟩
  have e2 : ∀ i, i ≠ n → M2 i = M1 i := fun i hi => by funext c; rw [hM2]; simp [scM, hi]
  have n2 : ∀ c, M2 n c = (M1 n c * v) % P := fun c => by rw [hM2]; simp [scM]
  have r2 : ∀ i c, i < R → c < C → 0 ≤ M2 i c ∧ M2 i c < P := fun i c hi hc => by
    by_cases e : i = n
    · subst e; rw [n2]; exact ⟨Int.emod_nonneg _ (by omega), Int.emod_lt_of_pos _ (by omega)⟩
    · rw [e2 i e]; exact r1 i c hi hc
  have u2 : ∀ i k, i < R → k < n → M2 i (q k) = if i = k then 1 else 0 := fun i k hi hk => by
    by_cases e : i = n
    · subst e; rw [n2, u1 i k hi hk, if_neg (by omega), Int.zero_mul]; rfl
    · rw [e2 i e]; exact u1 i k hi hk
  have z2 : ∀ i c, n ≤ i → i < R → c < j → M2 i c = 0 := fun i c h1 h2 h3 => by
    by_cases e : i = n
    · subst e; rw [n2, z1 i c h1 h2 h3, Int.zero_mul]; rfl
    · rw [e2 i e]; exact z1 i c h1 h2 h3
  have l2 : ∀ i c, i < n → c < q i → M2 i c = 0 := fun i c h1 h2 => by rw [e2 i (by omega)]; exact l1 i c h1 h2
  have v2 : M2 n j = 1 := by rw [n2, v1]
  have s2 : SameSp P C R M0 R M2 := by
    refine s1.trans (SameSp.scale n hn v (M1 n j) ?_ ?_ fun i _ hi => by rw [e2 i hi]; exact .refl _ _ _)
    · have := Int.dvd_self_sub_emod (x := M1 n j * v) (m := P)
      rw [v1] at this
      rwa [Int.mul_comm] at this
    · intro c _
      rw [n2, Int.mul_comm]
      exact Eqv.emod (p := P) (C := c + 1) (fun c => v * M1 n c) c (Nat.lt_succ_self _)
  rw [← hM2]
  clear hM2
  obtain ⟨M3, hM3⟩ : ∃ M3, M3 = elM P n j M2 := ⟨_, rfl⟩
  have n3 : ∀ c, M3 n c = M2 n c := fun c => by rw [hM3]; simp [elM]
  have e3 : ∀ i c, i ≠ n → M3 i c = (M2 i c + (P - M2 i j) * M2 n c) % P := fun i c hi => by rw [hM3]; simp [elM, hi]
  have u3 : ∀ i k, i < R → k < n → M3 i (q k) = if i = k then 1 else 0 := fun i k hi hk => by
    by_cases e : i = n
    · subst e; rw [n3]; exact u2 i k hi hk
    · rw [e3 i _ e, u2 i k hi hk, u2 n k hn hk, if_neg (show ¬ n = k by omega), Int.mul_zero, Int.add_zero]
      by_cases e4 : i = k
      · rw [if_pos e4]; exact Int.emod_eq_of_lt (by omega) (by omega)
      · rw [if_neg e4]; rfl
  have c3 : ∀ i, i < R → M3 i j = if i = n then 1 else 0 := fun i hi => by
    by_cases e : i = n
    · subst e; rw [n3, v2, if_pos rfl]
    · rw [e3 i _ e, v2, Int.mul_one, show M2 i j + (P - M2 i j) = P by omega, Int.emod_self, if_neg e]
  have z3 : ∀ i c, n ≤ i → i < R → c < j → M3 i c = 0 := fun i c h1 h2 h3 => by
    by_cases e : i = n
    · subst e; rw [n3]; exact z2 i c h1 h2 h3
    · rw [e3 i c e, z2 i c h1 h2 h3, z2 n c (Nat.le_refl _) hn h3, Int.mul_zero]; rfl
  rw [← hM3]
  refine ⟨hn, fun i c hi hc => ?_, fun k hk => ?_, fun i k hik hk => ?_, fun i k hi hk => ?_, fun i c hi hc => ?_, fun i c h1 h2 h3 => ?_, s2.trans ?_⟩
  · by_cases e : i = n
    · subst e; rw [n3]; exact r2 i c hi hc
    · rw [e3 i c e]; exact ⟨Int.emod_nonneg _ (by omega), Int.emod_lt_of_pos _ (by omega)⟩
  · by_cases e : k < n
    · simp only [e, if_true]; have := h.lt k e; omega
    · simp only [e, if_false]; omega
  · by_cases e : k < n
    · simp only [e, if_true, show i < n by omega]; exact h.asc i k hik e
    · simp only [e, if_false, show i < n by omega, if_true]; exact h.lt i (by omega)
  · by_cases e : k < n
    · simp only [e, if_true]; exact u3 i k hi e
    · simp only [e, if_false]
      obtain rfl : k = n := by omega
      exact c3 i hi
  · by_cases e : i < n
    · simp only [e, if_true] at hc
      have := h.lt i e
      rw [e3 i c (by omega), l2 i c e hc, z2 n c (Nat.le_refl _) hn (by omega), Int.mul_zero]; rfl
    · simp only [e, if_false] at hc
      exact z3 i c (by omega) (by omega) hc
  · by_cases e : c = j
    · subst e; rw [c3 i h2, if_neg (by omega)]
    · exact z3 i c (by omega) h2 (by omega)
  · refine SameSp.elim n hn (fun i => P - M2 i j) (.of_eq fun c _ => n3 c) fun i hi hne => ?_
    intro c _
    rw [e3 i c hne]
    exact Eqv.emod (p := P) (C := c + 1) (fun c => M2 i c + (P - M2 i j) * M2 n c) c (Nat.lt_succ_self _)

/-- all columns are done, or all rows have a pivot -/
theorem L7I.done {P : Int} {C R : Nat} {M0 M : Nat → Nat → Int} {q : Nat → Nat} {n j : Nat} (h : L7I P C R M0 M q n j) (hj : j ≤ C) (hd : j = C ∨ n = R) :
    Red P C n M q ∧ (∀ i c, n ≤ i → i < R → c < C → M i c = 0) ∧ SameSp P C R M0 n M := by
  have hz : ∀ i c, n ≤ i → i < R → c < C → M i c = 0 := fun i c h1 h2 h3 => h.zero i c h1 h2 (by omega)
  refine ⟨⟨fun i hi => by have := h.lt i hi; omega, fun i k hi hk => h.unit i k (by have := h.le; omega) hk, h.lead⟩, hz, h.same.trans ⟨fun i hi => ?_, fun i hi => .row (by have := h.le; omega)⟩⟩
  by_cases e : i < n
  · exact .row e
  · exact Sp.zero.eqv (.of_eq fun c hc => (hz i c (by omega) hi hc).symm)

end Go.Proofs.Ytejoapielndnnaa
