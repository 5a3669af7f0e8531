/-
  The normal form of a flag, as plain law.
-/
import Derived.Test.YtapmnfakjnhlbaaFl
namespace Go.Proofs.Ytapmnfakjnhlbaa
set_option linter.all false
open Go.RowKit

/-- a row r less multiples of the first k rows of X, such that it has 0 where they begin -/
def elN (P : Int) (X : Nat → Nat → Int) (q : Nat → Nat) (r : Nat → Int) : Nat → Nat → Int
  | 0, j => r j
  | k + 1, j => (elN P X q r k j + (P - elN P X q r k (q k)) * X k j) % P
theorem elN_congr {P : Int} {n : Nat} {X X' : Nat → Nat → Int} {q q' : Nat → Nat} {r : Nat → Int} : ∀ k, (∀ l, l < k → q l < n) → (∀ l, l < k → q l = q' l) → (∀ l j, l < k → j < n → X l j = X' l j) → ∀ j, j < n → elN P X q r k j = elN P X' q' r k j
  | 0, _, _, _, j, _ => rfl
  | k + 1, h0, h1, h2, j, hj => by
    have ih := elN_congr (P := P) (r := r) k (fun l hl => h0 l (by omega)) (fun l hl => h1 l (by omega)) (fun l j hl hj => h2 l j (by omega) hj)
    unfold elN
    rw [ih j hj, ih (q k) (h0 k (by omega)), h1 k (by omega), h2 k j (by omega) hj]
theorem elN_rng {P : Int} {n : Nat} {X : Nat → Nat → Int} {q : Nat → Nat} {r : Nat → Int} (hP : 2 ≤ P) (hr : ∀ j, j < n → 0 ≤ r j ∧ r j < P) : ∀ k j, j < n → 0 ≤ elN P X q r k j ∧ elN P X q r k j < P
  | 0, j, hj => hr j hj
  | k + 1, j, _ => ⟨Int.emod_nonneg _ (by omega), Int.emod_lt_of_pos _ (by omega)⟩

/-- row k of the normal form -/
def NfRow (P : Int) (n : Nat) (M0 X : Nat → Nat → Int) (q : Nat → Nat) (k : Nat) : Prop :=
  q k < n ∧ (∀ j, j < q k → elN P X q (M0 k) k j = 0) ∧ elN P X q (M0 k) k (q k) ≠ 0 ∧ ∃ v : Int, v * elN P X q (M0 k) k (q k) % P = 1 ∧ ∀ j, j < n → X k j = v * elN P X q (M0 k) k j % P
def NfUp (P : Int) (n : Nat) (M0 X : Nat → Nat → Int) (q : Nat → Nat) (i : Nat) : Prop := ∀ k, k < i → NfRow P n M0 X q k
theorem inv_one {P x v v' y : Int} (h : v * x % P = 1) (h' : v' * x % P = 1) : v * y % P = v' * y % P := by
  have h1 : P ∣ v * x - 1 := by have := Int.dvd_self_sub_emod (x := v * x) (m := P); rwa [h] at this
  have h2 : P ∣ v' * x - 1 := by have := Int.dvd_self_sub_emod (x := v' * x) (m := P); rwa [h'] at this
  have h3 : P ∣ v - v' := by
    have a : P ∣ v' * (v * x - 1) := Int.dvd_mul_of_dvd_right h1
    have b : P ∣ v * (v' * x - 1) := Int.dvd_mul_of_dvd_right h2
    have e : v * (v' * x - 1) - v' * (v * x - 1) = -(v - v') := by
      have c : v * (v' * x) = v' * (v * x) := by rw [← Int.mul_assoc, ← Int.mul_assoc, Int.mul_comm v v']
      rw [Int.mul_sub, Int.mul_sub, c, Int.mul_one, Int.mul_one]
      omega
    have := Int.dvd_sub b a
    rw [e] at this
    have := Int.dvd_neg.2 this
    rwa [Int.neg_neg] at this
  have h4 : P ∣ v * y - v' * y := by rw [← Int.sub_mul]; exact Int.dvd_mul_of_dvd_left h3
  exact Int.emod_eq_emod_iff_emod_sub_eq_zero.2 (Int.emod_eq_zero_of_dvd h4)
theorem NfUp.one {P : Int} {n : Nat} {M0 X X' : Nat → Nat → Int} {q q' : Nat → Nat} (hP : 2 ≤ P) : ∀ i, NfUp P n M0 X q i → NfUp P n M0 X' q' i → (∀ k, k < i → q k = q' k) ∧ ∀ k j, k < i → j < n → X k j = X' k j
  | 0, _, _ => ⟨fun k hk => absurd hk (Nat.not_lt_zero _), fun k j hk => absurd hk (Nat.not_lt_zero _)⟩
  | i + 1, h, h' => by
    obtain ⟨h1, h2⟩ := NfUp.one hP i (fun k hk => h k (by omega)) (fun k hk => h' k (by omega))
    obtain ⟨a1, a2, a3, v, a4, a5⟩ := h i (by omega)
    obtain ⟨b1, b2, b3, v', b4, b5⟩ := h' i (by omega)
    have he := elN_congr (P := P) (r := M0 i) i (fun l hl => (h l (by omega)).1) h1 h2
    have hq : q i = q' i := by
      rcases Nat.lt_trichotomy (q i) (q' i) with hlt | e | hlt
      · exact absurd (by rw [he _ a1]; exact b2 _ hlt) a3
      · exact e
      · exact absurd (by rw [← he _ b1]; exact a2 _ hlt) b3
    refine ⟨fun k hk => ?_, fun k j hk hj => ?_⟩
    · by_cases e : k = i
      · subst e; exact hq
      · exact h1 k (by omega)
    · by_cases e : k = i
      · subst e
        rw [a5 j hj, b5 j hj, he j hj]
        rw [he _ a1, hq] at a4
        exact inv_one a4 b4
      · exact h2 k j (by omega) hj
theorem NfUp.rng {P : Int} {n i : Nat} {M0 X : Nat → Nat → Int} {q : Nat → Nat} (hP : 2 ≤ P) (h : NfUp P n M0 X q i) : ∀ k j, k < i → j < n → 0 ≤ X k j ∧ X k j < P := fun k j hk hj => by
  obtain ⟨_, _, _, v, _, a5⟩ := h k hk
  rw [a5 j hj]
  exact ⟨Int.emod_nonneg _ (by omega), Int.emod_lt_of_pos _ (by omega)⟩
/-- the row with others spans what it spanned -/
theorem elN_same {P : Int} {n i : Nat} {X : Nat → Nat → Int} {q : Nat → Nat} {r : Nat → Int} : ∀ t, t ≤ i → SameSp P n (i + 1) (snocM i X r) (i + 1) (snocM i X (elN P X q r t))
  | 0, _ => .of_eqv fun k hk => .of_eq fun j hj => by
    unfold snocM
    split <;> rfl
  | t + 1, ht => by
    refine (elN_same (q := q) t (by omega)).trans (SameSp.elim t (by omega) (fun k => if k = i then P - elN P X q r t (q t) else 0) ?_ fun k hk hne => ?_)
    · rw [snocM_lt (by omega), snocM_lt (by omega)]; exact .refl _ _ _
    · by_cases e : k = i
      · subst e
        simp only [if_true]
        rw [snocM_at, snocM_at, snocM_lt (show t < k by omega)]
        exact Eqv.emod (p := P) (C := n) (fun j => elN P X q r t j + (P - elN P X q r t (q t)) * X t j)
      · simp only [e, if_false]
        rw [snocM_lt (by omega), snocM_lt (by omega)]
        exact .of_eq fun j _ => by omega
theorem SameSp.snocR {P : Int} {C i : Nat} {M X : Nat → Nat → Int} (h : SameSp P C i M i X) : SameSp P C (i + 1) M (i + 1) (snocM i X (M i)) :=
  h.snoc (by rw [snocM_at]; exact .refl _ _ _) fun k hk => by rw [snocM_lt hk]; exact .refl _ _ _
theorem NfUp.same {P : Int} {n : Nat} {M0 X : Nat → Nat → Int} {q : Nat → Nat} (hP : 2 ≤ P) : ∀ i, NfUp P n M0 X q i → SameSp P n i M0 i X
  | 0, _ => ⟨fun k hk => absurd hk (Nat.not_lt_zero _), fun k hk => absurd hk (Nat.not_lt_zero _)⟩
  | i + 1, h => by
    have ih := NfUp.same hP i (fun k hk => h k (by omega))
    obtain ⟨a1, a2, a3, v, a4, a5⟩ := h i (by omega)
    refine (ih.snocR.trans (elN_same (q := q) i (Nat.le_refl _))).trans (SameSp.scale i (by omega) v (elN P X q (M0 i) i (q i)) ?_ ?_ fun k hk hne => ?_)
    · have := Int.dvd_self_sub_emod (x := v * elN P X q (M0 i) i (q i)) (m := P)
      rwa [a4] at this
    · rw [snocM_at]
      intro j hj
      rw [a5 j hj]
      exact Eqv.emod (p := P) (C := n) (fun j => v * elN P X q (M0 i) i j) j hj
    · rw [snocM_lt (by omega)]; exact .refl _ _ _
/-- of a flag, something is left of the row -/
theorem NfUp.left {P : Int} {n i : Nat} {M0 X : Nat → Nat → Int} {q : Nat → Nat} (hp : primeOk P = true) (hM : ∀ k j, j < n → 0 ≤ M0 k j ∧ M0 k j < P) (hn : HasRank P n n M0 n) (h : NfUp P n M0 X q i) (hi : i < n) : ¬ ∀ j, j < n → elN P X q (M0 i) i j = 0 := fun h0 => by
  have hP := (primeOk_range hp).1
  have h1 := hn.part hp (fun k j _ hj => hM k j hj) (show i + 1 ≤ n by omega)
  have h2 := (NfUp.same hP i h).snocR.trans (elN_same (q := q) i (Nat.le_refl _))
  have h3 : SameSp P n i X (i + 1) (snocM i X (elN P X q (M0 i) i)) := by
    refine ⟨fun k hk => ?_, fun k hk => ?_⟩
    · have : Sp P n (i + 1) (snocM i X (elN P X q (M0 i) i)) (snocM i X (elN P X q (M0 i) i) k) := .row (by omega)
      rwa [snocM_lt hk] at this
    · by_cases e : k < i
      · rw [snocM_lt e]; exact .row e
      · obtain rfl : k = i := by omega
        rw [snocM_at]
        exact Sp.zero.eqv (.of_eq fun j hj => (h0 j hj).symm)
  have h4 := (h1.same h2.symm).same h3
  have := h4.le hp (h.rng hP)
  omega
theorem NfUp.snoc {P : Int} {n i : Nat} {M0 X X' : Nat → Nat → Int} {q q' : Nat → Nat} (h : NfUp P n M0 X q i) (hX : ∀ k j, k < i → j < n → X' k j = X k j) (hq : ∀ k, k < i → q' k = q k) (hr : NfRow P n M0 X' q' i) : NfUp P n M0 X' q' (i + 1) := fun k hk => by
  by_cases e : k = i
  · subst e; exact hr
  · have hki : k < i := by omega
    obtain ⟨a1, a2, a3, v, a4, a5⟩ := h k hki
    have he := elN_congr (P := P) (r := M0 k) k (fun l hl => (h l (by omega)).1) (fun l hl => (hq l (by omega)).symm) (fun l j hl hj => (hX l j (by omega) hj).symm)
    refine ⟨by rw [hq k hki]; exact a1, fun j hj => ?_, ?_, v, ?_, fun j hj => ?_⟩
    · rw [hq k hki] at hj; rw [← he j (by omega)]; exact a2 j hj
    · rw [hq k hki, ← he _ a1]; exact a3
    · rw [hq k hki, ← he _ a1]; exact a4
    · rw [hX k j hki hj, ← he j hj]; exact a5 j hj

end Go.Proofs.Ytapmnfakjnhlbaa
