/-
  The normal form of a flag, as plain law.
  More of spans and ranks: rows that are independent, spans within spans, halves of rows (plain law; no program in sight).
  The span, on both sides.
  l1Same, slices.Equal, l7Same.
  IsSpace, on both sides.
  Two spaces: l7Two, fitTogether, l7Both.
  The rows of two matrices, one behind the other: l7Both.
  SumSpaces, on both sides.
  append(x, make([]int, m)...) on a slice that the call made: laws over any program.
  l7Corner, CornerRank. (DRAFT)
  What two spaces have in common: the plain law.
-/
import Derived.Test.YtklpaannmdbmiaaJ7
import Derived.Test.YtklpaannmdbmiaaJ1
import Derived.Test.YtklpaannmdbmiaaJ4
import Derived.Test.YtklpaannmdbmiaaJ6
import Derived.Test.YtklpaannmdbmiaaJ2
namespace Go.Proofs.Ytklpaannmdbmiaa
set_option linter.all false
open Go.RowKit

/-- a row r less multiples of the first k rows of X, such that it has 0 where they begin -/
def elN (P : Int) (X : Nat → Nat → Int) (q : Nat → Nat) (r : Nat → Int) : Nat → Nat → Int
  | 0, j => r j
  | k + 1, j => (elN P X q r k j + (P - elN P X q r k (q k)) * X k j) % P
theorem elN_congr {P : Int} {n : Nat} {X X' : Nat → Nat → Int} {q q' : Nat → Nat} {r : Nat → Int} : ∀ k, (∀ l, l < k → q l < n) → (∀ l, l < k → q l = q' l) → (∀ l j, l < k → j < n → X l j = X' l j) → ∀ j, j < n → elN P X q r k j = elN P X' q' r k j
  | 0, _, _, _, j, _ => rfl
  | k + 1, h0, h1, h2, j, hj => by
    have ih := elN_congr (P := P) (r := r) k (fun l hl => h0 l (by omega)) (fun l hl => h1 l (by omega)) (fun l j hl hj => h2 l j (by omega) hj)
    unfold elN
    rw [ih j hj, ih (q k) (h0 k (by omega)), h1 k (by omega), h2 k j (by omega) hj]
theorem elN_rng {P : Int} {n : Nat} {X : Nat → Nat → Int} {q : Nat → Nat} {r : Nat → Int} (hP : 2 ≤ P) (hr : ∀ j, j < n → 0 ≤ r j ∧ r j < P) : ∀ k j, j < n → 0 ≤ elN P X q r k j ∧ elN P X q r k j < P
  | 0, j, hj => hr j hj
  | k + 1, j, _ => ⟨Int.emod_nonneg _ (by omega), Int.emod_lt_of_pos _ (by omega)⟩

/-- row k of the normal form -/
def NfRow (P : Int) (n : Nat) (M0 X : Nat → Nat → Int) (q : Nat → Nat) (k : Nat) : Prop :=
  q k < n ∧ (∀ j, j < q k → elN P X q (M0 k) k j = 0) ∧ elN P X q (M0 k) k (q k) ≠ 0 ∧ ∃ v : Int, v * elN P X q (M0 k) k (q k) % P = 1 ∧ ∀ j, j < n → X k j = v * elN P X q (M0 k) k j % P
def NfUp (P : Int) (n : Nat) (M0 X : Nat → Nat → Int) (q : Nat → Nat) (i : Nat) : Prop := ∀ k, k < i → NfRow P n M0 X q k
theorem inv_one {P x v v' y : Int} (h : v * x % P = 1) (h' : v' * x % P = 1) : v * y % P = v' * y % P := by
  have h1 : P ∣ v * x - 1 := by have := Int.dvd_self_sub_emod (x := v * x) (m := P); rwa [h] at this
  have h2 : P ∣ v' * x - 1 := by have := Int.dvd_self_sub_emod (x := v' * x) (m := P); rwa [h'] at this
  have h3 : P ∣ v - v' := by
    have a : P ∣ v' * (v * x - 1) := Int.dvd_mul_of_dvd_right h1
    have b : P ∣ v * (v' * x - 1) := Int.dvd_mul_of_dvd_right h2
    have e : v * (v' * x - 1) - v' * (v * x - 1) = -(v - v') := by
      have c : v * (v' * x) = v' * (v * x) := by rw [← Int.mul_assoc, ← Int.mul_assoc, Int.mul_comm v v']
      rw [Int.mul_sub, Int.mul_sub, c, Int.mul_one, Int.mul_one]
      omega
    have := Int.dvd_sub b a
    rw [e] at this
    have := Int.dvd_neg.2 this
    rwa [Int.neg_neg] at this
  have h4 : P ∣ v * y - v' * y := by rw [← Int.sub_mul]; exact Int.dvd_mul_of_dvd_left h3
  exact Int.emod_eq_emod_iff_emod_sub_eq_zero.2 (Int.emod_eq_zero_of_dvd h4)
theorem NfUp.one {P : Int} {n : Nat} {M0 X X' : Nat → Nat → Int} {q q' : Nat → Nat} (hP : 2 ≤ P) : ∀ i, NfUp P n M0 X q i → NfUp P n M0 X' q' i → (∀ k, k < i → q k = q' k) ∧ ∀ k j, k < i → j < n → X k j = X' k j
  | 0, _, _ => ⟨fun k hk => absurd hk (Nat.not_lt_zero _), fun k j hk => absurd hk (Nat.not_lt_zero _)⟩
  | i + 1, h, h' => by
    obtain ⟨h1, h2⟩ := NfUp.one hP i (fun k hk => h k (by omega)) (fun k hk => h' k (by omega))
    obtain ⟨a1, a2, a3, v, a4, a5⟩ := h i (by omega)
    obtain ⟨b1, b2, b3, v', b4, b5⟩ := h' i (by omega)
    have he := elN_congr (P := P) (r := M0 i) i (fun l hl => (h l (by omega)).1) h1 h2
    have hq : q i = q' i := by
      rcases Nat.lt_trichotomy (q i) (q' i) with hlt | e | hlt
      · exact absurd (by rw [he _ a1]; exact b2 _ hlt) a3
      · exact e
      · exact absurd (by rw [← he _ b1]; exact a2 _ hlt) b3
    refine ⟨fun k hk => ?_, fun k j hk hj => ?_⟩
    · by_cases e : k = i
      · subst e; exact hq
      · exact h1 k (by omega)
    · by_cases e : k = i
      · subst e
        rw [a5 j hj, b5 j hj, he j hj]
        rw [he _ a1, hq] at a4
        exact inv_one a4 b4
      · exact h2 k j (by omega) hj
theorem NfUp.rng {P : Int} {n i : Nat} {M0 X : Nat → Nat → Int} {q : Nat → Nat} (hP : 2 ≤ P) (h : NfUp P n M0 X q i) : ∀ k j, k < i → j < n → 0 ≤ X k j ∧ X k j < P := fun k j hk hj => by
  obtain ⟨_, _, _, v, _, a5⟩ := h k hk
  rw [a5 j hj]
  exact ⟨Int.emod_nonneg _ (by omega), Int.emod_lt_of_pos _ (by omega)⟩
/-- the row with others spans what it spanned -/
theorem elN_same {P : Int} {n i : Nat} {X : Nat → Nat → Int} {q : Nat → Nat} {r : Nat → Int} : ∀ t, t ≤ i → SameSp P n (i + 1) (snocM i X r) (i + 1) (snocM i X (elN P X q r t))
  | 0, _ => .of_eqv fun k hk => .of_eq fun j hj => by
    unfold snocM
    split <;> rfl
  | t + 1, ht => by
    refine (elN_same (q := q) t (by omega)).trans (SameSp.elim t (by omega) (fun k => if k = i then P - elN P X q r t (q t) else 0) ?_ fun k hk hne => ?_)
    · rw [snocM_lt (by omega), snocM_lt (by omega)]; exact .refl _ _ _
    · by_cases e : k = i
      · subst e
        simp only [if_true]
        rw [snocM_at, snocM_at, snocM_lt (show t < k by omega)]
        exact Eqv.emod (p := P) (C := n) (fun j => elN P X q r t j + (P - elN P X q r t (q t)) * X t j)
      · simp only [e, if_false]
        rw [snocM_lt (by omega), snocM_lt (by omega)]
        exact .of_eq fun j _ => by omega
theorem SameSp.snocR {P : Int} {C i : Nat} {M X : Nat → Nat → Int} (h : SameSp P C i M i X) : SameSp P C (i + 1) M (i + 1) (snocM i X (M i)) :=
  h.snoc (by rw [snocM_at]; exact .refl _ _ _) fun k hk => by rw [snocM_lt hk]; exact .refl _ _ _
theorem NfUp.same {P : Int} {n : Nat} {M0 X : Nat → Nat → Int} {q : Nat → Nat} (hP : 2 ≤ P) : ∀ i, NfUp P n M0 X q i → SameSp P n i M0 i X
  | 0, _ => ⟨fun k hk => absurd hk (Nat.not_lt_zero _), fun k hk => absurd hk (Nat.not_lt_zero _)⟩
  | i + 1, h => by
    have ih := NfUp.same hP i (fun k hk => h k (by omega))
    obtain ⟨a1, a2, a3, v, a4, a5⟩ := h i (by omega)
    refine (ih.snocR.trans (elN_same (q := q) i (Nat.le_refl _))).trans (SameSp.scale i (by omega) v (elN P X q (M0 i) i (q i)) ?_ ?_ fun k hk hne => ?_)
    · have := Int.dvd_self_sub_emod (x := v * elN P X q (M0 i) i (q i)) (m := P)
      rwa [a4] at this
    · rw [snocM_at]
      intro j hj
      rw [a5 j hj]
      exact Eqv.emod (p := P) (C := n) (fun j => v * elN P X q (M0 i) i j) j hj
    · rw [snocM_lt (by omega)]; exact .refl _ _ _
/-- of a flag, something is left of the row -/
theorem NfUp.left {P : Int} {n i : Nat} {M0 X : Nat → Nat → Int} {q : Nat → Nat} (hp : primeOk P = true) (hM : ∀ k j, j < n → 0 ≤ M0 k j ∧ M0 k j < P) (hn : HasRank P n n M0 n) (h : NfUp P n M0 X q i) (hi : i < n) : ¬ ∀ j, j < n → elN P X q (M0 i) i j = 0 := fun h0 => by
  have hP := (primeOk_range hp).1
  have h1 := hn.part hp (fun k j _ hj => hM k j hj) (show i + 1 ≤ n by omega)
  have h2 := (NfUp.same hP i h).snocR.trans (elN_same (q := q) i (Nat.le_refl _))
  have h3 : SameSp P n i X (i + 1) (snocM i X (elN P X q (M0 i) i)) := by
    refine ⟨fun k hk => ?_, fun k hk => ?_⟩
    · have : Sp P n (i + 1) (snocM i X (elN P X q (M0 i) i)) (snocM i X (elN P X q (M0 i) i) k) := .row (by omega)
      rwa [snocM_lt hk] at this
    · by_cases e : k < i
      · rw [snocM_lt e]; exact .row e
      · obtain rfl : k = i := by omega
        rw [snocM_at]
        exact Sp.zero.eqv (.of_eq fun j hj => (h0 j hj).symm)
  have h4 := (h1.same h2.symm).same h3
  have := h4.le hp (h.rng hP)
  omega
theorem NfUp.snoc {P : Int} {n i : Nat} {M0 X X' : Nat → Nat → Int} {q q' : Nat → Nat} (h : NfUp P n M0 X q i) (hX : ∀ k j, k < i → j < n → X' k j = X k j) (hq : ∀ k, k < i → q' k = q k) (hr : NfRow P n M0 X' q' i) : NfUp P n M0 X' q' (i + 1) := fun k hk => by
  by_cases e : k = i
  · subst e; exact hr
  · have hki : k < i := by omega
    obtain ⟨a1, a2, a3, v, a4, a5⟩ := h k hki
    have he := elN_congr (P := P) (r := M0 k) k (fun l hl => (h l (by omega)).1) (fun l hl => (hq l (by omega)).symm) (fun l j hl hj => (hX l j (by omega) hj).symm)
    refine ⟨by rw [hq k hki]; exact a1, fun j hj => ?_, ?_, v, ?_, fun j hj => ?_⟩
    · rw [hq k hki] at hj; rw [← he j (by omega)]; exact a2 j hj
    · rw [hq k hki, ← he _ a1]; exact a3
    · rw [hq k hki, ← he _ a1]; exact a4
    · rw [hX k j hki hj, ← he j hj]; exact a5 j hj

end Go.Proofs.Ytklpaannmdbmiaa

namespace Go.Proofs.Ytklpaannmdbmiaa
set_option linter.all false

theorem Sp.narrow {p : Int} {C C' n : Nat} {M : Nat → Nat → Int} {v : Nat → Int} (h : Sp p C n M v) (hC : C' ≤ C) : Sp p C' n M v := by
  induction h with
  | zero => exact .zero
  | add c i hi _ ih => exact .add c i hi ih
  | eqv _ e ih => exact ih.eqv fun j hj => e j (by omega)
theorem Sp.mono {p : Int} {C n n' : Nat} {M : Nat → Nat → Int} {v : Nat → Int} (h : Sp p C n M v) (hn : n ≤ n') : Sp p C n' M v :=
  h.trans fun i hi => .row (by omega)
theorem Sp.congr {p : Int} {C n : Nat} {M M' : Nat → Nat → Int} {v : Nat → Int} (h : Sp p C n M v) (e : ∀ i, i < n → Eqv p C (M i) (M' i)) : Sp p C n M' v :=
  h.trans fun i hi => (Sp.row hi).eqv (e i hi).symm
theorem Sp.sub {p : Int} {C n : Nat} {M : Nat → Nat → Int} {u v : Nat → Int} (h : Sp p C n M u) (h2 : Sp p C n M v) : Sp p C n M (fun j => u j - v j) :=
  (h.comb (-1) h2).eqv (.of_eq fun j _ => by omega)
/-- a sum over rows, with numbers before them -/
theorem Sp.coef {p : Int} {C n : Nat} {M : Nat → Nat → Int} {v : Nat → Int} (h : Sp p C n M v) : ∃ c : Nat → Int, ∀ j, j < C → p ∣ v j - sm n (fun i => c i * M i j) := by
  induction h with
  | zero => exact ⟨fun _ => 0, fun j _ => by rw [sm_congr (g := fun _ => 0) (fun i _ => by simp), sm_zero]; simp⟩
  | @add v c i hi _ ih =>
    obtain ⟨d, hd⟩ := ih
    refine ⟨fun k => d k + c * if i = k then 1 else 0, fun j hj => ?_⟩
    have e : sm n (fun k => (d k + c * if i = k then 1 else 0) * M k j) = sm n (fun k => d k * M k j) + c * M i j := by
      rw [← sm_one n i hi c (fun k => M k j), ← sm_add]
      exact sm_congr fun k _ => by rw [Int.add_mul]
    rw [e]
    have := hd j hj
    rwa [show ∀ a b x : Int, a + x - (b + x) = a - b by intros; omega]
  | eqv _ e ih =>
    obtain ⟨d, hd⟩ := ih
    refine ⟨d, fun j hj => ?_⟩
    have := Int.dvd_sub (hd j hj) (e j hj)
    rwa [show ∀ a b x : Int, a - x - (a - b) = b - x by intros; omega] at this
theorem sp_sm {p : Int} {C n m : Nat} {M : Nat → Nat → Int} (c : Nat → Int) (hm : m ≤ n) : Sp p C n M (fun j => sm m (fun i => c i * M i j)) := by
  induction m with
  | zero => exact .zero
  | succ m ih => exact .add (c m) m (by omega) (ih (by omega))
theorem Sp.of_coef {p : Int} {C n : Nat} {M : Nat → Nat → Int} {v : Nat → Int} (c : Nat → Int) (h : ∀ j, j < C → p ∣ v j - sm n (fun i => c i * M i j)) : Sp p C n M v :=
  (sp_sm c (Nat.le_refl n)).eqv fun j hj => by
    have := Int.dvd_neg.2 (h j hj)
    rwa [Int.neg_sub] at this
theorem sm_split (a b : Nat) (f : Nat → Int) : sm (a + b) f = sm a f + sm b (fun i => f (a + i)) := by
  induction b with
  | zero => simp [sm]
  | succ b ih => rw [← Nat.add_assoc, sm, sm, ih]; omega

/-- the rows are independent -/
def Indep (p : Int) (C n : Nat) (M : Nat → Nat → Int) : Prop := ∀ c : Nat → Int, (∀ j, j < C → p ∣ sm n (fun i => c i * M i j)) → ∀ i, i < n → p ∣ c i
theorem Indep.part {p : Int} {C n m : Nat} {M : Nat → Nat → Int} (h : Indep p C n M) (hm : m ≤ n) : Indep p C m M := fun c hc i hi => by
  have := h (fun k => if k < m then c k else 0) (fun j hj => ?_) i (by omega)
  · simpa [hi] using this
  · obtain ⟨d, rfl⟩ : ∃ d, n = m + d := ⟨n - m, by omega⟩
    have e1 : sm d (fun k => (if m + k < m then c (m + k) else 0) * M (m + k) j) = 0 := (sm_congr (g := fun _ => 0) fun k _ => by simp [show ¬ m + k < m by omega]).trans (sm_zero d)
    have e2 : sm m (fun k => (if k < m then c k else 0) * M k j) = sm m (fun k => c k * M k j) := sm_congr fun k hk => by simp [hk]
    rw [sm_split, e1, e2, Int.add_zero]
    exact hc j hj
/-- a reduced form's rows are -/
theorem Red.indep {p : Int} {C n : Nat} {M : Nat → Nat → Int} {q : Nat → Nat} (h : Red p C n M q) : Indep p C n M := fun c hc i hi => by
  have := hc (q i) (h.lt i hi)
  rw [sm_congr (g := fun k => (c i * if i = k then 1 else 0) * (fun _ => 1) k) (fun k hk => ?_), sm_one n i hi] at this
  · simpa using this
  · rw [h.unit k i hk hi]
    by_cases e : i = k
    · subst e; simp
    · simp [e, show ¬ k = i from fun x => e x.symm]

/-- ascending from below n to below n': no more -/
theorem asc_into {n n' : Nat} {s : Nat → Nat} (h : ∀ i k, i < k → k < n → s i < s k) (hl : ∀ i, i < n → s i < n') : n ≤ n' := asc_bound h hl
theorem asc_same {n : Nat} {s : Nat → Nat} (h : ∀ i k, i < k → k < n → s i < s k) (hl : ∀ i, i < n → s i < n) : ∀ i, i < n → s i = i := by
  have lo : ∀ i, i < n → i ≤ s i := by
    intro i
    induction i with
    | zero => exact fun _ => Nat.zero_le _
    | succ i ih =>
      intro hi
      have a := ih (by omega)
      have b := h i (i + 1) (by omega) hi
      omega
  have hi' : ∀ d i, i < n → n - 1 - i = d → s i ≤ i := by
    intro d
    induction d with
    | zero => intro i hi e; have := hl i hi; omega
    | succ d ih =>
      intro i hi e
      have a := ih (i + 1) (by omega) (by omega)
      have b := h i (i + 1) (by omega) (by omega)
      omega
  intro i hi
  have := lo i hi
  have := hi' _ i hi rfl
  omega

/-- the columns of a span within another one -/
theorem red_cols {p : Int} {C n n' : Nat} {M M' : Nat → Nat → Int} {q q' : Nat → Nat} (hp : 2 ≤ p) (h : Red p C n M q) (h' : Red p C n' M' q') (ha : ∀ i k, i < k → k < n → q i < q k) (ha' : ∀ i k, i < k → k < n' → q' i < q' k)
    (hs : ∀ i, i < n' → Sp p C n M (M' i)) : ∃ s : Nat → Nat, (∀ k, k < n' → s k < n ∧ q (s k) = q' k) ∧ ∀ i k, i < k → k < n' → s i < s k := by
  have hc : ∀ k, ∃ i, k < n' → i < n ∧ q i = q' k := fun k => by
    by_cases hk : k < n'
    · obtain ⟨i, hi, e⟩ := Red.cols h h' hp hs hk
      exact ⟨i, fun _ => ⟨hi, e⟩⟩
    · exact ⟨0, fun x => absurd x hk⟩
  refine ⟨fun k => Classical.choose (hc k), fun k hk => Classical.choose_spec (hc k) hk, fun i k hik hk => ?_⟩
  have a := Classical.choose_spec (hc i) (by omega)
  have b := Classical.choose_spec (hc k) hk
  have := ha' i k hik hk
  rw [← a.2, ← b.2] at this
  show Classical.choose (hc i) < Classical.choose (hc k)
  generalize Classical.choose (hc i) = x at *
  generalize Classical.choose (hc k) = y at *
  rcases Nat.lt_or_ge x y with e | e
  · exact e
  · rcases Nat.lt_or_eq_of_le e with e | e
    · have := ha y x e a.1; omega
    · subst e; omega
/-- no greater rank -/
theorem IsRed.le {P : Int} {C R R' n n' : Nat} {M0 M1 M M' : Nat → Nat → Int} {q q' : Nat → Nat} (hP : 2 ≤ P) (h : IsRed P C R M0 n M q) (h' : IsRed P C R' M1 n' M' q') (hs : ∀ i, i < R' → Sp P C R M0 (M1 i)) : n' ≤ n := by
  have hs' : ∀ i, i < n' → Sp P C n M (M' i) := fun i hi => ((h'.2.2.2.2 i hi).trans hs).trans h.2.2.2.1
  obtain ⟨s, h1, h2⟩ := red_cols hP h.1 h'.1 h.2.1 h'.2.1 hs'
  exact asc_into h2 fun k hk => (h1 k hk).1
theorem HasRank.le_of_sub {P : Int} {C R R' n n' : Nat} {M0 M1 : Nat → Nat → Int} (hP : 2 ≤ P) (h : HasRank P C R M0 n) (h' : HasRank P C R' M1 n') (hs : ∀ i, i < R' → Sp P C R M0 (M1 i)) : n' ≤ n := by
  obtain ⟨M, q, h⟩ := h
  obtain ⟨M', q', h'⟩ := h'
  exact h.le hP h' hs
/-- a span within another one of the same rank is the same -/
theorem HasRank.same_of_sub {P : Int} {C R R' n : Nat} {M0 M1 : Nat → Nat → Int} (hP : 2 ≤ P) (h : HasRank P C R M0 n) (h' : HasRank P C R' M1 n) (hs : ∀ i, i < R' → Sp P C R M0 (M1 i)) : SameSp P C R' M1 R M0 := by
  obtain ⟨M, q, h⟩ := h
  obtain ⟨M', q', h'⟩ := h'
  have hs' : ∀ i, i < n → Sp P C n M (M' i) := fun i hi => ((h'.2.2.2.2 i hi).trans hs).trans h.2.2.2.1
  obtain ⟨s, h1, h2⟩ := red_cols hP h.1 h'.1 h.2.1 h'.2.1 hs'
  have h3 := asc_same h2 fun k hk => (h1 k hk).1
  have hq : ∀ k, k < n → q' k = q k := fun k hk => by have := (h1 k hk).2; rw [h3 k hk] at this; exact this.symm
  refine ⟨hs, fun i hi => ?_⟩
  -- a row of the greater one, less its part in the smaller one, has 0 at all columns
  have hrow : ∀ v, Sp P C n M v → Sp P C n M' v := fun v hv => by
    have hd : Sp P C n M (fun j => v j - sm n (fun i => v (q i) * M' i j)) := hv.sub ((sp_sm _ (Nat.le_refl n)).trans hs')
    have hz : ∀ k, k < n → P ∣ v (q k) - sm n (fun i => v (q i) * M' i (q k)) := fun k hk => by
      rw [sm_congr (g := fun i => (v (q k) * if k = i then 1 else 0) * (fun _ => 1) i) (fun i hi => ?_), sm_one n k hk]
      · simp
      · rw [← hq k hk, h'.1.unit i k hi hk]
        by_cases e : k = i
        · subst e; simp [hq k hk]
        · simp [e, show ¬ i = k from fun x => e x.symm]
    refine .of_coef (fun i => v (q i)) fun j hj => ?_
    have hco := h.1.coord hd j hj
    have : P ∣ sm n (fun i => (v (q i) - sm n (fun t => v (q t) * M' t (q i))) * M i j) := sm_dvd fun i hi => Int.dvd_mul_of_dvd_left (hz i hi)
    have := Int.dvd_add hco this
    rwa [Int.sub_add_cancel] at this
  exact (hrow _ (h.2.2.2.1 i hi)).trans h'.2.2.2.2
/-- independent rows are as many as the rank -/
theorem Indep.rank {P : Int} {C R : Nat} {M0 : Nat → Nat → Int} (hp : primeOk P = true) (hr : ∀ i j, i < R → j < C → 0 ≤ M0 i j ∧ M0 i j < P) (h : Indep P C R M0) : HasRank P C R M0 R := by
  obtain ⟨hP, _⟩ := primeOk_range hp
  obtain ⟨f, f0, f1, f2⟩ := ranks_ex hp R hr
  have h3 : ∀ n, n < R → f (n + 1) = f n + 1 := fun n hn => by
    rcases f2 n hn with e | e
    · exfalso
      have a := f1 n (by omega)
      have b := f1 (n + 1) hn
      rw [e] at b
      have hs := b.same_of_sub hP a fun i hi => .row (by omega)
      obtain ⟨c, hc⟩ := (hs.2 n (by omega)).coef
      have := h.part hn (fun k => if k = n then 1 else - c k) (fun j hj => ?_) n (by omega)
      · simp at this
        exact Red.not_dvd_one hP this
      · have := hc j hj
        rw [sm]
        simp only [if_true, Int.one_mul]
        rw [sm_congr (g := fun i => 0 - c i * M0 i j) (fun k hk => by rw [if_neg (by omega), Int.neg_mul]; omega), ← sm_sub, sm_zero]
        rwa [show ∀ a b : Int, 0 - a + b = b - a by intros; omega]
    · exact e
  have h4 : ∀ n, n ≤ R → f n = n := by
    intro n
    induction n with
    | zero => exact fun _ => f0
    | succ n ih => intro hn; rw [h3 n hn, ih (by omega)]
  have := f1 R (Nat.le_refl _)
  rwa [h4 R (Nat.le_refl _)] at this

end Go.Proofs.Ytklpaannmdbmiaa

namespace Go.Proofs.Ytklpaannmdbmiaa
set_option linter.all false
open Go.RowKit

/-- n rows of C numbers, one behind the other -/
def flatM (n C : Nat) (M : Nat → Nat → Int) : List Int := (List.range (n * C)).map fun t => M (t / C) (t % C)
theorem flatM_length (n C : Nat) (M : Nat → Nat → Int) : (flatM n C M).length = n * C := by simp [flatM]
theorem flatM_congr {n C : Nat} {M M' : Nat → Nat → Int} (h : ∀ i j, i < n → j < C → M i j = M' i j) : flatM n C M = flatM n C M' := by
  unfold flatM
  refine List.map_congr_left fun t ht => ?_
  have ht : t < n * C := by simpa using ht
  have hC : 0 < C := by
    rcases Nat.eq_zero_or_pos C with h0 | h0
    · rw [h0] at ht; omega
    · exact h0
  exact h _ _ (Nat.div_lt_of_lt_mul (by rwa [Nat.mul_comm])) (Nat.mod_lt _ hC)
theorem flatM_mf (n C : Nat) (h : Nat → Int) : flatM n C (mf C h) = (List.range (n * C)).map h := by
  unfold flatM mf
  refine List.map_congr_left fun t _ => ?_
  rw [Nat.mul_comm, Nat.div_add_mod]
theorem flatM_rows {C : Nat} {L : List (List Int)} (h : ∀ i, i < L.length → (L.getD i []).length = C) : flatM L.length C (mt L) = L.flatten := by
  have hL : ∀ r ∈ L, r.length = C := fun r hr => by
    obtain ⟨i, hi, rfl⟩ := List.mem_iff_getElem.1 hr
    have := h i hi
    rwa [List.getD_eq_getElem?_getD, List.getElem?_eq_getElem hi, Option.getD_some] at this
  have hl : L.flatten.length = L.length * C := flat_length hL
  apply List.ext_getElem (by rw [flatM_length, hl])
  intro t h1 h2
  rw [flatM_length] at h1
  have hC : 0 < C := by
    rcases Nat.eq_zero_or_pos C with h0 | h0
    · rw [h0] at h1; omega
    · exact h0
  have e := flat_getD (t := t) hC hL
  rw [List.getD_eq_getElem?_getD, List.getElem?_eq_getElem h2, Option.getD_some] at e
  rw [e]
  simp [flatM, mt]

/-- what SpanOf returns -/
def SpIs (P R C : Int) (D : List Int) (m : Mx) : Prop :=
  if mxOk P R C D = true then ∃ (n : Nat) (M : Nat → Nat → Int) (q : Nat → Nat), IsRed P C.toNat R.toNat (mf C.toNat fun t => D.getD t 0) n M q ∧ (n : Int) ≤ R ∧ m = ⟨P, n, C, flatM n C.toNat M⟩ else m = mxZero
theorem SpIs.one {P R C : Int} {D : List Int} {m m' : Mx} (h : SpIs P R C D m) (h' : SpIs P R C D m') : m = m' := by
  unfold SpIs at h h'
  by_cases e : mxOk P R C D = true
  · rw [if_pos e] at h h'
    obtain ⟨n, M, q, h1, _, rfl⟩ := h
    obtain ⟨n', M', q', h1', _, rfl⟩ := h'
    obtain ⟨_, _, _, _, _, _, _, _, _, hP, _⟩ := mxOk_facts e
    obtain ⟨e1, _, e3⟩ := h1.one hP h1'
    subst e1
    rw [flatM_congr e3]
  · rw [if_neg e] at h h'
    rw [h, h']
instance : Nonempty Mx := ⟨mxZero⟩
/-- .. or the empty one, were there none -/
def SpQ (P R C : Int) (D : List Int) (m : Mx) : Prop := SpIs P R C D m ∨ ((∀ m', ¬ SpIs P R C D m') ∧ m = mxZero)
theorem SpQ.ex (P R C : Int) (D : List Int) : ∃ m, SpQ P R C D m := by
  by_cases h : ∃ m, SpIs P R C D m
  · obtain ⟨m, h⟩ := h
    exact ⟨m, .inl h⟩
  · exact ⟨mxZero, .inr ⟨fun m hm => h ⟨m, hm⟩, rfl⟩⟩
theorem SpIs.eps {P R C : Int} {D : List Int} {m : Mx} (h : SpIs P R C D m) : m = Classical.epsilon (SpQ P R C D) := by
  rcases Classical.epsilon_spec (SpQ.ex P R C D) with h2 | ⟨h2, _⟩
  · exact h.one h2
  · exact absurd h (h2 m)
theorem SpIs.len {P R C : Int} {D : List Int} {m : Mx} (h : SpIs P R C D m) : m.D.length ≤ 1000 := by
  unfold SpIs at h
  by_cases e : mxOk P R C D = true
  · rw [if_pos e] at h
    obtain ⟨n, M, q, _, hn, rfl⟩ := h
    obtain ⟨r, c, rfl, rfl, hr, _, hc, _⟩ := mxOk_facts e
    rw [flatM_length]
    have : n * c ≤ 7 * 7 := Nat.mul_le_mul (by omega) hc
    simp only [Int.toNat_natCast]
    omega
  · rw [if_neg e] at h
    rw [h]; simp [mxZero]

theorem span_len (P R C : Int) (D : List Int) : (Classical.epsilon (SpQ P R C D)).D.length ≤ 1000 := by
  rcases Classical.epsilon_spec (SpQ.ex P R C D) with h | ⟨_, h⟩
  · exact h.len
  · rw [h]; simp [mxZero]

theorem ints_take {w : World} {p : Option Addr} {k N : Nat} {h : Nat → Int} {K : Nat} (hI : Ints w (.slice p N k) ((List.range N).map h)) (hK : K ≤ N) : Ints w (.slice p K k) ((List.range K).map h) := by
  obtain ⟨q, cap, e, ⟨h1, h2⟩, hc⟩ := hI
  injection e with e1 e2 e3
  subst e1 e3
  rw [List.length_map, List.length_range] at h1 hc
  refine ⟨p, k, by simp, ⟨by simp; omega, h2⟩, fun h0 => ?_⟩
  rw [List.length_map, List.length_range] at h0 
  obtain ⟨b, off, e, hx⟩ := hc (by omega)
  refine ⟨b, off, e, fun j hj => ?_⟩
  rw [List.length_map, List.length_range] at hj
  rw [hx j (by omega)]
  simp [iv, List.getD_eq_getElem?_getD, hj, show j < N by omega]

theorem span_flat {P : Int} {C : Nat} {L : List (List Int)} (h : RowsOk P C L) : flatM L.length C (mt L) = L.flatten := flatM_rows fun i hi => (h i hi).1
theorem span_small {P : Int} {C r : Nat} {L : List (List Int)} (h : RowsOk P C L) (hl : L.length ≤ r) (hr : r ≤ 14) (hC : C ≤ 14) : L.flatten.length ≤ 1000000 := by
  rw [← span_flat h, flatM_length]
  have := Nat.mul_le_mul (Nat.le_trans hl hr) hC
  omega

/-- a matrix, in new memory, which is the span's reduced form -/
def RetSp (w : World) (P : Int) (C R : Nat) (M0 : Nat → Nat → Int) (e : Ending) (w' : World) : Prop :=
  ∃ (n : Nat) (M : Nat → Nat → Int) (q : Nat → Nat), IsRed P C R M0 n M q ∧ n ≤ R ∧ RetM w ⟨P, n, C, flatM n C M⟩ e w'

end Go.Proofs.Ytklpaannmdbmiaa

namespace Go.Proofs.Ytklpaannmdbmiaa
set_option linter.all false
open Go.RowKit

end Go.Proofs.Ytklpaannmdbmiaa

namespace Go.Proofs.Ytklpaannmdbmiaa
set_option linter.all false
open Go.RowKit

/-- what IsSpace returns: is the matrix the reduced form of its own span? -/
def IkIs (P R C : Int) (D : List Int) (b : Bool) : Prop := b = true ↔ mxOk P R C D = true ∧ SpIs P R C D ⟨P, R, C, D⟩
theorem IkIs.one {P R C : Int} {D : List Int} {b b' : Bool} (h : IkIs P R C D b) (h' : IkIs P R C D b') : b = b' := by
  unfold IkIs at h h'
  have e : b = true ↔ b' = true := h.trans h'.symm
  cases b <;> cases b' <;> simp_all
theorem IkIs.eps {P R C : Int} {D : List Int} {b : Bool} (h : IkIs P R C D b) : b = Classical.epsilon (IkIs P R C D) := h.one (Classical.epsilon_spec ⟨b, h⟩)
theorem IkIs.no {P R C : Int} {D : List Int} (h : mxOk P R C D = false) : IkIs P R C D false := by
  unfold IkIs; simp [h]
theorem IkIs.same {P R C n : Int} {D L : List Int} (h : mxOk P R C D = true) (hs : SpIs P R C D ⟨P, n, C, L⟩) : IkIs P R C D (mxSame P R C D P n C L) := by
  unfold IkIs
  constructor
  · intro e
    obtain ⟨_, e2, _, e4⟩ := of_decide_eq_true e
    subst e2 e4
    exact ⟨h, hs⟩
  · rintro ⟨_, h2⟩
    have e := h2.one hs
    injection e with _ e2 _ e4
    exact decide_eq_true ⟨rfl, e2, rfl, e4⟩
theorem IkIs.eql {P R C mP mR mC : Int} {D L : List Int} (h : mxOk P R C D = true) (hs : SpIs P R C D ⟨mP, mR, mC, L⟩) : IkIs P R C D (decide (L = D)) := by
  unfold IkIs
  constructor
  · intro e
    have e := of_decide_eq_true e
    refine ⟨h, ?_⟩
    have hs2 := hs
    unfold SpIs at hs2
    rw [if_pos h] at hs2
    obtain ⟨n, M, q, _, _, e5⟩ := hs2
    injection e5 with e6 e7 e8 e9
    obtain ⟨r, c, rfl, rfl, _, hc0, _, hlD, _⟩ := mxOk_facts h
    have hl : n * c = r * c := by
      rw [← hlD, ← e, e9, flatM_length]
      simp
    have hn : n = r := Nat.eq_of_mul_eq_mul_right (by omega) hl
    rw [e6, e7, e8, e, hn] at hs
    exact hs
  · rintro ⟨_, h2⟩
    have e := h2.one hs
    injection e with _ _ _ e4
    exact decide_eq_true e4.symm

end Go.Proofs.Ytklpaannmdbmiaa

namespace Go.Proofs.Ytklpaannmdbmiaa
set_option linter.all false
open Go.RowKit

/-- it is a space -/
def IsSp (P R C : Int) (D : List Int) : Prop := mxOk P R C D = true ∧ SpIs P R C D ⟨P, R, C, D⟩
/-- two spaces that lie in one -/
def TwoIs (P R C : Int) (D : List Int) (P' R' C' : Int) (D' : List Int) : Prop := IsSp P R C D ∧ IsSp P' R' C' D' ∧ P = P' ∧ C = C'
def fitOk (P C P' C' : Int) : Bool := decide (P = P') && decide (C = C')

end Go.Proofs.Ytklpaannmdbmiaa

namespace Go.Proofs.Ytklpaannmdbmiaa
set_option linter.all false
open Go.RowKit


end Go.Proofs.Ytklpaannmdbmiaa

namespace Go.Proofs.Ytklpaannmdbmiaa
set_option linter.all false
open Go.RowKit

/-- a matrix and a bool that are known by a property, or none -/
def PrQ (Q : Mx → Bool → Prop) (x : Mx × Bool) : Prop := Q x.1 x.2 ∨ ((∀ m b, ¬ Q m b) ∧ x = (mxZero, false))
theorem PrQ.spec (Q : Mx → Bool → Prop) : PrQ Q (Classical.epsilon (PrQ Q)) := by
  refine Classical.epsilon_spec (p := PrQ Q) ?_
  by_cases h : ∃ m b, Q m b
  · obtain ⟨m, b, h⟩ := h
    exact ⟨(m, b), .inl h⟩
  · exact ⟨(mxZero, false), .inr ⟨fun m b hq => h ⟨m, b, hq⟩, rfl⟩⟩
theorem PrQ.eps {Q : Mx → Bool → Prop} {m : Mx} {b : Bool} (hone : ∀ m b m' b', Q m b → Q m' b' → m = m' ∧ b = b') (h : Q m b) : m = (Classical.epsilon (PrQ Q)).1 ∧ b = (Classical.epsilon (PrQ Q)).2 := by
  rcases PrQ.spec Q with h2 | ⟨h2, _⟩
  · exact hone _ _ _ _ h h2
  · exact absurd h (h2 m b)

/-- the reduced form of what rows span, as a matrix -/
def RowsIs (P : Int) (C R : Nat) (M0 : Nat → Nat → Int) (m : Mx) : Prop := ∃ (n : Nat) (M : Nat → Nat → Int) (q : Nat → Nat), IsRed P C R M0 n M q ∧ m = ⟨P, n, C, flatM n C M⟩
theorem RowsIs.one {P : Int} {C R : Nat} {M0 : Nat → Nat → Int} {m m' : Mx} (hP : 2 ≤ P) (h : RowsIs P C R M0 m) (h' : RowsIs P C R M0 m') : m = m' := by
  obtain ⟨n, M, q, h1, rfl⟩ := h
  obtain ⟨n', M', q', h1', rfl⟩ := h'
  obtain ⟨e1, _, e3⟩ := h1.one hP h1'
  subst e1
  rw [flatM_congr e3]
theorem RowsIs.len {P : Int} {C R : Nat} {M0 : Nat → Nat → Int} {m : Mx} (hC : C ≤ 14) (h : RowsIs P C R M0 m) : m.D.length ≤ 1000 := by
  obtain ⟨n, M, q, h1, rfl⟩ := h
  have a := asc_bound h1.2.1 h1.1.lt
  have b := Nat.mul_le_mul (Nat.le_trans a hC) hC
  show (flatM n C M).length ≤ 1000
  rw [flatM_length]
  omega
theorem RowsIs.same {P : Int} {C R R' : Nat} {M0 M1 : Nat → Nat → Int} {m : Mx} (h : RowsIs P C R M0 m) (hs : SameSp P C R' M1 R M0) : RowsIs P C R' M1 m := by
  obtain ⟨n, M, q, ⟨h1, h2, h3, h4⟩, rfl⟩ := h
  exact ⟨n, M, q, ⟨h1, h2, h3, hs.trans h4⟩, rfl⟩

/-- what SumSpaces returns -/
def SmIs (P R C : Int) (D : List Int) (P' R' C' : Int) (D' : List Int) (m : Mx) (ok : Bool) : Prop :=
  (TwoIs P R C D P' R' C' D' ∧ ok = true ∧ RowsIs P C.toNat (R.toNat + R'.toNat) (stackM R.toNat (mf C.toNat fun t => D.getD t 0) (mf C.toNat fun t => D'.getD t 0)) m) ∨ (¬ TwoIs P R C D P' R' C' D' ∧ ok = false ∧ m = mxZero)
theorem SmIs.one {P R C : Int} {D : List Int} {P' R' C' : Int} {D' : List Int} (m : Mx) (b : Bool) (m' : Mx) (b' : Bool) (h : SmIs P R C D P' R' C' D' m b) (h' : SmIs P R C D P' R' C' D' m' b') : m = m' ∧ b = b' := by
  rcases h with ⟨t, rfl, h⟩ | ⟨t, rfl, rfl⟩
  · rcases h' with ⟨_, rfl, h'⟩ | ⟨t', _, _⟩
    · obtain ⟨_, _, _, _, _, _, _, _, _, hP, _⟩ := mxOk_facts t.1.1
      exact ⟨h.one hP h', rfl⟩
    · exact absurd t t'
  · rcases h' with ⟨t', _, _⟩ | ⟨_, rfl, rfl⟩
    · exact absurd t' t
    · exact ⟨rfl, rfl⟩
theorem sum_len (P R C : Int) (D : List Int) (P' R' C' : Int) (D' : List Int) : (Classical.epsilon (PrQ (SmIs P R C D P' R' C' D'))).1.D.length ≤ 1000 := by
  rcases PrQ.spec (SmIs P R C D P' R' C' D') with h | ⟨_, h⟩
  · rcases h with ⟨t, _, h⟩ | ⟨_, _, h⟩
    · obtain ⟨r, c, _, rfl, _, _, hc, _⟩ := mxOk_facts t.1.1
      exact h.len (by simp; omega)
    · rw [h]; simp [mxZero]
  · rw [h]; simp [mxZero]

/-- what lies flat, one behind the other -/
theorem both_mf {C R R' : Nat} {D D' : List Int} (hl : D.length = R * C) {i c : Nat} (hi : i < R + R') (hc : c < C) :
    mf C (fun t => (D ++ D').getD t 0) i c = stackM R (mf C fun t => D.getD t 0) (mf C fun t => D'.getD t 0) i c := by
  unfold mf
  by_cases h : i < R
  · rw [stackM_lt h]
    have h1 : i * C + c < R * C := by
      have : (i + 1) * C ≤ R * C := Nat.mul_le_mul_right C h
      rw [Nat.succ_mul] at this
      omega
    simp [List.getD_eq_getElem?_getD, List.getElem?_append_left (show i * C + c < D.length by omega)]
  · rw [stackM_ge h]
    obtain ⟨k, rfl⟩ : ∃ k, i = R + k := ⟨i - R, by omega⟩
    have e : (R + k) * C + c - R * C = (R + k - R) * C + c := by rw [Nat.add_mul, Nat.add_sub_cancel_left]; omega
    simp only [List.getD_eq_getElem?_getD]
    rw [List.getElem?_append_right (by rw [hl, Nat.add_mul]; omega), hl, e]
theorem both_rng {P : Int} {D D' : List Int} (hP : 0 < P) (h : ∀ t, 0 ≤ D.getD t 0 ∧ D.getD t 0 < P) (h' : ∀ t, 0 ≤ D'.getD t 0 ∧ D'.getD t 0 < P) (t : Nat) : 0 ≤ (D ++ D').getD t 0 ∧ (D ++ D').getD t 0 < P := by
  by_cases e : t < D.length
  · rw [List.getD_eq_getElem?_getD, List.getElem?_append_left e, ← List.getD_eq_getElem?_getD]; exact h t
  · rw [List.getD_eq_getElem?_getD, List.getElem?_append_right (by omega), ← List.getD_eq_getElem?_getD]; exact h' _
theorem getD_app_lt {a b : List (List Int)} {i : Nat} (h : i < a.length) : (a ++ b).getD i [] = a.getD i [] := by simp [List.getD_eq_getElem?_getD, List.getElem?_append_left h]
theorem getD_app_ge {a b : List (List Int)} {i : Nat} (h : ¬ i < a.length) : (a ++ b).getD i [] = b.getD (i - a.length) [] := by simp [List.getD_eq_getElem?_getD, List.getElem?_append_right (Nat.le_of_not_lt h)]
/-- rows behind rows -/
theorem rowsOf_join {P : Int} {R R' C : Nat} {D D' : List Int} : SameSp P C (R + R') (stackM R (mf C fun t => D.getD t 0) (mf C fun t => D'.getD t 0)) (rowsOf R C D ++ rowsOf R' C D').length (mt (rowsOf R C D ++ rowsOf R' C D')) := by
  rw [List.length_append, rowsOf_length, rowsOf_length]
  refine SameSp.of_eqv fun i hi => .of_eq fun c hc => ?_
  unfold mt
  by_cases h : i < R
  · rw [stackM_lt h, getD_app_lt (by rw [rowsOf_length]; exact h), rowsOf_getD h, rowAt_getD hc]
    rfl
  · rw [stackM_ge h, getD_app_ge (by rw [rowsOf_length]; exact h), rowsOf_length, rowsOf_getD (by omega), rowAt_getD hc]
    rfl
theorem RowsOk.join {p : Int} {C : Nat} {a b : List (List Int)} (ha : RowsOk p C a) (hb : RowsOk p C b) : RowsOk p C (a ++ b) := fun i hi => by
  by_cases h : i < a.length
  · rw [getD_app_lt h]; exact ha i h
  · rw [List.length_append] at hi
    rw [getD_app_ge h]; exact hb _ (by omega)


end Go.Proofs.Ytklpaannmdbmiaa

namespace Go.Proofs.Ytklpaannmdbmiaa
set_option linter.all false
open Go.RowKit

theorem run_append_make_own {P : Program} (w : World) (base : Nat) (t ti ty e : TypeId) (z : Value) (bytes : Nat) (ht : P.underlying t = some (.slice e)) (hti : P.underlying ti = some (.int .i64))
    (hinfo : (P.info? e).map (fun i => (i.zero, i.size, i.bytes)) = some (some z, 1, bytes)) (hzs : z.cells.size = 1) (hz1 : ∀ u ∈ z.cells.toList, u.oneCell' = true) (hb : bytes ≤ 1000) (hb0 : 0 < bytes)
    (v : Value) (n : Nat) (xs : List Value) (hown : w.ownsRow base e 1 v n xs) (m : Nat) (hm0 : 0 < m) (hnm : n + m ≤ 1000000) (hbase : base ≤ w.heap.size) :
    ∃ v' w', (Builtin.append_ #[t, ti] ty #[v, .int .i64 (m : Int)]).run P w = .ok v' w' ∧ w'.ownsRow base e 1 v' (n + m) (xs ++ (Builtin.zeroCells z.cells m).toList) ∧ w.grownBy w' v.ownBlock ∧
      (∀ b, v'.ownBlock = some b → v.ownBlock = some b ∨ w.heap.size ≤ b) := by
  obtain ⟨i, hi, hz, hsz, hby⟩ := info_parts hinfo
  have hlen : (xs ++ (Builtin.zeroCells z.cells m).toList).length = (n + m) * 1 := by
    rw [List.length_append, hown.1, Array.length_toList, size_zeroCells, hzs]; omega
  have hzl : (Builtin.zeroCells z.cells m).toList.length = m := by rw [Array.length_toList, size_zeroCells, hzs]; omega
  have hwr : IntKind.i64.wrap (m : Int) = (m : Int) := k64 (by omega) (by omega)
  have hmb : m * bytes ≤ 1000000 * 1000 := Nat.mul_le_mul (by omega) hb
  have h1 : ¬ ((m : Int) < 0) := by omega
  have hm : m ≠ 0 := by omega
  have h4 : ¬ (281474976710656 < (m : Int) * (i.bytes : Int)) := by
    rw [hby]
    have : ((m * bytes : Nat) : Int) = (m : Int) * (bytes : Int) := Int.natCast_mul _ _
    omega
  rcases hown.2 with ⟨rfl, rfl⟩ | ⟨g, cap, cur, rfl, hbg, hg, hnc, hcm, hcs, htake⟩
  · have hx : xs = [] := List.eq_nil_of_length_eq_zero (by simpa using hown.1)
    subst hx
    have hge := grownCap_ge w m 0 e
    have hle := grownCap_le_maxLen w m 0 e (by unfold maxLen; omega)
    have h3 : ¬ (281474976710656 < Builtin.nextslicecap m 0 * i.bytes) := by rw [nextslicecap_zero (by omega), hby]; omega
    have h5 : ¬ (9223372036854775807 < (m : Int)) := by omega
    refine ⟨.slice (some ⟨w.heap.size, 0, none⟩) m (grownCap w m 0 e), w.drew.alloc (.cells (Builtin.zeroCells z.cells m ++ Builtin.zeroCells z.cells (grownCap w m 0 e - m)) e), ?_, ?_, ?_, fun b hb => .inr ?_⟩
    · simp [Builtin.append_, run_underlying ht, run_underlying hti, sizeOf, typeInfo, zeroValue, hi, hz, hsz, Builtin.firstCells, asInt, asIntOf, hwr, h1, h3, h4, h5, hm, Question.forced, newRow, grownCap, loadCells, loadCellsFrom]
    · rw [Nat.zero_add] at hlen ⊢
      refine ⟨hlen, .inr ⟨w.heap.size, _, _, rfl, hbase, heap_alloc_new w.drew _, hge, hle, ?_, ?_⟩⟩
      · simp only [Array.size_append, size_zeroCells, hzs]; omega
      · simp only [Array.toList_append, List.nil_append]
        rw [List.take_left' (by rw [hzl]; omega)]
    · exact ⟨rfl, rfl, rfl, by simp, fun k hk _ => heap_alloc_old w.drew _ hk⟩
    · simp only [Value.ownBlock, Option.some.injEq] at hb; omega
  · have hnews1 : ∀ u ∈ (Builtin.zeroCells z.cells m).toList, u.oneCell' = true := fun u hu => by
      rw [Array.mem_toList_iff] at hu
      simp only [Builtin.zeroCells, Array.mem_map, Array.mem_range] at hu
      obtain ⟨k, hk, rfl⟩ := hu
      rw [hzs, Nat.mod_one]
      have h0 : 0 < z.cells.size := by omega
      rw [getElem!_pos z.cells 0 h0]
      exact hz1 _ (Array.mem_toList_iff.2 (Array.getElem_mem _))
    by_cases hroom : n + m ≤ cap
    · have hfit : n * 1 + (Builtin.zeroCells z.cells m).toList.length ≤ cur.size := by rw [hzl, hcs]; omega
      have hst := run_storeCells_at P g (n * 1) e (Builtin.zeroCells z.cells m).toList 0 cur w hg (by simpa using hfit) hnews1
      simp only [Nat.add_zero, Nat.mul_one] at hst hfit
      refine ⟨.slice (some ⟨g, 0, none⟩) (n + m) cap, w.setRow g (cur.toList.take n ++ (Builtin.zeroCells z.cells m).toList ++ cur.toList.drop (n + (Builtin.zeroCells z.cells m).toList.length)).toArray, ?_, ?_, ?_, fun b hb => .inl hb⟩
      · simp [Builtin.append_, run_underlying ht, run_underlying hti, sizeOf, typeInfo, zeroValue, hi, hz, hsz, asInt, asIntOf, hwr, h1, h4, hm, hroom, Addr.add_lit, hst]
      · refine ⟨hlen, .inr ⟨g, cap, _, rfl, hbg, setRow_heap w g cur _ e _ hg, hroom, hcm, ?_, ?_⟩⟩
        · simp only [List.size_toArray, List.length_append, List.length_take, List.length_drop, Array.length_toList] at *
          omega
        · rw [Nat.mul_one] at htake
          rw [htake, ← hlen]
          exact List.take_left
      · exact ⟨rfl, rfl, rfl, by simp, fun k _ hk => setRow_other w g k _ (fun e => hk (by simp [Value.ownBlock, e]))⟩
    · have holds : ∀ j u, xs[j]? = some u → w.cell? ((⟨g, 0, none⟩ : Addr).add j) = some u := hown.cells (g := g) rfl
      have hge := grownCap_ge w (n + m) cap e
      have hle := grownCap_le_maxLen w (n + m) cap e (by unfold maxLen; omega)
      have hfo := run_firstCells_some (P := P) w.drew 1 n ⟨g, 0, none⟩ n cap xs hown.1 (by simpa using holds)
      have h3 : ¬ (281474976710656 < Builtin.nextslicecap (n + m) cap * i.bytes) := by
        have := growslice_fits (need := n + m) (old := cap) (bytes := i.bytes) (by omega) (by rw [hby]; have := Nat.mul_le_mul hnm hb; omega)
        omega
      have h5 : ¬ (9223372036854775807 < (n : Int) + (m : Int)) := by omega
      refine ⟨.slice (some ⟨w.heap.size, 0, none⟩) (n + m) (grownCap w (n + m) cap e), w.drew.alloc (.cells (xs.toArray ++ Builtin.zeroCells z.cells m ++ Builtin.zeroCells z.cells (grownCap w (n + m) cap e - (n + m))) e), ?_, ?_, ?_, fun b hb => .inr ?_⟩
      · simp [Builtin.append_, run_underlying ht, run_underlying hti, sizeOf, typeInfo, zeroValue, hi, hz, hsz, asInt, asIntOf, hwr, h1, h3, h4, h5, hm, hroom, Question.forced, hfo, newRow, grownCap]
      · refine ⟨hlen, .inr ⟨w.heap.size, _, _, rfl, hbase, heap_alloc_new w.drew _, hge, hle, ?_, ?_⟩⟩
        · have := hown.1
          simp only [Array.size_append, List.size_toArray, size_zeroCells, hzs]; omega
        · simp only [Array.toList_append, List.append_assoc]
          rw [← List.append_assoc, ← hlen]
          exact List.take_left
      · exact ⟨rfl, rfl, rfl, by simp, fun k hk _ => heap_alloc_old w.drew _ hk⟩
      · simp only [Value.ownBlock, Option.some.injEq] at hb; omega

theorem zeroCells_get {z : Value} (hzs : z.cells.size = 1) {m j : Nat} (hj : j < m) : (Builtin.zeroCells z.cells m).toList[j]? = some (z.cells[0]!) := by
  simp [Builtin.zeroCells, hzs, hj, Nat.mod_one]
/-- .. the content said by the index -/
theorem run_append_make_F {P : Program} (w : World) (t ti ty e : TypeId) (z : Value) (bytes : Nat) (ht : P.underlying t = some (.slice e)) (hti : P.underlying ti = some (.int .i64))
    (hinfo : (P.info? e).map (fun i => (i.zero, i.size, i.bytes)) = some (some z, 1, bytes)) (hzs : z.cells.size = 1) (hz1 : ∀ u ∈ z.cells.toList, u.oneCell' = true) (hb : bytes ≤ 1000) (hb0 : 0 < bytes)
    (lo hi' : Nat) (v : Value) (n : Nat) (f : Nat → Value) (hown : OwnF w lo hi' e v n f) (hlo : lo ≤ w.heap.size) (hhi : hi' ≤ w.heap.size) (m : Nat) (hm0 : 0 < m) (hnm : n + m ≤ 1000000) :
    ∃ v' w', (Builtin.append_ #[t, ti] ty #[v, .int .i64 (m : Int)]).run P w = .ok v' w' ∧ OwnF w' lo w'.heap.size e v' (n + m) (fun j => if j < n then f j else z.cells[0]!) ∧ w.grownBy w' v.ownBlock ∧
      (∀ b, v'.ownBlock = some b → v.ownBlock = some b ∨ w.heap.size ≤ b) := by
  obtain ⟨xs, ho, hf⟩ := hown
  obtain ⟨v', w', hr, h2, h3, h4⟩ := run_append_make_own (P := P) w lo t ti ty e z bytes ht hti hinfo hzs hz1 hb hb0 v n xs ho.1 m hm0 hnm hlo
  refine ⟨v', w', hr, ⟨_, Own.of_row h2, fun j hj => ?_⟩, h3, h4⟩
  have hl : xs.length = n := by have := ho.len; omega
  by_cases h : j < n
  · simp only [h, if_true]
    rw [List.getElem?_append_left (by omega), hf j h]
  · simp only [h, if_false]
    rw [List.getElem?_append_right (by omega), hl]
    exact zeroCells_get hzs (by omega)
theorem wpList_append_make_F {P : Program} {w : World} {ops : Array Oper} {rest : List Oper} {o : Oper} {a : Act} {Q : Exit → Act → World → Prop} (hgd : o.guard = none) (s x : Operand) (t ti : TypeId)
    (ho : o.op = .call { callee := .builtin .append, args := #[s, x], argTypes := #[t, ti] })
    (e : TypeId) (z : Value) (bytes : Nat) (ht : P.underlying t = some (.slice e)) (hti : P.underlying ti = some (.int .i64))
    (hinfo : (P.info? e).map (fun i => (i.zero, i.size, i.bytes)) = some (some z, 1, bytes)) (hzs : z.cells.size = 1) (hz1 : ∀ u ∈ z.cells.toList, u.oneCell' = true) (hb : bytes ≤ 1000) (hb0 : 0 < bytes)
    (lo hi' : Nat) (v : Value) (n : Nat) (f : Nat → Value) (hs : a.eval s = v) (hown : OwnF w lo hi' e v n f) (hlo : lo ≤ w.heap.size) (hhi : hi' ≤ w.heap.size) (m : Nat) (hx : a.eval x = .int .i64 (m : Int)) (hm0 : 0 < m) (hnm : n + m ≤ 1000000)
    (h : ∀ v' w', OwnF w' lo w'.heap.size e v' (n + m) (fun j => if j < n then f j else z.cells[0]!) → w.grownBy w' v.ownBlock → (∀ b, v'.ownBlock = some b → v.ownBlock = some b ∨ w.heap.size ≤ b) → wpList P ops Q rest (a.put o.dst v') w') :
    wpList P ops Q (o :: rest) a w := by
  refine wpList_plain hgd fun K hK' => ?_
  obtain ⟨v', w', hr, h2, h3, h4⟩ := run_append_make_F (P := P) w t ti o.type e z bytes ht hti hinfo hzs hz1 hb hb0 lo hi' v n f hown hlo hhi m hm0 hnm
  unfold Oper.wp
  simp [execOp, ho, resolve, invoke, builtin, hs, hx, hr, Result.andThen]
  exact hK' _ _ (h v' w' h2 h3 h4)
theorem step_append_make_F {P : Program} {w : World} {ops : Array Oper} {o : Oper} {a : Act} {K : Act → World → Prop} {Q : Exit → Act → World → Prop} {E : Prop} (hgd : o.guard = none) (s x : Operand) (t ti : TypeId)
    (ho : o.op = .call { callee := .builtin .append, args := #[s, x], argTypes := #[t, ti] })
    (e : TypeId) (z : Value) (bytes : Nat) (ht : P.underlying t = some (.slice e)) (hti : P.underlying ti = some (.int .i64))
    (hinfo : (P.info? e).map (fun i => (i.zero, i.size, i.bytes)) = some (some z, 1, bytes)) (hzs : z.cells.size = 1) (hz1 : ∀ u ∈ z.cells.toList, u.oneCell' = true) (hb : bytes ≤ 1000) (hb0 : 0 < bytes)
    (lo hi' : Nat) (v : Value) (n : Nat) (f : Nat → Value) (hs : a.eval s = v) (hown : OwnF w lo hi' e v n f) (hlo : lo ≤ w.heap.size) (hhi : hi' ≤ w.heap.size) (m : Nat) (hx : a.eval x = .int .i64 (m : Int)) (hm0 : 0 < m) (hnm : n + m ≤ 1000000)
    (h : ∀ v' w', OwnF w' lo w'.heap.size e v' (n + m) (fun j => if j < n then f j else z.cells[0]!) → w.grownBy w' v.ownBlock → (∀ b, v'.ownBlock = some b → v.ownBlock = some b ∨ w.heap.size ≤ b) → K (a.put o.dst v') w') :
    if Region.wanted o (yielded ops a.tmps) = true then Oper.wp P o a w K Q else E := by
  have hw : Region.wanted o (yielded ops a.tmps) = true := by simp [Region.wanted, hgd]
  rw [if_pos hw]
  obtain ⟨v', w', hr, h2, h3, h4⟩ := run_append_make_F (P := P) w t ti o.type e z bytes ht hti hinfo hzs hz1 hb hb0 lo hi' v n f hown hlo hhi m hm0 hnm
  unfold Oper.wp
  simp [execOp, ho, resolve, invoke, builtin, hs, hx, hr, Result.andThen]
  exact h v' w' h2 h3 h4

end Go.Proofs.Ytklpaannmdbmiaa

namespace Go.Proofs.Ytklpaannmdbmiaa
set_option linter.all false
open Go.RowKit

/-- the first i rows of a corner of b columns -/
def cornL (c b : Nat) (D : List Int) (i : Nat) : List Int := (List.range (i * b)).map fun t => D.getD ((t / b) * c + t % b) 0
theorem cornL_length (c b : Nat) (D : List Int) (i : Nat) : (cornL c b D i).length = i * b := by simp [cornL]
theorem cornL_getD {c b : Nat} {D : List Int} {i k j : Nat} (hk : k < i) (hj : j < b) : (cornL c b D i).getD (k * b + j) 0 = D.getD (k * c + j) 0 := by
  have h := mul_le_of (C := b) hk
  rw [Nat.add_mul, Nat.one_mul] at h
  obtain ⟨d1, d2⟩ := div_at (k := k) hj
  simp [cornL, List.getD_eq_getElem?_getD, show k * b + j < i * b by omega, d1, d2]

theorem cornL_mono {c b : Nat} {D : List Int} {i t : Nat} (h : t < i * b) : (cornL c b D i).getD t 0 = (cornL c b D (i + 1)).getD t 0 := by
  have h2 : t < (i + 1) * b := by rw [Nat.add_mul]; omega
  simp [cornL, List.getD_eq_getElem?_getD, h, h2]
theorem own_box {w : World} {lo hi : Nat} {Ti T : TypeId} {v : Value} {n b : Nat} {f : Nat → Value} {cs : Array Value} (h : OwnF w lo hi Ti v n f) (hz : w.heap[b]? = some (.cells cs T (0, 0))) (hT : Ti ≠ T) : v.ownBlock ≠ some b := by
  intro hv
  obtain ⟨zs, hz', _⟩ := h
  rcases Own.row hz' with ⟨e1, _⟩ | ⟨g, cap', F, e1, _, _, _, _, hr, _⟩
  · rw [e1] at hv; simp [Value.ownBlock] at hv
  · rw [e1] at hv
    simp only [Value.ownBlock, Option.some.injEq] at hv
    subst hv
    obtain ⟨c, hc, _⟩ := hr
    rw [hz] at hc
    injection hc with hc
    injection hc with _ hc
    exact hT hc.symm

theorem oper_append_F {P : Program} {w : World} {o : Oper} {a : Act} {K : Act → World → Prop} {Q : Exit → Act → World → Prop} (s x : Operand) (t : TypeId)
    (ho : o.op = .call { callee := .builtin .append, args := #[s, x], argTypes := #[t, t] })
    (e : TypeId) (z : Value) (bytes : Nat) (ht : P.underlying t = some (.slice e)) (hinfo : (P.info? e).map (fun i => (i.zero, i.size, i.bytes)) = some (some z, 1, bytes)) (hzs : z.cells.size = 1)
    (lo hi' : Nat) (v : Value) (n : Nat) (f : Nat → Value) (hs : a.eval s = v) (hown : OwnF w lo hi' e v n f) (hlo : lo ≤ w.heap.size) (hhi : hi' ≤ w.heap.size)
    (u : Value) (m : Nat) (g : Nat → Value) (hxu : a.eval x = u) (hx : Rd w u m g) (h1 : ∀ j, j < m → (g j).oneCell' = true) (h63 : n + m ≤ maxLen) (hbytes : (n + m) * bytes ≤ 140737488355328)
    (h : ∀ v' w', OwnF w' lo w'.heap.size e v' (n + m) (fun j => if j < n then f j else g (j - n)) → w.grownBy w' v.ownBlock → K (a.put o.dst v') w') :
    Oper.wp P o a w K Q := by
  obtain ⟨i, hi, hz, hsz, hby⟩ := info_parts hinfo
  obtain ⟨v', w', hr, h2, h3⟩ := run_append_F (P := P) w t o.type e i z bytes ht hi hz hsz hby hzs lo hi' v n f hown hlo hhi u m g hx h1 h63 hbytes
  unfold Oper.wp
  simp [execOp, ho, resolve, invoke, builtin, hs, hxu, hr, Result.andThen]
  exact h v' w' h2 h3

/-- what CornerRank returns -/
def CkIs (P R C : Int) (D : List Int) (a b r : Int) : Prop :=
  if mxOk P R C D = true ∧ (0 ≤ a ∧ a ≤ R) ∧ (0 ≤ b ∧ b ≤ C) then ∃ n : Nat, r = n ∧ HasRank P b.toNat a.toNat (mf C.toNat fun t => D.getD t 0) n else r = -1
theorem CkIs.one {P R C : Int} {D : List Int} {a b r r' : Int} (h : CkIs P R C D a b r) (h' : CkIs P R C D a b r') : r = r' := by
  unfold CkIs at h h'
  by_cases e : mxOk P R C D = true ∧ (0 ≤ a ∧ a ≤ R) ∧ (0 ≤ b ∧ b ≤ C)
  · rw [if_pos e] at h h'
    obtain ⟨n, rfl, h⟩ := h
    obtain ⟨n', rfl, h'⟩ := h'
    obtain ⟨_, _, _, _, _, _, _, _, _, hP, _⟩ := mxOk_facts e.1
    rw [h.one hP h']
  · rw [if_neg e] at h h'
    omega
theorem CkIs.eps {P R C : Int} {D : List Int} {a b r : Int} (h : CkIs P R C D a b r) : r = Classical.epsilon (CkIs P R C D a b) := h.one (Classical.epsilon_spec ⟨r, h⟩)
theorem CkIs.no {P R C : Int} {D : List Int} {a b : Int} (h : ¬ (mxOk P R C D = true ∧ (0 ≤ a ∧ a ≤ R) ∧ (0 ≤ b ∧ b ≤ C))) : CkIs P R C D a b (-1) := by
  unfold CkIs; rw [if_neg h]
theorem CkIs.yes {P : Int} {r c a b n : Nat} {D : List Int} (h : mxOk P r c D = true) (ha : a ≤ r) (hb : b ≤ c) (hn : HasRank P b a (mf c fun t => D.getD t 0) n) : CkIs P r c D a b n := by
  unfold CkIs
  rw [if_pos ⟨h, ⟨by omega, by omega⟩, ⟨by omega, by omega⟩⟩]
  exact ⟨n, rfl, hn⟩

end Go.Proofs.Ytklpaannmdbmiaa

namespace Go.Proofs.Ytklpaannmdbmiaa
set_option linter.all false
open Go.RowKit

/-- rows (x, x) of one, and (y, 0) of the other one -/
def mtM (c ra : Nat) (A B : Nat → Nat → Int) : Nat → Nat → Int := stackM ra (fun i j => if j < c then A i j else A i (j - c)) (fun i j => if j < c then B i j else 0)
/-- the rows that begin in the second half -/
def keptL (n c : Nat) (q : Nat → Nat) : List Nat := (List.range n).filter fun i => decide (c ≤ q i)
def keptM (c : Nat) (M : Nat → Nat → Int) (l : List Nat) (t j : Nat) : Int := M (l.getD t 0) (c + j)
/-- what is in common -/
def MtIs (P : Int) (c ra rb : Nat) (A B : Nat → Nat → Int) (m : Mx) : Prop :=
  ∃ n M q, IsRed P (2 * c) (ra + rb) (mtM c ra A B) n M q ∧ RowsIs P c (keptL n c q).length (keptM c M (keptL n c q)) m
theorem keptL_lt {n c t : Nat} {q : Nat → Nat} (h : t < (keptL n c q).length) : (keptL n c q).getD t 0 < n := by
  have : (keptL n c q).getD t 0 ∈ keptL n c q := by
    rw [List.getD_eq_getElem?_getD, List.getElem?_eq_getElem h]; exact List.getElem_mem _
  have := (List.mem_filter.1 this).1
  simpa using this
theorem keptL_congr {n c : Nat} {q q' : Nat → Nat} (h : ∀ i, i < n → q i = q' i) : keptL n c q = keptL n c q' := by
  unfold keptL
  refine List.filter_congr fun i hi => ?_
  rw [h i (by simpa using hi)]
theorem keptL_succ (n c : Nat) (q : Nat → Nat) : keptL (n + 1) c q = keptL n c q ++ (if c ≤ q n then [n] else []) := by
  unfold keptL
  rw [List.range_succ, List.filter_append]
  by_cases h : c ≤ q n <;> simp [h]
theorem keptL_le (n c : Nat) (q : Nat → Nat) : (keptL n c q).length ≤ n := by
  unfold keptL
  have := List.length_filter_le (fun i => decide (c ≤ q i)) (List.range n)
  simpa using this
theorem MtIs.one {P : Int} {c ra rb : Nat} {A B : Nat → Nat → Int} {m m' : Mx} (hP : 2 ≤ P) (h : MtIs P c ra rb A B m) (h' : MtIs P c ra rb A B m') : m = m' := by
  obtain ⟨n, M, q, h1, h2⟩ := h
  obtain ⟨n', M', q', h1', h2'⟩ := h'
  obtain ⟨e1, e2, e3⟩ := h1.one hP h1'
  subst e1
  rw [← keptL_congr e2] at h2'
  refine h2.one hP (h2'.same (SameSp.of_eqv fun t ht => .of_eq fun j hj => ?_))
  unfold keptM
  exact e3 _ _ (keptL_lt ht) (by omega)

/-- what MeetSpaces returns -/
def MeIs (P R C : Int) (D : List Int) (P' R' C' : Int) (D' : List Int) (m : Mx) (ok : Bool) : Prop :=
  (TwoIs P R C D P' R' C' D' ∧ ok = true ∧ MtIs P C.toNat R.toNat R'.toNat (mf C.toNat fun t => D.getD t 0) (mf C.toNat fun t => D'.getD t 0) m) ∨ (¬ TwoIs P R C D P' R' C' D' ∧ ok = false ∧ m = mxZero)
theorem MeIs.one {P R C : Int} {D : List Int} {P' R' C' : Int} {D' : List Int} (m : Mx) (b : Bool) (m' : Mx) (b' : Bool) (h : MeIs P R C D P' R' C' D' m b) (h' : MeIs P R C D P' R' C' D' m' b') : m = m' ∧ b = b' := by
  rcases h with ⟨t, rfl, h⟩ | ⟨t, rfl, rfl⟩
  · rcases h' with ⟨_, rfl, h'⟩ | ⟨t', _, _⟩
    · obtain ⟨_, _, _, _, _, _, _, _, _, hP, _⟩ := mxOk_facts t.1.1
      exact ⟨h.one hP h', rfl⟩
    · exact absurd t t'
  · rcases h' with ⟨t', _, _⟩ | ⟨_, rfl, rfl⟩
    · exact absurd t' t
    · exact ⟨rfl, rfl⟩
theorem meet_len (P R C : Int) (D : List Int) (P' R' C' : Int) (D' : List Int) : (Classical.epsilon (PrQ (MeIs P R C D P' R' C' D'))).1.D.length ≤ 1000 := by
  rcases PrQ.spec (MeIs P R C D P' R' C' D') with h | ⟨_, h⟩
  · rcases h with ⟨t, _, n, M, q, _, h⟩ | ⟨_, _, h⟩
    · obtain ⟨r, c, _, rfl, _, _, hc, _⟩ := mxOk_facts t.1.1
      exact h.len (by simp; omega)
    · rw [h]; simp [mxZero]
  · rw [h]; simp [mxZero]

theorem flat_ltW {n C i c : Nat} (hi : i < n) (hc : c < C) : i * C + c < n * C := by
  have : (i + 1) * C ≤ n * C := Nat.mul_le_mul_right C hi
  rw [Nat.succ_mul] at this
  omega
/-- rows of one width, one behind the other -/
def rowsF (k : Nat) (f : Nat → List Int) : List Int := (List.range k).flatMap f
theorem rowsF_succ (k : Nat) (f : Nat → List Int) : rowsF (k + 1) f = rowsF k f ++ f k := by
  unfold rowsF
  rw [List.range_succ, List.flatMap_append]; simp
theorem rowsF_length {k W : Nat} {f : Nat → List Int} (h : ∀ i, i < k → (f i).length = W) : (rowsF k f).length = k * W := by
  induction k with
  | zero => simp [rowsF]
  | succ k ih => rw [rowsF_succ, List.length_append, ih fun i hi => h i (by omega), h k (by omega), Nat.succ_mul]
theorem rowsF_getD {k W : Nat} {f : Nat → List Int} (h : ∀ i, i < k → (f i).length = W) {i j : Nat} (hi : i < k) (hj : j < W) : (rowsF k f).getD (i * W + j) 0 = (f i).getD j 0 := by
  induction k with
  | zero => omega
  | succ k ih =>
    have hl := rowsF_length (k := k) (fun i hi => h i (by omega))
    rw [rowsF_succ]
    by_cases e : i < k
    · have := flat_ltW e hj
      rw [List.getD_eq_getElem?_getD, List.getElem?_append_left (by omega), ← List.getD_eq_getElem?_getD]
      exact ih (fun i hi => h i (by omega)) e
    · obtain rfl : i = k := by omega
      rw [List.getD_eq_getElem?_getD, List.getElem?_append_right (by omega), ← List.getD_eq_getElem?_getD, hl, Nat.add_sub_cancel_left]

end Go.Proofs.Ytklpaannmdbmiaa
