/-
  What MeetSpaces computes is what is in both spaces, and the dimensions add up (plain law; no program in sight).
-/
import Derived.Test.YtmnlpkmnbjoicaaLin
import Derived.Test.YtmnlpkmnbjoicaaMeetP
namespace Go.Proofs.Ytmnlpkmnbjoicaa
set_option linter.all false

/-- the rows that begin in the second half are the last ones -/
theorem kept_last (c : Nat) (q : Nat → Nat) : ∀ n, (∀ i k, i < k → k < n → q i < q k) → ∃ n1 n2, n = n1 + n2 ∧ (keptL n c q).length = n2 ∧ (∀ t, t < n2 → (keptL n c q).getD t 0 = n1 + t) ∧ (∀ i, i < n1 → q i < c) ∧ ∀ i, n1 ≤ i → i < n → c ≤ q i := by
  intro n
  induction n with
  | zero => exact fun _ => ⟨0, 0, rfl, rfl, fun t h => absurd h (Nat.not_lt_zero _), fun t h => absurd h (Nat.not_lt_zero _), fun i _ h => absurd h (Nat.not_lt_zero _)⟩
  | succ n ih =>
    intro ha
    obtain ⟨n1, n2, e, h1, h2, h3, h4⟩ := ih fun i k hik hk => ha i k hik (by omega)
    by_cases hq : c ≤ q n
    · have ek : keptL (n + 1) c q = keptL n c q ++ [n] := by rw [keptL_succ, if_pos hq]
      refine ⟨n1, n2 + 1, by omega, by rw [ek, List.length_append, h1]; rfl, fun t ht => ?_, h3, fun i hi hn => ?_⟩
      · rw [ek]
        by_cases et : t < n2
        · rw [List.getD_eq_getElem?_getD, List.getElem?_append_left (by omega), ← List.getD_eq_getElem?_getD]
          exact h2 t et
        · obtain rfl : t = n2 := by omega
          rw [List.getD_eq_getElem?_getD, List.getElem?_append_right (by omega), h1]
          simp; omega
      · by_cases ei : i < n
        · exact h4 i hi ei
        · obtain rfl : i = n := by omega
          exact hq
    · have ek : keptL (n + 1) c q = keptL n c q := by rw [keptL_succ, if_neg hq, List.append_nil]
      have h0 : n2 = 0 := by
        rcases Nat.eq_zero_or_pos n2 with e0 | e0
        · exact e0
        · have a := h4 (n - 1) (by omega) (by omega)
          have b := ha (n - 1) n (by omega) (by omega)
          omega
      subst h0
      refine ⟨n1 + 1, 0, by omega, by rw [ek]; exact h1, fun t h => absurd h (Nat.not_lt_zero _), fun i hi => ?_, fun i hi hn => by omega⟩
      by_cases ei : i < n1
      · exact h3 i ei
      · rw [show i = n by omega]; omega

variable {P : Int} {c ra rb : Nat} {A B : Nat → Nat → Int}

theorem mtM_A {i j : Nat} (hi : i < ra) (hj : j < c) : mtM c ra A B i j = A i j ∧ mtM c ra A B i (c + j) = A i j := by
  unfold mtM
  rw [stackM_lt hi]
  exact ⟨by simp [hj], by simp [show ¬ c + j < c by omega]⟩
theorem mtM_B {i j : Nat} (hi : ¬ i < ra) (hj : j < c) : mtM c ra A B i j = B (i - ra) j ∧ mtM c ra A B i (c + j) = 0 := by
  unfold mtM
  rw [stackM_ge hi]
  exact ⟨by simp [hj], by simp [show ¬ c + j < c by omega]⟩
/-- what (x + y, x) is -/
theorem mt_parts {v : Nat → Int} (h : Sp P (2 * c) (ra + rb) (mtM c ra A B) v) : ∃ x y, Sp P c ra A x ∧ Sp P c rb B y ∧ (∀ j, j < c → P ∣ v j - (x j + y j)) ∧ ∀ j, j < c → P ∣ v (c + j) - x j := by
  induction h with
  | zero => exact ⟨fun _ => 0, fun _ => 0, .zero, .zero, fun j _ => by simp, fun j _ => by simp⟩
  | @add v a i hi _ ih =>
    obtain ⟨x, y, h1, h2, h3, h4⟩ := ih
    by_cases e : i < ra
    · refine ⟨fun j => x j + a * A i j, y, .add a i e h1, h2, fun j hj => ?_, fun j hj => ?_⟩
      · show P ∣ v j + a * mtM c ra A B i j - (x j + a * A i j + y j)
        rw [(mtM_A e hj).1]
        have := h3 j hj
        rwa [show ∀ v x y t : Int, v + t - (x + t + y) = v - (x + y) by intros; omega]
      · show P ∣ v (c + j) + a * mtM c ra A B i (c + j) - (x j + a * A i j)
        rw [(mtM_A e hj).2]
        have := h4 j hj
        rwa [show ∀ v x t : Int, v + t - (x + t) = v - x by intros; omega]
    · refine ⟨x, fun j => y j + a * B (i - ra) j, h1, .add a _ (by omega) h2, fun j hj => ?_, fun j hj => ?_⟩
      · show P ∣ v j + a * mtM c ra A B i j - (x j + (y j + a * B (i - ra) j))
        rw [(mtM_B e hj).1]
        have := h3 j hj
        rwa [show ∀ v x y t : Int, v + t - (x + (y + t)) = v - (x + y) by intros; omega]
      · show P ∣ v (c + j) + a * mtM c ra A B i (c + j) - x j
        rw [(mtM_B e hj).2, Int.mul_zero, Int.add_zero]
        exact h4 j hj
  | eqv _ e ih =>
    obtain ⟨x, y, h1, h2, h3, h4⟩ := ih
    refine ⟨x, y, h1, h2, fun j hj => ?_, fun j hj => ?_⟩
    · have := Int.dvd_sub (h3 j hj) (e j (by omega))
      rwa [show ∀ u v t : Int, u - t - (u - v) = v - t by intros; omega] at this
    · have := Int.dvd_sub (h4 j hj) (e (c + j) (by omega))
      rwa [show ∀ u v t : Int, u - t - (u - v) = v - t by intros; omega] at this
theorem mt_indep (hA : Indep P c ra A) (hB : Indep P c rb B) : Indep P (2 * c) (ra + rb) (mtM c ra A B) := fun d hd => by
  have h1 : ∀ i, i < ra → P ∣ d i := hA d fun j hj => by
    have := hd (c + j) (by omega)
    rw [sm_split, sm_congr (n := ra) (g := fun i => d i * A i j) (fun i hi => by rw [(mtM_A hi hj).2]), sm_congr (n := rb) (g := fun _ => 0) (fun i _ => by rw [(mtM_B (by omega) hj).2, Int.mul_zero]), sm_zero, Int.add_zero] at this
    exact this
  have h2 : ∀ i, i < rb → P ∣ d (ra + i) := hB (fun i => d (ra + i)) fun j hj => by
    have := hd j (by omega)
    rw [sm_split, sm_congr (n := ra) (g := fun i => d i * A i j) (fun i hi => by rw [(mtM_A hi hj).1]), sm_congr (n := rb) (g := fun i => d (ra + i) * B i j) (fun i _ => by rw [(mtM_B (by omega) hj).1, Nat.add_sub_cancel_left])] at this
    have h3 : P ∣ sm ra (fun i => d i * A i j) := sm_dvd fun i hi => Int.dvd_mul_of_dvd_left (h1 i hi)
    have := Int.dvd_sub this h3
    rwa [show ∀ a b : Int, a + b - a = b by intros; omega] at this
  intro i hi
  by_cases e : i < ra
  · exact h1 i e
  · have := h2 (i - ra) (by omega)
    rwa [show ra + (i - ra) = i by omega] at this
theorem mtM_rng (hP : 0 < P) (hA : ∀ i j, i < ra → j < c → 0 ≤ A i j ∧ A i j < P) (hB : ∀ i j, i < rb → j < c → 0 ≤ B i j ∧ B i j < P) : ∀ i j, i < ra + rb → j < 2 * c → 0 ≤ mtM c ra A B i j ∧ mtM c ra A B i j < P := fun i j hi hj => by
  by_cases ej : j < c
  · by_cases e : i < ra
    · rw [(mtM_A e ej).1]; exact hA i j e ej
    · rw [(mtM_B e ej).1]; exact hB _ j (by omega) ej
  · obtain ⟨t, rfl⟩ : ∃ t, j = c + t := ⟨j - c, by omega⟩
    by_cases e : i < ra
    · rw [(mtM_A e (by omega)).2]; exact hA i t e (by omega)
    · rw [(mtM_B e (by omega)).2]; omega

/-- the first halves are the sum's reduced form, the kept second halves are reduced; they lie in both spaces -/
theorem zass (hp : primeOk P = true) (hA : ∀ i j, i < ra → j < c → 0 ≤ A i j ∧ A i j < P) (hB : ∀ i j, i < rb → j < c → 0 ≤ B i j ∧ B i j < P) (iA : Indep P c ra A) (iB : Indep P c rb B)
    {n : Nat} {M : Nat → Nat → Int} {q : Nat → Nat} (h : IsRed P (2 * c) (ra + rb) (mtM c ra A B) n M q) :
    ∃ n1 n2 q2, n1 + n2 = ra + rb ∧ (keptL n c q).length = n2 ∧ IsRed P c (ra + rb) (stackM ra A B) n1 M q ∧ IsRed P c n2 (keptM c M (keptL n c q)) n2 (keptM c M (keptL n c q)) q2 ∧
      ∀ t, t < n2 → Sp P c ra A (keptM c M (keptL n c q) t) ∧ Sp P c rb B (keptM c M (keptL n c q) t) := by
  obtain ⟨hP, _⟩ := primeOk_range hp
  have hn : n = ra + rb := HasRank.one hP ⟨M, q, h⟩ ((mt_indep iA iB).rank hp (mtM_rng (by omega) hA hB))
  obtain ⟨hr, ha, hg, hs⟩ := h
  obtain ⟨n1, n2, e, k1, k2, k3, k4⟩ := kept_last c q n ha
  have hz : ∀ i j, n1 ≤ i → i < n → j < c → M i j = 0 := fun i j hi hin hj => hr.lead i j hin (Nat.lt_of_lt_of_le hj (k4 i hi hin))
  refine ⟨n1, n2, fun t => q (n1 + t) - c, by omega, k1, ⟨⟨k3, fun i k hi hk => hr.unit i k (by omega) (by omega), fun i j hi hj => hr.lead i j (by omega) hj⟩, fun i k hik hk => ha i k hik (by omega), fun i j hi hj => hg i j (by omega) (by omega), ?_⟩, ?_, ?_⟩
  · -- what the first halves span
    have hfirst : ∀ v, Sp P (2 * c) n M v → Sp P c n1 M v := fun v hv => (hv.narrow (C' := c) (by omega)).trans fun i hi => by
      by_cases ei : i < n1
      · exact .row ei
      · exact Sp.zero.eqv (.of_eq fun j hj => (hz i j (by omega) hi hj).symm)
    constructor
    · intro i hi
      refine (hfirst _ (hs.1 i hi)).eqv (.of_eq fun j hj => ?_)
      by_cases ei : i < ra
      · rw [(mtM_A ei hj).1, stackM_lt ei]
      · rw [(mtM_B ei hj).1, stackM_ge ei]
    · intro i hi
      refine ((hs.2 i (by omega)).narrow (C' := c) (by omega)).congr fun k hk => .of_eq fun j hj => ?_
      by_cases ei : k < ra
      · rw [(mtM_A ei hj).1, stackM_lt ei]
      · rw [(mtM_B ei hj).1, stackM_ge ei]
  · refine ⟨⟨fun t ht => ?_, fun i k hi hk => ?_, fun i j hi hj => ?_⟩, fun i k hik hk => ?_, fun i j hi hj => ?_, .refl⟩
    · have := hr.lt (n1 + t) (by omega)
      have := k4 (n1 + t) (by omega) (by omega)
      omega
    · unfold keptM
      rw [k2 i hi]
      have := k4 (n1 + k) (by omega) (by omega)
      rw [show c + (q (n1 + k) - c) = q (n1 + k) by omega, hr.unit _ _ (by omega) (by omega)]
      by_cases ei : i = k
      · simp [ei]
      · rw [if_neg ei, if_neg (by omega)]
    · unfold keptM
      rw [k2 i hi]
      exact hr.lead _ _ (by omega) (by omega)
    · have := ha (n1 + i) (n1 + k) (by omega) (by omega)
      have := k4 (n1 + i) (by omega) (by omega)
      show q (n1 + i) - c < q (n1 + k) - c
      omega
    · unfold keptM
      rw [k2 i hi]
      exact hg _ _ (by omega) (by omega)
  · intro t ht
    unfold keptM
    rw [k2 t ht]
    obtain ⟨x, y, h1, h2, h3, h4⟩ := mt_parts (hs.2 (n1 + t) (by omega))
    refine ⟨h1.eqv fun j hj => ?_, ((h2.smul (-1)).eqv fun j hj => ?_)⟩
    · have := Int.dvd_neg.2 (h4 j hj)
      rwa [Int.neg_sub] at this
    · have a := h3 j hj
      rw [hz (n1 + t) j (by omega) (by omega) hj] at a
      have b := h4 j hj
      have := Int.dvd_sub a b
      rwa [show ∀ x y m : Int, 0 - (x + y) - (m - x) = -1 * y - m by intros; omega] at this
/-- what lies in both is spanned by the kept halves -/
theorem zass_all (hp : primeOk P = true) {n : Nat} {M : Nat → Nat → Int} {q : Nat → Nat} (h : IsRed P (2 * c) (ra + rb) (mtM c ra A B) n M q) {v : Nat → Int} (h1 : Sp P c ra A v) (h2 : Sp P c rb B v) :
    Sp P c (keptL n c q).length (keptM c M (keptL n c q)) v := by
  obtain ⟨hr, ha, hg, hs⟩ := h
  obtain ⟨n1, n2, e, k1, k2, k3, k4⟩ := kept_last c q n ha
  -- (0, v) is (v, v) less (v, 0)
  have sA : ∀ x, Sp P c ra A x → Sp P (2 * c) (ra + rb) (mtM c ra A B) (fun j => if j < c then x j else x (j - c)) := fun x hx => by
    induction hx with
    | zero => exact Sp.zero.eqv (.of_eq fun j _ => by simp)
    | @add v a i hi _ ih =>
      refine (Sp.add a i (by omega) ih).eqv (.of_eq fun j hj => ?_)
      by_cases ej : j < c
      · rw [(mtM_A hi ej).1]; simp [ej]
      · obtain ⟨t, rfl⟩ : ∃ t, j = c + t := ⟨j - c, by omega⟩
        rw [(mtM_A hi (by omega)).2]; simp [show ¬ c + t < c by omega]
    | eqv _ e ih =>
      refine ih.eqv fun j hj => ?_
      by_cases ej : j < c
      · simp only [ej, if_true]; exact e j ej
      · simp only [ej, if_false]; exact e _ (by omega)
  have sB : ∀ x, Sp P c rb B x → Sp P (2 * c) (ra + rb) (mtM c ra A B) (fun j => if j < c then x j else 0) := fun x hx => by
    induction hx with
    | zero => exact Sp.zero.eqv (.of_eq fun j _ => by simp)
    | @add v a i hi _ ih =>
      refine (Sp.add a (ra + i) (by omega) ih).eqv (.of_eq fun j hj => ?_)
      by_cases ej : j < c
      · rw [(mtM_B (by omega) ej).1]; simp [ej]
      · obtain ⟨t, rfl⟩ : ∃ t, j = c + t := ⟨j - c, by omega⟩
        rw [(mtM_B (by omega) (by omega)).2]; simp [show ¬ c + t < c by omega]
    | eqv _ e ih =>
      refine ih.eqv fun j hj => ?_
      by_cases ej : j < c
      · simp only [ej, if_true]; exact e j ej
      · simp [ej]
  have hv := ((sA v h1).sub (sB v h2)).trans hs.1
  have h0 : ∀ j, j < c → P ∣ (if j < c then v j else v (j - c)) - (if j < c then v j else 0) := fun j hj => by simp [hj]
  have hco := hr.coord hv
  refine .of_coef (fun t => v (q (n1 + t) - c)) fun j hj => ?_
  have := hco (c + j) (by omega)
  rw [e, sm_split] at this
  have hz : P ∣ sm n1 (fun i => ((if q i < c then v (q i) else v (q i - c)) - (if q i < c then v (q i) else 0)) * M i (c + j)) := sm_dvd fun i hi => Int.dvd_mul_of_dvd_left (h0 _ (k3 i hi))
  have := Int.dvd_add this hz
  rw [show ∀ a b d : Int, a - (b + d) + b = a - d by intros; omega] at this
  rw [k1]
  rw [sm_congr (n := n2) (g := fun t => v (q (n1 + t) - c) * keptM c M (keptL n c q) t j) (fun t ht => ?_)] at this
  · simpa [show ¬ c + j < c by omega] using this
  · have := k4 (n1 + t) (by omega) (by omega)
    unfold keptM
    rw [k2 t ht]
    simp [show ¬ q (n1 + t) < c by omega]

end Go.Proofs.Ytmnlpkmnbjoicaa
