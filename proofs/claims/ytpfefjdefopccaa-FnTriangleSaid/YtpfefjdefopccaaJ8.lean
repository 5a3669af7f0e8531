/-
  What MeetSpaces computes is what is in both spaces, and the dimensions add up (plain law; no program in sight).
  The dimensions of the sum and of what is common, and what lies where (plain law; no program in sight).
  Products of matrices: rows that are independent stay so, the rank is kept (plain law; no program in sight).
  A normal form is fixed by the spans of its first rows: plain law.
  What two lists of rows have in common: slices.Clone of rows, impl.common, spec.l7Common.
-/
import Derived.Test.YtpfefjdefopccaaJ6
import Derived.Test.YtpfefjdefopccaaJ7
import Derived.Test.YtpfefjdefopccaaJ5
namespace Go.Proofs.Ytpfefjdefopccaa
set_option linter.all false

/-- the rows that begin in the second half are the last ones -/
theorem kept_last (c : Nat) (q : Nat → Nat) : ∀ n, (∀ i k, i < k → k < n → q i < q k) → ∃ n1 n2, n = n1 + n2 ∧ (keptL n c q).length = n2 ∧ (∀ t, t < n2 → (keptL n c q).getD t 0 = n1 + t) ∧ (∀ i, i < n1 → q i < c) ∧ ∀ i, n1 ≤ i → i < n → c ≤ q i := by
  intro n
  induction n with
  | zero => exact fun _ => ⟨0, 0, rfl, rfl, fun t h => absurd h (Nat.not_lt_zero _), fun t h => absurd h (Nat.not_lt_zero _), fun i _ h => absurd h (Nat.not_lt_zero _)⟩
  | succ n ih =>
    intro ha
    obtain ⟨n1, n2, e, h1, h2, h3, h4⟩ := ih fun i k hik hk => ha i k hik (by omega)
    by_cases hq : c ≤ q n
    · have ek : keptL (n + 1) c q = keptL n c q ++ [n] := by rw [keptL_succ, if_pos hq]
      refine ⟨n1, n2 + 1, by omega, by rw [ek, List.length_append, h1]; rfl, fun t ht => ?_, h3, fun i hi hn => ?_⟩
      · rw [ek]
        by_cases et : t < n2
        · rw [List.getD_eq_getElem?_getD, List.getElem?_append_left (by omega), ← List.getD_eq_getElem?_getD]
          exact h2 t et
        · obtain rfl : t = n2 := by omega
          rw [List.getD_eq_getElem?_getD, List.getElem?_append_right (by omega), h1]
          simp; omega
      · by_cases ei : i < n
        · exact h4 i hi ei
        · obtain rfl : i = n := by omega
          exact hq
    · have ek : keptL (n + 1) c q = keptL n c q := by rw [keptL_succ, if_neg hq, List.append_nil]
      have h0 : n2 = 0 := by
        rcases Nat.eq_zero_or_pos n2 with e0 | e0
        · exact e0
        · have a := h4 (n - 1) (by omega) (by omega)
          have b := ha (n - 1) n (by omega) (by omega)
          omega
      subst h0
      refine ⟨n1 + 1, 0, by omega, by rw [ek]; exact h1, fun t h => absurd h (Nat.not_lt_zero _), fun i hi => ?_, fun i hi hn => by omega⟩
      by_cases ei : i < n1
      · exact h3 i ei
      · rw [show i = n by omega]; omega

variable {P : Int} {c ra rb : Nat} {A B : Nat → Nat → Int}

theorem mtM_A {i j : Nat} (hi : i < ra) (hj : j < c) : mtM c ra A B i j = A i j ∧ mtM c ra A B i (c + j) = A i j := by
  unfold mtM
  rw [stackM_lt hi]
  exact ⟨by simp [hj], by simp [show ¬ c + j < c by omega]⟩
theorem mtM_B {i j : Nat} (hi : ¬ i < ra) (hj : j < c) : mtM c ra A B i j = B (i - ra) j ∧ mtM c ra A B i (c + j) = 0 := by
  unfold mtM
  rw [stackM_ge hi]
  exact ⟨by simp [hj], by simp [show ¬ c + j < c by omega]⟩
/-- what (x + y, x) is -/
theorem mt_parts {v : Nat → Int} (h : Sp P (2 * c) (ra + rb) (mtM c ra A B) v) : ∃ x y, Sp P c ra A x ∧ Sp P c rb B y ∧ (∀ j, j < c → P ∣ v j - (x j + y j)) ∧ ∀ j, j < c → P ∣ v (c + j) - x j := by
  induction h with
  | zero => exact ⟨fun _ => 0, fun _ => 0, .zero, .zero, fun j _ => by simp, fun j _ => by simp⟩
  | @add v a i hi _ ih =>
    obtain ⟨x, y, h1, h2, h3, h4⟩ := ih
    by_cases e : i < ra
    · refine ⟨fun j => x j + a * A i j, y, .add a i e h1, h2, fun j hj => ?_, fun j hj => ?_⟩
      · show P ∣ v j + a * mtM c ra A B i j - (x j + a * A i j + y j)
        rw [(mtM_A e hj).1]
        have := h3 j hj
        rwa [show ∀ v x y t : Int, v + t - (x + t + y) = v - (x + y) by intros; omega]
      · show P ∣ v (c + j) + a * mtM c ra A B i (c + j) - (x j + a * A i j)
        rw [(mtM_A e hj).2]
        have := h4 j hj
        rwa [show ∀ v x t : Int, v + t - (x + t) = v - x by intros; omega]
    · refine ⟨x, fun j => y j + a * B (i - ra) j, h1, .add a _ (by omega) h2, fun j hj => ?_, fun j hj => ?_⟩
      · show P ∣ v j + a * mtM c ra A B i j - (x j + (y j + a * B (i - ra) j))
        rw [(mtM_B e hj).1]
        have := h3 j hj
        rwa [show ∀ v x y t : Int, v + t - (x + (y + t)) = v - (x + y) by intros; omega]
      · show P ∣ v (c + j) + a * mtM c ra A B i (c + j) - x j
        rw [(mtM_B e hj).2, Int.mul_zero, Int.add_zero]
        exact h4 j hj
  | eqv _ e ih =>
    obtain ⟨x, y, h1, h2, h3, h4⟩ := ih
    refine ⟨x, y, h1, h2, fun j hj => ?_, fun j hj => ?_⟩
    · have := Int.dvd_sub (h3 j hj) (e j (by omega))
      rwa [show ∀ u v t : Int, u - t - (u - v) = v - t by intros; omega] at this
    · have := Int.dvd_sub (h4 j hj) (e (c + j) (by omega))
      rwa [show ∀ u v t : Int, u - t - (u - v) = v - t by intros; omega] at this
theorem mt_indep (hA : Indep P c ra A) (hB : Indep P c rb B) : Indep P (2 * c) (ra + rb) (mtM c ra A B) := fun d hd => by
  have h1 : ∀ i, i < ra → P ∣ d i := hA d fun j hj => by
    have := hd (c + j) (by omega)
    rw [sm_split, sm_congr (n := ra) (g := fun i => d i * A i j) (fun i hi => by rw [(mtM_A hi hj).2]), sm_congr (n := rb) (g := fun _ => 0) (fun i _ => by rw [(mtM_B (by omega) hj).2, Int.mul_zero]), sm_zero, Int.add_zero] at this
    exact this
  have h2 : ∀ i, i < rb → P ∣ d (ra + i) := hB (fun i => d (ra + i)) fun j hj => by
    have := hd j (by omega)
    rw [sm_split, sm_congr (n := ra) (g := fun i => d i * A i j) (fun i hi => by rw [(mtM_A hi hj).1]), sm_congr (n := rb) (g := fun i => d (ra + i) * B i j) (fun i _ => by rw [(mtM_B (by omega) hj).1, Nat.add_sub_cancel_left])] at this
    have h3 : P ∣ sm ra (fun i => d i * A i j) := sm_dvd fun i hi => Int.dvd_mul_of_dvd_left (h1 i hi)
    have := Int.dvd_sub this h3
    rwa [show ∀ a b : Int, a + b - a = b by intros; omega] at this
  intro i hi
  by_cases e : i < ra
  · exact h1 i e
  · have := h2 (i - ra) (by omega)
    rwa [show ra + (i - ra) = i by omega] at this
theorem mtM_rng (hP : 0 < P) (hA : ∀ i j, i < ra → j < c → 0 ≤ A i j ∧ A i j < P) (hB : ∀ i j, i < rb → j < c → 0 ≤ B i j ∧ B i j < P) : ∀ i j, i < ra + rb → j < 2 * c → 0 ≤ mtM c ra A B i j ∧ mtM c ra A B i j < P := fun i j hi hj => by
  by_cases ej : j < c
  · by_cases e : i < ra
    · rw [(mtM_A e ej).1]; exact hA i j e ej
    · rw [(mtM_B e ej).1]; exact hB _ j (by omega) ej
  · obtain ⟨t, rfl⟩ : ∃ t, j = c + t := ⟨j - c, by omega⟩
    by_cases e : i < ra
    · rw [(mtM_A e (by omega)).2]; exact hA i t e (by omega)
    · rw [(mtM_B e (by omega)).2]; omega

/-- the first halves are the sum's reduced form, the kept second halves are reduced; they lie in both spaces -/
theorem zass (hp : primeOk P = true) (hA : ∀ i j, i < ra → j < c → 0 ≤ A i j ∧ A i j < P) (hB : ∀ i j, i < rb → j < c → 0 ≤ B i j ∧ B i j < P) (iA : Indep P c ra A) (iB : Indep P c rb B)
    {n : Nat} {M : Nat → Nat → Int} {q : Nat → Nat} (h : IsRed P (2 * c) (ra + rb) (mtM c ra A B) n M q) :
    ∃ n1 n2 q2, n1 + n2 = ra + rb ∧ (keptL n c q).length = n2 ∧ IsRed P c (ra + rb) (stackM ra A B) n1 M q ∧ IsRed P c n2 (keptM c M (keptL n c q)) n2 (keptM c M (keptL n c q)) q2 ∧
      ∀ t, t < n2 → Sp P c ra A (keptM c M (keptL n c q) t) ∧ Sp P c rb B (keptM c M (keptL n c q) t) := by
  obtain ⟨hP, _⟩ := primeOk_range hp
  have hn : n = ra + rb := HasRank.one hP ⟨M, q, h⟩ ((mt_indep iA iB).rank hp (mtM_rng (by omega) hA hB))
  obtain ⟨hr, ha, hg, hs⟩ := h
  obtain ⟨n1, n2, e, k1, k2, k3, k4⟩ := kept_last c q n ha
  have hz : ∀ i j, n1 ≤ i → i < n → j < c → M i j = 0 := fun i j hi hin hj => hr.lead i j hin (Nat.lt_of_lt_of_le hj (k4 i hi hin))
  refine ⟨n1, n2, fun t => q (n1 + t) - c, by omega, k1, ⟨⟨k3, fun i k hi hk => hr.unit i k (by omega) (by omega), fun i j hi hj => hr.lead i j (by omega) hj⟩, fun i k hik hk => ha i k hik (by omega), fun i j hi hj => hg i j (by omega) (by omega), ?_⟩, ?_, ?_⟩
  · -- what the first halves span
    have hfirst : ∀ v, Sp P (2 * c) n M v → Sp P c n1 M v := fun v hv => (hv.narrow (C' := c) (by omega)).trans fun i hi => by
      by_cases ei : i < n1
      · exact .row ei
      · exact Sp.zero.eqv (.of_eq fun j hj => (hz i j (by omega) hi hj).symm)
    constructor
    · intro i hi
      refine (hfirst _ (hs.1 i hi)).eqv (.of_eq fun j hj => ?_)
      by_cases ei : i < ra
      · rw [(mtM_A ei hj).1, stackM_lt ei]
      · rw [(mtM_B ei hj).1, stackM_ge ei]
    · intro i hi
      refine ((hs.2 i (by omega)).narrow (C' := c) (by omega)).congr fun k hk => .of_eq fun j hj => ?_
      by_cases ei : k < ra
      · rw [(mtM_A ei hj).1, stackM_lt ei]
      · rw [(mtM_B ei hj).1, stackM_ge ei]
  · refine ⟨⟨fun t ht => ?_, fun i k hi hk => ?_, fun i j hi hj => ?_⟩, fun i k hik hk => ?_, fun i j hi hj => ?_, .refl⟩
    · have := hr.lt (n1 + t) (by omega)
      have := k4 (n1 + t) (by omega) (by omega)
      omega
    · unfold keptM
      rw [k2 i hi]
      have := k4 (n1 + k) (by omega) (by omega)
      rw [show c + (q (n1 + k) - c) = q (n1 + k) by omega, hr.unit _ _ (by omega) (by omega)]
      by_cases ei : i = k
      · simp [ei]
      · rw [if_neg ei, if_neg (by omega)]
    · unfold keptM
      rw [k2 i hi]
      exact hr.lead _ _ (by omega) (by omega)
    · have := ha (n1 + i) (n1 + k) (by omega) (by omega)
      have := k4 (n1 + i) (by omega) (by omega)
      show q (n1 + i) - c < q (n1 + k) - c
      omega
    · unfold keptM
      rw [k2 i hi]
      exact hg _ _ (by omega) (by omega)
  · intro t ht
    unfold keptM
    rw [k2 t ht]
    obtain ⟨x, y, h1, h2, h3, h4⟩ := mt_parts (hs.2 (n1 + t) (by omega))
    refine ⟨h1.eqv fun j hj => ?_, ((h2.smul (-1)).eqv fun j hj => ?_)⟩
    · have := Int.dvd_neg.2 (h4 j hj)
      rwa [Int.neg_sub] at this
    · have a := h3 j hj
      rw [hz (n1 + t) j (by omega) (by omega) hj] at a
      have b := h4 j hj
      have := Int.dvd_sub a b
      rwa [show ∀ x y m : Int, 0 - (x + y) - (m - x) = -1 * y - m by intros; omega] at this
/-- what lies in both is spanned by the kept halves -/
theorem zass_all (hp : primeOk P = true) {n : Nat} {M : Nat → Nat → Int} {q : Nat → Nat} (h : IsRed P (2 * c) (ra + rb) (mtM c ra A B) n M q) {v : Nat → Int} (h1 : Sp P c ra A v) (h2 : Sp P c rb B v) :
    Sp P c (keptL n c q).length (keptM c M (keptL n c q)) v := by
  obtain ⟨hr, ha, hg, hs⟩ := h
  obtain ⟨n1, n2, e, k1, k2, k3, k4⟩ := kept_last c q n ha
  -- (0, v) is (v, v) less (v, 0)
  have sA : ∀ x, Sp P c ra A x → Sp P (2 * c) (ra + rb) (mtM c ra A B) (fun j => if j < c then x j else x (j - c)) := fun x hx => by
    induction hx with
    | zero => exact Sp.zero.eqv (.of_eq fun j _ => by simp)
    | @add v a i hi _ ih =>
      refine (Sp.add a i (by omega) ih).eqv (.of_eq fun j hj => ?_)
      by_cases ej : j < c
      · rw [(mtM_A hi ej).1]; simp [ej]
      · obtain ⟨t, rfl⟩ : ∃ t, j = c + t := ⟨j - c, by omega⟩
        rw [(mtM_A hi (by omega)).2]; simp [show ¬ c + t < c by omega]
    | eqv _ e ih =>
      refine ih.eqv fun j hj => ?_
      by_cases ej : j < c
      · simp only [ej, if_true]; exact e j ej
      · simp only [ej, if_false]; exact e _ (by omega)
  have sB : ∀ x, Sp P c rb B x → Sp P (2 * c) (ra + rb) (mtM c ra A B) (fun j => if j < c then x j else 0) := fun x hx => by
    induction hx with
    | zero => exact Sp.zero.eqv (.of_eq fun j _ => by simp)
    | @add v a i hi _ ih =>
      refine (Sp.add a (ra + i) (by omega) ih).eqv (.of_eq fun j hj => ?_)
      by_cases ej : j < c
      · rw [(mtM_B (by omega) ej).1]; simp [ej]
      · obtain ⟨t, rfl⟩ : ∃ t, j = c + t := ⟨j - c, by omega⟩
        rw [(mtM_B (by omega) (by omega)).2]; simp [show ¬ c + t < c by omega]
    | eqv _ e ih =>
      refine ih.eqv fun j hj => ?_
      by_cases ej : j < c
      · simp only [ej, if_true]; exact e j ej
      · simp [ej]
  have hv := ((sA v h1).sub (sB v h2)).trans hs.1
  have h0 : ∀ j, j < c → P ∣ (if j < c then v j else v (j - c)) - (if j < c then v j else 0) := fun j hj => by simp [hj]
  have hco := hr.coord hv
  refine .of_coef (fun t => v (q (n1 + t) - c)) fun j hj => ?_
  have := hco (c + j) (by omega)
  rw [e, sm_split] at this
  have hz : P ∣ sm n1 (fun i => ((if q i < c then v (q i) else v (q i - c)) - (if q i < c then v (q i) else 0)) * M i (c + j)) := sm_dvd fun i hi => Int.dvd_mul_of_dvd_left (h0 _ (k3 i hi))
  have := Int.dvd_add this hz
  rw [show ∀ a b d : Int, a - (b + d) + b = a - d by intros; omega] at this
  rw [k1]
  rw [sm_congr (n := n2) (g := fun t => v (q (n1 + t) - c) * keptM c M (keptL n c q) t j) (fun t ht => ?_)] at this
  · simpa [show ¬ c + j < c by omega] using this
  · have := k4 (n1 + t) (by omega) (by omega)
    unfold keptM
    rw [k2 t ht]
    simp [show ¬ q (n1 + t) < c by omega]

end Go.Proofs.Ytpfefjdefopccaa

namespace Go.Proofs.Ytpfefjdefopccaa
set_option linter.all false

theorem IsRed.congrM {P : Int} {C R n : Nat} {M0 M M' : Nat → Nat → Int} {q : Nat → Nat} (h : IsRed P C R M0 n M q) (e : ∀ i j, i < n → j < C → M' i j = M i j) : IsRed P C R M0 n M' q := by
  obtain ⟨h1, h2, h3, h4⟩ := h
  refine ⟨⟨h1.lt, fun i k hi hk => ?_, fun i j hi hj => ?_⟩, h2, fun i j hi hj => by rw [e i j hi hj]; exact h3 i j hi hj, h4.trans (SameSp.of_eqv fun i hi => .of_eq fun j hj => (e i j hi hj).symm)⟩
  · rw [e i _ hi (h1.lt k hk)]; exact h1.unit i k hi hk
  · rw [e i j hi (by have := h1.lt i hi; omega)]; exact h1.lead i j hi hj
theorem IsRed.from' {P : Int} {C R R' n : Nat} {M0 M1 M : Nat → Nat → Int} {q : Nat → Nat} (h : IsRed P C R M0 n M q) (hs : SameSp P C R' M1 R M0) : IsRed P C R' M1 n M q := ⟨h.1, h.2.1, h.2.2.1, hs.trans h.2.2.2⟩
theorem mf_flatM {n C i j : Nat} {M : Nat → Nat → Int} (hi : i < n) (hj : j < C) : mf C (fun t => (flatM n C M).getD t 0) i j = M i j := by
  obtain ⟨d1, d2⟩ := div_at (k := i) hj
  have hb : i * C + j < n * C := flat_ltW hi hj
  unfold mf flatM
  show (List.map (fun t => M (t / C) (t % C)) (List.range (n * C))).getD (i * C + j) 0 = M i j
  rw [List.getD_eq_getElem?_getD]
  simp [hb, d1, d2]
theorem flatM_getD_rng {P : Int} {n C : Nat} {M : Nat → Nat → Int} (hP : 0 < P) (h : ∀ i j, i < n → j < C → 0 ≤ M i j ∧ M i j < P) : ∀ x ∈ flatM n C M, 0 ≤ x ∧ x < P := fun x hx => by
  unfold flatM at hx
  obtain ⟨t, ht, rfl⟩ := List.mem_map.1 hx
  have ht : t < n * C := by simpa using ht
  have hC : 0 < C := by
    rcases Nat.eq_zero_or_pos C with h0 | h0
    · rw [h0] at ht; omega
    · exact h0
  exact h _ _ (Nat.div_lt_of_lt_mul (by rwa [Nat.mul_comm])) (Nat.mod_lt _ hC)

/-- the rows of a space are their own reduced form -/
theorem IsSp.red {P : Int} {r c : Nat} {D : List Int} (h : IsSp P r c D) : ∃ q, IsRed P c r (mf c fun t => D.getD t 0) r (mf c fun t => D.getD t 0) q ∧ D = flatM r c (mf c fun t => D.getD t 0) := by
  obtain ⟨h1, h2⟩ := h
  unfold SpIs at h2
  rw [if_pos h1] at h2
  obtain ⟨n, M, q, hr, _, e⟩ := h2
  injection e with _ e2 _ e4
  have e2 : r = n := Int.ofNat.inj e2
  subst e2
  simp only [Int.toNat_natCast] at hr e4
  have hM : ∀ i j, i < r → j < c → mf c (fun t => D.getD t 0) i j = M i j := fun i j hi hj => by rw [e4]; exact mf_flatM hi hj
  refine ⟨q, hr.congrM hM, ?_⟩
  rw [flatM_congr hM]
  exact e4
theorem IsRed.isSp {P : Int} {C R n : Nat} {M0 M : Nat → Nat → Int} {q : Nat → Nat} (h : IsRed P C R M0 n M q) (hp : primeOk P = true) (h1 : 1 ≤ C) (h7 : C ≤ 7) : IsSp P n C (flatM n C M) := by
  obtain ⟨hP, _⟩ := primeOk_range hp
  have hn := asc_bound h.2.1 h.1.lt
  have hok : mxOk P n C (flatM n C M) = true := by
    unfold mxOk
    refine decide_eq_true ⟨hp, by omega, by omega, by rw [flatM_length]; push_cast; rfl, flatM_getD_rng (by omega) h.2.2.1⟩
  refine ⟨hok, ?_⟩
  unfold SpIs
  rw [if_pos hok]
  refine ⟨n, M, q, ?_, Int.le_refl _, by simp⟩
  simp only [Int.toNat_natCast]
  exact ⟨h.1, h.2.1, h.2.2.1, SameSp.of_eqv fun i hi => .of_eq fun j hj => mf_flatM hi hj⟩
/-- what spans the same has the same reduced form -/
theorem RowsIs.eq_of {P : Int} {C R R' n : Nat} {M0 M1 M : Nat → Nat → Int} {q : Nat → Nat} {x : Mx} (hP : 2 ≤ P) (h : RowsIs P C R M0 x) (h2 : IsRed P C R' M1 n M q) (hs : SameSp P C R M0 R' M1) : x = ⟨P, n, C, flatM n C M⟩ :=
  h.one hP ⟨n, M, q, h2.from' hs, rfl⟩
/-- a second lot of rows that lies in what the first one spans -/
theorem stack_same {P : Int} {C R R' : Nat} {A B : Nat → Nat → Int} (h : ∀ i, i < R' → Sp P C R A (B i)) : SameSp P C (R + R') (stackM R A B) R A := by
  refine ⟨fun i hi => ?_, fun i hi => ?_⟩
  · by_cases e : i < R
    · rw [stackM_lt e]; exact .row e
    · rw [stackM_ge e]; exact h _ (by omega)
  · have := Sp.row (p := P) (C := C) (n := R + R') (M := stackM R A B) (i := i) (by omega)
    rwa [stackM_lt hi] at this
theorem stack_same' {P : Int} {C R R' : Nat} {A B : Nat → Nat → Int} (h : ∀ i, i < R → Sp P C R' B (A i)) : SameSp P C (R + R') (stackM R A B) R' B := by
  refine ⟨fun i hi => ?_, fun i hi => ?_⟩
  · by_cases e : i < R
    · rw [stackM_lt e]; exact h _ e
    · rw [stackM_ge e]; exact .row (by omega)
  · have := Sp.row (p := P) (C := C) (n := R + R') (M := stackM R A B) (i := R + i) (by omega)
    rwa [stackM_ge (by omega), Nat.add_sub_cancel_left] at this
theorem stack_left {P : Int} {C R R' i : Nat} {A B : Nat → Nat → Int} (hi : i < R) : Sp P C (R + R') (stackM R A B) (A i) := by
  have := Sp.row (p := P) (C := C) (n := R + R') (M := stackM R A B) (i := i) (by omega)
  rwa [stackM_lt hi] at this
theorem stack_right {P : Int} {C R R' i : Nat} {A B : Nat → Nat → Int} (hi : i < R') : Sp P C (R + R') (stackM R A B) (B i) := by
  have := Sp.row (p := P) (C := C) (n := R + R') (M := stackM R A B) (i := R + i) (by omega)
  rwa [stackM_ge (by omega), Nat.add_sub_cancel_left] at this

/-- all that the law FnModular says of the sum s and what is common m of two spaces -/
theorem modular_law {P : Int} {ra rb c : Nat} {DA DB : List Int} (hA : IsSp P ra c DA) (hB : IsSp P rb c DB) {s m : Mx}
    (hs : RowsIs P c (ra + rb) (stackM ra (mf c fun t => DA.getD t 0) (mf c fun t => DB.getD t 0)) s) (hm : MtIs P c ra rb (mf c fun t => DA.getD t 0) (mf c fun t => DB.getD t 0) m) :
    ∃ ns nm : Nat, s = ⟨P, ns, c, s.D⟩ ∧ m = ⟨P, nm, c, m.D⟩ ∧ ns + nm = ra + rb ∧ IsSp P ns c s.D ∧ IsSp P nm c m.D ∧
      (∀ x, RowsIs P c (ns + ra) (stackM ns (mf c fun t => s.D.getD t 0) (mf c fun t => DA.getD t 0)) x → x = s) ∧
      (∀ x, RowsIs P c (nm + ra) (stackM nm (mf c fun t => m.D.getD t 0) (mf c fun t => DA.getD t 0)) x → x = ⟨P, ra, c, DA⟩) ∧
      (∀ x, RowsIs P c (nm + rb) (stackM nm (mf c fun t => m.D.getD t 0) (mf c fun t => DB.getD t 0)) x → x = ⟨P, rb, c, DB⟩) ∧
      (∀ x, MtIs P c ns rb (mf c fun t => s.D.getD t 0) (mf c fun t => DB.getD t 0) x → x = ⟨P, rb, c, DB⟩) := by
  obtain ⟨r1, c1, e1, e2, hr1, hc0, hc7, hlA, hDA, hP2, hP7, hp⟩ := mxOk_facts hA.1
  obtain rfl := Int.ofNat.inj e1
  obtain rfl := Int.ofNat.inj e2
  obtain ⟨r2, c2, e1, e2, hr2, _, _, hlB, hDB, _, _, _⟩ := mxOk_facts hB.1
  obtain rfl := Int.ofNat.inj e1
  clear e2
  obtain ⟨qA, redA, flA⟩ := hA.red
  obtain ⟨qB, redB, flB⟩ := hB.red
  obtain ⟨A, eA⟩ : ∃ A, A = mf c fun t => DA.getD t 0 := ⟨_, rfl⟩
  obtain ⟨B, eB⟩ : ∃ B, B = mf c fun t => DB.getD t 0 := ⟨_, rfl⟩
  rw [← eA] at hs hm redA flA ⊢
  rw [← eB] at hs hm redB flB ⊢
  obtain ⟨n, M, q, hz, hk⟩ := hm
  obtain ⟨n1, n2, q2, hn, hkl, hz1, hz2, hz3⟩ := zass hp redA.2.2.1 redB.2.2.1 redA.1.indep redB.1.indep hz
  have es : s = ⟨P, n1, c, flatM n1 c M⟩ := hs.eq_of hP2 hz1 .refl
  have em : m = ⟨P, n2, c, flatM n2 c (keptM c M (keptL n c q))⟩ := hk.eq_of hP2 hz2 (by rw [hkl]; exact .refl)
  generalize keptM c M (keptL n c q) = K at *
  have hS : SameSp P c n1 (mf c fun t => (flatM n1 c M).getD t 0) n1 M := SameSp.of_eqv fun i hi => .of_eq fun j hj => mf_flatM hi hj
  have hK : SameSp P c n2 (mf c fun t => (flatM n2 c K).getD t 0) n2 K := SameSp.of_eqv fun i hi => .of_eq fun j hj => mf_flatM hi hj
  have hAS : ∀ i, i < ra → Sp P c n1 M (A i) := fun i hi => (stack_left hi).trans hz1.2.2.2.1
  have hBS : ∀ i, i < rb → Sp P c n1 M (B i) := fun i hi => (stack_right hi).trans hz1.2.2.2.1
  subst es em
  dsimp only
  refine ⟨n1, n2, rfl, rfl, hn, hz1.isSp hp hc0 hc7, hz2.isSp hp hc0 hc7, fun x hx => ?_, fun x hx => ?_, fun x hx => ?_, fun x hx => ?_⟩
  · exact hx.eq_of hP2 hz1 ((stack_same fun i hi => (hAS i hi).trans hS.2).trans (hS.trans hz1.2.2.2.symm))
  · have := hx.eq_of hP2 redA (stack_same' fun i hi => (hK.1 i hi).trans fun k hk => (hz3 k hk).1)
    rw [this, ← flA]
  · have := hx.eq_of hP2 redB (stack_same' fun i hi => (hK.1 i hi).trans fun k hk => (hz3 k hk).2)
    rw [this, ← flB]
  · obtain ⟨n', M', q', hz', hk'⟩ := hx
    have redS : IsRed P c n1 M n1 M q := ⟨hz1.1, hz1.2.1, hz1.2.2.1, .refl⟩
    have hSm : IsRed P c n1 (mf c fun t => (flatM n1 c M).getD t 0) n1 (mf c fun t => (flatM n1 c M).getD t 0) q := (redS.from' hS).congrM fun i j hi hj => mf_flatM hi hj
    obtain ⟨n1', n2', q2', hn', hkl', hz1', hz2', hz3'⟩ := zass hp hSm.2.2.1 redB.2.2.1 hSm.1.indep redB.1.indep hz'
    have hsum : SameSp P c (n1 + rb) (stackM n1 (mf c fun t => (flatM n1 c M).getD t 0) B) n1 (mf c fun t => (flatM n1 c M).getD t 0) := stack_same fun i hi => (hBS i hi).trans hS.2
    have hn1 : n1' = n1 := HasRank.one hP2 ⟨_, _, hz1'⟩ ⟨_, _, hSm.from' hsum⟩
    have hn2 : n2' = rb := by omega
    subst hn2
    have hsame : SameSp P c n2' (keptM c M' (keptL n' c q')) n2' B := HasRank.same_of_sub hP2 ⟨_, _, redB⟩ ⟨_, _, hz2'⟩ fun i hi => (hz3' i hi).2
    rw [hkl'] at hk'
    have := hk'.eq_of hP2 redB hsame
    rw [this, ← flB]

end Go.Proofs.Ytpfefjdefopccaa

namespace Go.Proofs.Ytpfefjdefopccaa
set_option linter.all false

theorem sumTo_sm (n : Nat) (f : Nat → Int) : sumTo n f = sm n f := by
  induction n with
  | zero => rfl
  | succ n ih => simp only [sumTo, sm, ih]
theorem sm_mulr (n : Nat) (f : Nat → Int) (x : Int) : sm n f * x = sm n fun i => f i * x := by
  induction n with
  | zero => simp [sm]
  | succ n ih => simp only [sm, Int.add_mul, ih]
theorem sm_mull (n : Nat) (f : Nat → Int) (x : Int) : x * sm n f = sm n fun i => x * f i := by
  induction n with
  | zero => simp [sm]
  | succ n ih => simp only [sm, Int.mul_add, ih]
theorem sm_swap (n m : Nat) (f : Nat → Nat → Int) : (sm n fun i => sm m fun k => f i k) = sm m fun k => sm n fun i => f i k := by
  induction n with
  | zero => simp only [sm]; exact (sm_zero m).symm
  | succ n ih => simp only [sm, ih]; rw [← sm_add]

/-- the product -/
def pr (n : Nat) (A B : Nat → Nat → Int) (i j : Nat) : Int := sm n fun k => A i k * B k j
/-- a sum of rows of a product is the product of the sum of rows -/
theorem pr_comb (n R : Nat) (X H : Nat → Nat → Int) (c : Nat → Int) (j : Nat) : (sm R fun i => c i * pr n X H i j) = sm n fun k => (sm R fun i => c i * X i k) * H k j := by
  unfold pr
  have e : (sm R fun i => c i * sm n fun k => X i k * H k j) = sm R fun i => sm n fun k => c i * X i k * H k j :=
    sm_congr fun i _ => by rw [sm_mull]; exact sm_congr fun k _ => by rw [Int.mul_assoc]
  rw [e, sm_swap]
  exact sm_congr fun k _ => (sm_mulr R _ _).symm
theorem Indep.mul {P : Int} {R n C : Nat} {X H : Nat → Nat → Int} (hX : Indep P n R X) (hH : Indep P C n H) : Indep P C R (pr n X H) := fun c hc => by
  refine hX c fun k hk => hH (fun k => sm R fun i => c i * X i k) (fun j hj => ?_) k hk
  rw [← pr_comb]
  exact hc j hj
theorem Indep.eqv {P : Int} {C R : Nat} {M M' : Nat → Nat → Int} (h : Indep P C R M) (e : ∀ i j, i < R → j < C → P ∣ M' i j - M i j) : Indep P C R M' := fun c hc => by
  refine h c fun j hj => ?_
  have h1 : P ∣ sm R fun i => c i * (M' i j - M i j) := sm_dvd fun i hi => Int.dvd_mul_of_dvd_right (e i j hi hj)
  have h2 := Int.dvd_sub (hc j hj) h1
  rwa [sm_sub, sm_congr (g := fun i => c i * M i j) (fun i _ => by rw [Int.mul_sub]; omega)] at h2
theorem dvd_unit {P x u c : Int} (hu : P ∣ u * x - 1) (h : P ∣ c * x) : P ∣ c := by
  have h1 : P ∣ u * (c * x) := Int.dvd_mul_of_dvd_right h
  have h2 : P ∣ c * (u * x - 1) := Int.dvd_mul_of_dvd_right hu
  have h3 := Int.dvd_sub h1 h2
  rw [Int.mul_sub, Int.mul_one, show u * (c * x) = c * (u * x) by rw [← Int.mul_assoc, ← Int.mul_assoc, Int.mul_comm u c]] at h3
  rwa [show ∀ a b : Int, a - (a - b) = b by intros; omega] at h3
theorem unit_of {P x : Int} (hp : primeOk P = true) (h0 : 0 < x) (h1 : x < P) : ∃ u, P ∣ u * x - 1 := by
  obtain ⟨k, _, _, e⟩ := inv_ex hp h0 h1
  refine ⟨k, ?_⟩
  have := Int.dvd_self_sub_emod (x := k * x) (m := P)
  rwa [e] at this
/-- 0 above the diagonal -/
theorem indep_low {P : Int} {n : Nat} {L : Nat → Nat → Int} (hd : ∀ i, i < n → ∃ u, P ∣ u * L i i - 1) (h0 : ∀ i j, i < j → j < n → L i j = 0) : Indep P n n L := fun c hc => by
  have key : ∀ d i, i < n → n - 1 - i = d → P ∣ c i := by
    intro d
    induction d using Nat.strongRecOn with
    | _ d ih =>
      intro i hi e
      obtain ⟨u, hu⟩ := hd i hi
      refine dvd_unit hu ?_
      have h1 := hc i hi
      have h2 : P ∣ sm n fun k => (if k < i then 0 else if k = i then 0 else c k * L k i) := sm_dvd fun k hk => by
        by_cases e1 : k < i
        · simp [e1]
        · by_cases e2 : k = i
          · simp [e1, e2]
          · simp only [e1, e2, if_false]
            exact Int.dvd_mul_of_dvd_left (ih (n - 1 - k) (by omega) k hk rfl)
      have h3 := Int.dvd_sub h1 h2
      rw [sm_sub, sm_congr (g := fun k => (c i * L i i * if i = k then 1 else 0) * (fun _ => 1) k) (fun k hk => ?_), sm_one n i hi] at h3
      · simpa using h3
      · by_cases e1 : k < i
        · rw [h0 k i e1 hi]; simp [e1, show ¬ i = k by omega]
        · by_cases e2 : k = i
          · subst e2; simp
          · simp [e1, e2, show ¬ i = k by omega]
  exact fun i hi => key _ i hi rfl
/-- 0 below the diagonal -/
theorem indep_up {P : Int} {n : Nat} {L : Nat → Nat → Int} (hd : ∀ i, i < n → ∃ u, P ∣ u * L i i - 1) (h0 : ∀ i j, j < i → i < n → L i j = 0) : Indep P n n L := fun c hc => by
  intro i
  induction i using Nat.strongRecOn with
  | _ i ih =>
    intro hi
    obtain ⟨u, hu⟩ := hd i hi
    refine dvd_unit hu ?_
    have h1 := hc i hi
    have h2 : P ∣ sm n fun k => (if i < k then 0 else if k = i then 0 else c k * L k i) := sm_dvd fun k hk => by
      by_cases e1 : i < k
      · simp [e1]
      · by_cases e2 : k = i
        · simp [e1, e2]
        · simp only [e1, e2, if_false]
          exact Int.dvd_mul_of_dvd_left (ih k (by omega) hk)
    have h3 := Int.dvd_sub h1 h2
    rw [sm_sub, sm_congr (g := fun k => (c i * L i i * if i = k then 1 else 0) * (fun _ => 1) k) (fun k hk => ?_), sm_one n i hi] at h3
    · simpa using h3
    · by_cases e1 : i < k
      · rw [h0 k i e1 hk]; simp [e1, show ¬ i = k by omega]
      · by_cases e2 : k = i
        · subst e2; simp
        · simp [e1, e2, show ¬ i = k by omega]
/-- one number in each row, each in a column of its own -/
theorem indep_perm {P : Int} {n : Nat} {M : Nat → Nat → Int} {q : Nat → Nat} (hq : ∀ i, i < n → q i < n) (h : ∀ i k, i < n → k < n → M i (q k) = if i = k then 1 else 0) : Indep P n n M := fun c hc i hi => by
  have := hc (q i) (hq i hi)
  rw [sm_congr (g := fun k => (c i * if i = k then 1 else 0) * (fun _ => 1) k) (fun k hk => ?_), sm_one n i hi] at this
  · simpa using this
  · rw [h k i hk hi]
    by_cases e : i = k
    · subst e; simp
    · simp [e, show ¬ k = i from fun x => e x.symm]
/-- as many independent rows as the rank says -/
theorem HasRank.indep {P : Int} {C R : Nat} {M : Nat → Nat → Int} (hp : primeOk P = true) (hr : ∀ i j, i < R → j < C → 0 ≤ M i j ∧ M i j < P) (h : HasRank P C R M R) : Indep P C R M := fun c hc => by
  obtain ⟨hP, _⟩ := primeOk_range hp
  have key : ∀ d i, i < R → R - 1 - i = d → P ∣ c i := by
    intro d
    induction d using Nat.strongRecOn with
    | _ d ih =>
      intro i hi e
      refine Classical.byContradiction fun hn => ?_
      -- row i lies in what the rows before it span
      have h1 := h.part hp hr (show i + 1 ≤ R by omega)
      have h2 := h.part hp hr (show i ≤ R by omega)
      have hpos : 0 < c i % P := by
        have a := Int.emod_nonneg (c i) (show P ≠ 0 by omega)
        rcases Int.lt_or_eq_of_le a with b | b
        · exact b
        · exact absurd (Int.dvd_of_emod_eq_zero b.symm) hn
      obtain ⟨u, hu⟩ := unit_of hp hpos (Int.emod_lt_of_pos _ (by omega))
      have hu2 : P ∣ u * c i - 1 := by
        have a : P ∣ u * (c i - c i % P) := Int.dvd_mul_of_dvd_right Int.dvd_self_sub_emod
        have := Int.dvd_add hu a
        rwa [Int.mul_sub, show ∀ a b d : Int, a - d + (b - a) = b - d by intros; omega] at this
      have hsp : Sp P C i M (M i) := .of_coef (fun k => - (u * c k)) fun j hj => by
        have a := hc j hj
        have b : P ∣ sm R fun k => (if k ≤ i then 0 else c k * M k j) := sm_dvd fun k hk => by
          by_cases e1 : k ≤ i
          · simp [e1]
          · simp only [e1, if_false]
            exact Int.dvd_mul_of_dvd_left (ih (R - 1 - k) (by omega) k hk rfl)
        have d := Int.dvd_sub a b
        obtain ⟨m, hm⟩ : ∃ m, R = i + 1 + m := ⟨R - (i + 1), by omega⟩
        rw [sm_sub, hm, sm_split, sm_congr (n := m) (g := fun _ => 0) (fun k _ => by simp [show ¬ i + 1 + k ≤ i by omega]), sm_zero, Int.add_zero, sm, sm_congr (n := i) (g := fun k => c k * M k j) (fun k hk => by simp [show k ≤ i by omega])] at d
        simp only [Nat.le_refl, if_true, Int.sub_zero] at d
        have d2 : P ∣ u * ((sm i fun k => c k * M k j) + c i * M i j) := Int.dvd_mul_of_dvd_right d
        have d3 : P ∣ (u * c i - 1) * M i j := Int.dvd_mul_of_dvd_left hu2
        have d4 := Int.dvd_sub d2 d3
        rw [Int.mul_add, sm_mull, Int.sub_mul, Int.one_mul, ← Int.mul_assoc u (c i)] at d4
        have e5 : (sm i fun k => - (u * c k) * M k j) = - sm i fun k => u * (c k * M k j) := by
          have := sm_sub i (fun _ => 0) (fun k => u * (c k * M k j))
          rw [sm_zero] at this
          rw [show ∀ x : Int, -x = 0 - x by intros; omega, this]
          exact sm_congr fun k _ => by rw [Int.neg_mul, Int.mul_assoc]; omega
        rw [e5]
        rwa [show ∀ a b x : Int, a + b - (b - x) = x - -a by intros; omega] at d4
      have h3 : SameSp P C (i + 1) M i M := ⟨fun k hk => by
        by_cases e1 : k < i
        · exact .row e1
        · rw [show k = i by omega]; exact hsp, fun k hk => .row (by omega)⟩
      have := h1.one hP (h2.same h3)
      omega
  exact fun i hi => key _ i hi rfl
theorem emod_rng {P : Int} (hP : 2 ≤ P) (x : Int) : 0 ≤ x % P ∧ x % P < P := ⟨Int.emod_nonneg _ (by omega), Int.emod_lt_of_pos _ (by omega)⟩
theorem emod_dvd (P x : Int) : P ∣ x % P - x := by
  have := Int.dvd_neg.2 (Int.dvd_self_sub_emod (x := x) (m := P))
  rwa [Int.neg_sub] at this
/-- what is spanned, times a matrix -/
theorem Sp.mul {P : Int} {n C R : Nat} {B G : Nat → Nat → Int} {v : Nat → Int} (h : Sp P n R B v) : Sp P C R (pr n B G) (fun j => sm n fun k => v k * G k j) := by
  induction h with
  | zero => exact Sp.zero.eqv (.of_eq fun j _ => by rw [sm_congr (g := fun _ => 0) (fun k _ => by simp), sm_zero])
  | add c i hi _ ih =>
    refine (Sp.add c i hi ih).eqv (.of_eq fun j _ => ?_)
    unfold pr
    rw [sm_mull, ← sm_add]
    exact sm_congr fun k _ => by rw [Int.add_mul, Int.mul_assoc]
  | eqv _ e ih =>
    refine ih.eqv fun j hj => ?_
    rw [sm_sub]
    exact sm_dvd fun k hk => by rw [← Int.sub_mul]; exact Int.dvd_mul_of_dvd_left (e k hk)
/-- the rank of a product with a matrix whose rows are independent -/
theorem HasRank.mul {P : Int} {n C R k : Nat} {M G : Nat → Nat → Int} (hp : primeOk P = true) (h : HasRank P n R M k) (hG : Indep P C n G) : HasRank P C R (fun i j => pr n M G i j % P) k := by
  obtain ⟨hP, _⟩ := primeOk_range hp
  obtain ⟨B, q, h1, h2, h3, h4⟩ := h
  have hi : Indep P C k (fun i j => pr n B G i j % P) := (h1.indep.mul hG).eqv fun i j _ _ => emod_dvd _ _
  have hr := hi.rank hp fun i j _ _ => emod_rng hP _
  have e1 : SameSp P C R (fun i j => pr n M G i j % P) R (pr n M G) := SameSp.of_eqv fun i _ => fun j _ => emod_dvd _ _
  have e2 : SameSp P C k (fun i j => pr n B G i j % P) k (pr n B G) := SameSp.of_eqv fun i _ => fun j _ => emod_dvd _ _
  have e3 : SameSp P C R (pr n M G) k (pr n B G) := ⟨fun i hi => (h4.1 i hi).mul, fun i hi => (h4.2 i hi).mul⟩
  exact hr.same ((e1.trans e3).trans e2.symm)

/-- a square matrix that is right, with independent rows -/
theorem isFl_of {P : Int} {n : Nat} {D : List Int} (hp : primeOk P = true) (h1 : 1 ≤ n) (h7 : n ≤ 7) (hD : D.length = n * n) (hr : ∀ x ∈ D, 0 ≤ x ∧ x < P) (hi : Indep P n n (mf n fun t => D.getD t 0)) : IsFl P n n D := by
  obtain ⟨hP, _⟩ := primeOk_range hp
  have hg := fun t => getD_range hr (show 0 < P by omega) t
  have hok : mxOk P n n D = true := by
    unfold mxOk
    exact decide_eq_true ⟨hp, by omega, by omega, by rw [hD]; push_cast; rfl, hr⟩
  refine ⟨hok, rfl, ?_⟩
  unfold RkIs
  rw [if_pos hok]
  simp only [Int.toNat_natCast]
  exact ⟨n, rfl, Int.le_refl _, hi.rank hp fun i j _ _ => hg _⟩
/-- .. and the other way round -/
theorem IsFl.indep {P : Int} {n : Nat} {D : List Int} (h : IsFl P n n D) : Indep P n n (mf n fun t => D.getD t 0) := by
  obtain ⟨n', e, _, _, _, _, hr, hP, _, hp, hk⟩ := h.facts
  obtain rfl := Int.ofNat.inj e
  exact hk.indep hp fun i j _ _ => getD_range hr (by omega) _
/-- the product of two square matrices that are right -/
theorem mul_sq {P : Int} {n : Nat} {A B : List Int} (hA : mxOk P n n A = true) (hB : mxOk P n n B = true) :
    ∃ D, mulMx ⟨P, n, n, A⟩ ⟨P, n, n, B⟩ = ⟨P, n, n, D⟩ ∧ mulFits ⟨P, n, n, A⟩ ⟨P, n, n, B⟩ = true ∧ D.length = n * n ∧ (∀ x ∈ D, 0 ≤ x ∧ x < P) ∧ ∀ i j, i < n → j < n → mf n (fun t => D.getD t 0) i j = pr n (mf n fun t => A.getD t 0) (mf n fun t => B.getD t 0) i j % P := by
  obtain ⟨_, _, _, _, _, _, _, _, _, hP, _⟩ := mxOk_facts hA
  have hf : mulFits ⟨P, n, n, A⟩ ⟨P, n, n, B⟩ = true := by simp [mulFits, hA, hB]
  refine ⟨(mulRows P n n n A B).flatten, by simp [mulMx, hf], hf, by rw [mulRows_flat_length], fun x hx => ?_, fun i j hi hj => ?_⟩
  · obtain ⟨t, ht, rfl⟩ := List.mem_iff_getElem.1 hx
    have hl : t < n * n := by rwa [mulRows_flat_length] at ht
    have := mulRows_flat_getD (P := P) (A := A) (B := B) (Ca := n) hl
    rw [getD_lt ht] at this
    rw [this]
    exact emod_rng hP _
  · obtain ⟨d1, d2⟩ := div_at (k := i) hj
    have hl := flat_ltW hi hj
    show (mulRows P n n n A B).flatten.getD (i * n + j) 0 = _
    rw [mulRows_flat_getD hl, d1, d2]
    unfold mulAt pr
    rw [sumTo_sm]
    rfl

end Go.Proofs.Ytpfefjdefopccaa

namespace Go.Proofs.Ytpfefjdefopccaa
set_option linter.all false
open Go.RowKit

/-- what the rows of a normal form look like -/
structure Nf (P : Int) (n : Nat) (X : Nat → Nat → Int) (q : Nat → Nat) (m : Nat) : Prop where
  lt : ∀ k, k < m → q k < n
  zero : ∀ k j, k < m → j < q k → X k j = 0
  one : ∀ k, k < m → X k (q k) = 1
  early : ∀ k l, k < m → l < k → X k (q l) = 0
  rng : ∀ k j, k < m → j < n → 0 ≤ X k j ∧ X k j < P

theorem elN_early {P : Int} {X : Nat → Nat → Int} {q : Nat → Nat} {r : Nat → Int} : ∀ t, (∀ k, k < t → X k (q k) = 1) → (∀ k l, k < t → l < k → X k (q l) = 0) → ∀ l, l < t → elN P X q r t (q l) = 0
  | 0, _, _, l, hl => absurd hl (by omega)
  | t + 1, h1, h2, l, hl => by
    unfold elN
    by_cases e : l = t
    · subst e
      rw [h1 l (by omega), Int.mul_one, show elN P X q r l (q l) + (P - elN P X q r l (q l)) = P from by omega, Int.emod_self]
    · rw [elN_early t (fun k hk => h1 k (by omega)) (fun k l hk hl => h2 k l (by omega) hl) l (by omega), h2 t l (by omega) (by omega)]
      simp
theorem NfUp.nf {P : Int} {n : Nat} {M0 X : Nat → Nat → Int} {q : Nat → Nat} (hP : 2 ≤ P) : ∀ m, NfUp P n M0 X q m → Nf P n X q m
  | 0, _ => ⟨fun _ h => absurd h (by omega), fun _ _ h => absurd h (by omega), fun _ h => absurd h (by omega), fun _ _ h => absurd h (by omega), fun _ _ h => absurd h (by omega)⟩
  | m + 1, h => by
    have ih := NfUp.nf hP m (fun k hk => h k (by omega))
    obtain ⟨a, b, c, v, d, e⟩ := h m (by omega)
    have hone : ∀ k, k < m + 1 → X k (q k) = 1 := fun k hk => by
      by_cases ek : k = m
      · subst ek; rw [e _ a, d]
      · exact ih.one k (by omega)
    refine ⟨fun k hk => (h k hk).1, fun k j hk hj => ?_, hone, fun k l hk hl => ?_, fun k j hk hj => h.rng hP k j hk hj⟩
    · by_cases ek : k = m
      · subst ek; rw [e j (by omega), b j hj]; simp
      · exact ih.zero k j (by omega) hj
    · by_cases ek : k = m
      · subst ek
        rw [e _ (h l (by omega)).1, elN_early k (fun t ht => ih.one t ht) (fun t s ht hs => ih.early t s ht hs) l hl]; simp
      · exact ih.early k l (by omega) hl

theorem sm_but {p : Int} {l : Nat} {f : Nat → Int} : ∀ n, l < n → (∀ t, t < n → t ≠ l → p ∣ f t) → p ∣ sm n f - f l
  | 0, hl, _ => absurd hl (by omega)
  | n + 1, hl, h => by
    by_cases e : l = n
    · subst e
      have := sm_dvd (p := p) (n := l) (f := f) (fun i hi => h i (by omega) (by omega))
      simp only [sm]
      rwa [show sm l f + f l - f l = sm l f from by omega]
    · have h1 := sm_but n (by omega) (fun t ht hne => h t (by omega) hne)
      have h2 := h n (by omega) (fun c => e c.symm)
      simp only [sm]
      have := Int.dvd_add h1 h2
      rwa [show sm n f - f l + f n = sm n f + f n - f l from by omega] at this

/-- a row in the span of the rows so far, with 0 where the others begin, is a multiple of the last -/
theorem Nf.mult {P : Int} {n i : Nat} {X : Nat → Nat → Int} {q : Nat → Nat} {v : Nat → Int} (h : Nf P n X q (i + 1)) (hv : Sp P n (i + 1) X v) (h0 : ∀ l, l < i → v (q l) = 0) : ∃ c : Int, ∀ j, j < n → P ∣ v j - c * X i j := by
  obtain ⟨c, hc⟩ := hv.coef
  have hz : ∀ l, l < i → P ∣ c l := by
    intro l
    induction l using Nat.strongRecOn with
    | ind l ih =>
      intro hl
      have h1 := hc (q l) (h.lt l (by omega))
      rw [h0 l hl] at h1
      have h2 := sm_but (p := P) (l := l) (f := fun t => c t * X t (q l)) (i + 1) (by omega) (fun t ht hne => by
        by_cases e : t < l
        · exact Int.dvd_trans (ih t e (by omega)) ⟨_, rfl⟩
        · simp only [h.early t l ht (by omega)]; simp)
      simp only [h.one l (by omega), Int.mul_one] at h2
      have := Int.dvd_add h1 h2
      rw [show (0 - sm (i + 1) fun t => c t * X t (q l)) + ((sm (i + 1) fun t => c t * X t (q l)) - c l) = -c l from by omega] at this
      exact (Int.dvd_neg).1 this
  refine ⟨c i, fun j hj => ?_⟩
  have h2 := sm_but (p := P) (l := i) (f := fun t => c t * X t j) (i + 1) (by omega) (fun t ht hne => Int.dvd_trans (hz t (by omega)) ⟨_, rfl⟩)
  have := Int.dvd_add (hc j hj) h2
  rwa [show (v j - sm (i + 1) fun t => c t * X t j) + ((sm (i + 1) fun t => c t * X t j) - c i * X i j) = v j - c i * X i j from by omega] at this

theorem rng_eq {P x y : Int} (hx : 0 ≤ x ∧ x < P) (hy : 0 ≤ y ∧ y < P) (h : P ∣ x - y) : x = y := by
  have h1 := Int.emod_emod_of_dvd (x - y) (Int.dvd_refl P)
  have h2 : (x - y) % P = 0 := Int.emod_eq_zero_of_dvd h
  have h3 := Int.emod_eq_emod_iff_emod_sub_eq_zero.2 h2
  rwa [Int.emod_eq_of_lt hx.1 hx.2, Int.emod_eq_of_lt hy.1 hy.2] at h3

theorem Nf.same {P : Int} {n m : Nat} {X X' : Nat → Nat → Int} {q q' : Nat → Nat} (hP : 2 ≤ P) (h : Nf P n X q m) (h' : Nf P n X' q' m) (hs : ∀ i, i ≤ m → SameSp P n i X i X') :
    ∀ i, i ≤ m → (∀ k, k < i → q k = q' k) ∧ ∀ k j, k < i → j < n → X k j = X' k j
  | 0, _ => ⟨fun _ h => absurd h (by omega), fun _ _ h => absurd h (by omega)⟩
  | i + 1, hi => by
    obtain ⟨e1, e2⟩ := Nf.same hP h h' hs i (by omega)
    have hp : ∀ {Y r}, Nf P n Y r m → Nf P n Y r (i + 1) := fun g => ⟨fun k hk => g.lt k (by omega), fun k j hk => g.zero k j (by omega), fun k hk => g.one k (by omega), fun k l hk => g.early k l (by omega), fun k j hk => g.rng k j (by omega)⟩
    have s := hs (i + 1) hi
    obtain ⟨c, hc⟩ := (hp h').mult (v := X i) (s.1 i (by omega)) (fun l hl => by rw [← e1 l hl]; exact h.early i l (by omega) hl)
    obtain ⟨d, hd⟩ := (hp h).mult (v := X' i) (s.2 i (by omega)) (fun l hl => by rw [e1 l hl]; exact h'.early i l (by omega) hl)
    have hq : q i = q' i := by
      rcases Nat.lt_trichotomy (q i) (q' i) with g | g | g
      · have := hc (q i) (h.lt i (by omega))
        rw [h.one i (by omega), h'.zero i _ (by omega) g] at this
        exact absurd (by simpa using this) (Red.not_dvd_one hP)
      · exact g
      · have := hd (q' i) (h'.lt i (by omega))
        rw [h'.one i (by omega), h.zero i _ (by omega) g] at this
        exact absurd (by simpa using this) (Red.not_dvd_one hP)
    have h1 : P ∣ 1 - c := by
      have := hc (q i) (h.lt i (by omega))
      rw [h.one i (by omega), hq, h'.one i (by omega)] at this
      simpa using this
    have hx : ∀ j, j < n → X i j = X' i j := fun j hj => by
      refine rng_eq (h.rng i j (by omega) hj) (h'.rng i j (by omega) hj) ?_
      have h2 : P ∣ (1 - c) * X' i j := Int.dvd_trans h1 ⟨_, rfl⟩
      have h3 := Int.dvd_sub (hc j hj) h2
      rwa [show X i j - c * X' i j - (1 - c) * X' i j = X i j - X' i j from by rw [Int.sub_mul]; omega] at h3
    refine ⟨fun k hk => ?_, fun k j hk hj => ?_⟩
    · by_cases ek : k = i
      · subst ek; exact hq
      · exact e1 k (by omega)
    · by_cases ek : k = i
      · subst ek; exact hx j hj
      · exact e2 k j (by omega) hj

/-- two flags with the same members have one normal form -/
theorem NfUp.fix {P : Int} {n : Nat} {M M' X X' : Nat → Nat → Int} {q q' : Nat → Nat} (hP : 2 ≤ P) (h : NfUp P n M X q n) (h' : NfUp P n M' X' q' n) (hs : ∀ i, i ≤ n → SameSp P n i M i M') :
    (∀ k, k < n → q k = q' k) ∧ ∀ k j, k < n → j < n → X k j = X' k j :=
  (h.nf hP).same hP (h'.nf hP) (fun i hi => ((NfUp.same hP i (fun k hk => h k (by omega))).symm.trans (hs i hi)).trans (NfUp.same hP i (fun k hk => h' k (by omega)))) n (Nat.le_refl _)
/-- a normal form is its own -/
theorem NfUp.own {P : Int} {n : Nat} {M X' : Nat → Nat → Int} {q q' : Nat → Nat} (hP : 2 ≤ P) (h : Nf P n M q n) (h' : NfUp P n M X' q' n) :
    (∀ k, k < n → q k = q' k) ∧ ∀ k j, k < n → j < n → M k j = X' k j :=
  h.same hP (h'.nf hP) (fun i hi => NfUp.same hP i (fun k hk => h' k (by omega))) n (Nat.le_refl _)
theorem Nf.inj {P : Int} {n m : Nat} {X : Nat → Nat → Int} {q : Nat → Nat} (h : Nf P n X q m) {k l : Nat} (hk : k < m) (hl : l < m) (e : q k = q l) : k = l := by
  rcases Nat.lt_trichotomy k l with g | g | g
  · have h1 := h.early l k hl g
    rw [e, h.one l hl] at h1; omega
  · exact g
  · have h1 := h.early k l hk g
    rw [← e, h.one k hk] at h1; omega
/-- rows added to later ones -/
theorem same_added {P : Int} {n : Nat} {M M' : Nat → Nat → Int} : ∀ m, (∀ i, i < m → ∃ s : Nat → Int, Sp P n i M' s ∧ Eqv P n (M' i) (fun j => M i j + s j)) → ∀ i, i ≤ m → SameSp P n i M i M'
  | 0, _, i, hi => by
    have : i = 0 := by omega
    subst this; exact ⟨fun _ h => absurd h (by omega), fun _ h => absurd h (by omega)⟩
  | m + 1, h, i, hi => by
    by_cases e : i = m + 1
    · subst e
      have ih := same_added m (fun k hk => h k (by omega)) m (Nat.le_refl _)
      obtain ⟨s, hs, es⟩ := h m (by omega)
      refine ⟨fun k hk => ?_, fun k hk => ?_⟩
      · by_cases ek : k = m
        · subst ek
          refine Sp.eqv ((Sp.row (M := M') (i := k) (by omega)).sub (hs.mono (by omega))) (fun j hj => by have := es j hj; rwa [show M' k j - (M k j + s j) = M' k j - s j - M k j from by omega] at this)
        · exact (ih.1 k (by omega)).mono (by omega)
      · by_cases ek : k = m
        · subst ek
          refine Sp.eqv ((Sp.row (M := M) (i := k) (by omega)).sum ((hs.trans (fun l hl => ih.2 l hl)).mono (by omega))) (fun j hj => by have := es.symm j hj; exact this)
        · exact (ih.2 k (by omega)).mono (by omega)
    · exact same_added m (fun k hk => h k (by omega)) i (by omega)

end Go.Proofs.Ytpfefjdefopccaa

namespace Go.Proofs.Ytpfefjdefopccaa
set_option linter.all false
open Go.RowKit

set_option maxRecDepth 100000 in
set_option maxHeartbeats 400000 in
theorem cloneRows_any (v : Value) (n : Nat) (f : Nat → Value) (w : World) (h : Rd w v n f) (h1 : ∀ j, j < n → (f j).oneCell' = true) (hl : n ≤ 1000) :
    Calls Try.prog 40 #[v] w fun e w' => ∃ u, e = .returned u ∧ OwnF w' w.heap.size w'.heap.size 24 u n f ∧ Below w.heap.size w w' := by
  have hI := Lib.hid h
  have H1 := Lib.hid h1
  obtain ⟨p, cap, rfl, ⟨hx1, hx2⟩, hxc⟩ := h
  have keq := fun (n c : Nat) => Lib.run_eql_slice_nil (P := Try.prog) w 30 24 p n c 0 0 Try.underlying30
  cases p with
  | none =>
    have hx0 : n = 0 := by
      rcases Nat.eq_zero_or_pos n with h0 | h0
      · exact h0
      · obtain ⟨b, off, e, _⟩ := hxc h0; cases e
    subst hx0
    clear hxc hI
    go_enter Try.func40, Try.ntmps40
    go_wp2_with fail
    go_ret
    exact ⟨_, rfl, OwnF.nil _ _ _ _ _, Below.refl _ _⟩
  | some a =>
    have Hb1 := Lib.hid (show 0 + n ≤ maxLen by unfold maxLen; omega)
    have Hb2 := Lib.hid (show (0 + n) * 24 ≤ 140737488355328 by omega)
    clear hxc h1
    go_enter Try.func40, Try.ntmps40
    go_wp2_with (at_builtin; go_must (refine wpList_append_F rfl (.tmp 5) (.tmp 6) 30 rfl 24 (.slice none 0 0) 24 Try.underlying30 info_sl rfl w.heap.size (w.heap.size + 1) _ 0 (fun _ => undef) rfl (OwnF.made0 w _ _) (by simp) (by simp) _ _ _ rfl (hI.out.below (below_alloc w _)) H1.out Hb1.out Hb2.out ?_; intro v' w' ho' hg'))
    go_ret
    refine ⟨_, rfl, ?_, (below_alloc w _).trans (grownBy_below hg' (OwnF.made0 w 24 (fun _ => undef)).blocks (Nat.le_refl _) (by simp))⟩
    rw [Nat.zero_add] at ho'
    exact ho'.congr fun j _ => by simp

/-- rows that can be read, one list behind another one -/
theorem rdII_join {T : TypeId} {w : World} {lo hi : Nat} {v : Value} {a b : List (List Int)} {f g : Nat → Value} (h : OwnF w lo hi T v (a.length + b.length) (fun j => if j < a.length then f j else g (j - a.length)))
    (hf : ∀ i, i < a.length → Ints w (f i) (a.getD i [])) (hg : ∀ i, i < b.length → Ints w (g i) (b.getD i [])) : RdII w v (a ++ b) := by
  refine ⟨_, by rw [List.length_append]; exact h.rd, fun i hi => ?_⟩
  rw [List.length_append] at hi
  by_cases e : i < a.length
  · simp only [e, if_true]
    rw [show (a ++ b).getD i [] = a.getD i [] by simp [List.getD_eq_getElem?_getD, List.getElem?_append_left e]]
    exact hf i e
  · simp only [e, if_false]
    rw [show (a ++ b).getD i [] = b.getD (i - a.length) [] by simp [List.getD_eq_getElem?_getD, List.getElem?_append_right (Nat.le_of_not_lt e)]]
    exact hg _ (by omega)
theorem Ints.one {w : World} {v : Value} {xs : List Int} (h : Ints w v xs) : v.oneCell' = true := by
  obtain ⟨p, cap, rfl, _⟩ := h
  rfl
theorem Ints.grown {T : TypeId} {w w' : World} {lo hi n : Nat} {v u : Value} {f : Nat → Value} {xs : List Int} {B : Nat} (h : Ints w u xs) (hb : Below B w w') (hu : ∀ b, (∃ n c o, u = .slice (some ⟨b, o, none⟩) n c) → b < B) : Ints w' u xs := by
  obtain ⟨p, cap, rfl, hm, hc⟩ := h
  refine ⟨p, cap, rfl, hm, fun h0 => ?_⟩
  obtain ⟨b, off, rfl, hx⟩ := hc h0
  exact ⟨b, off, rfl, fun j hj => by
    have := hx j hj
    rw [hb.cell (hu b ⟨_, _, _, rfl⟩)]
    exact this⟩
/-- behind what changed from B on: rows that lay below B -/
theorem Ints.up {w0 w w' : World} {u : Value} {xs : List Int} (h : Ints w0 u xs) (hb : Below w0.heap.size w0 w') : Ints w' u xs := h.below hb

set_option maxRecDepth 100000 in
set_option maxHeartbeats 1000000 in
theorem common_any (P : Int) (C : Nat) (u v : Value) (A B : List (List Int)) (w : World) (hu : RdII w u A) (hv : RdII w v B) (hA : RowsOk P C A) (hB : RowsOk P C B) (hp : primeOk P = true) (hlA : A.length ≤ 40) (hlB : B.length ≤ 40) (hC : C ≤ 100) :
    Calls Try.prog 21 #[u, v, .int .i64 P] w fun e w' => ∃ n : Nat, e = .returned (.int .i64 ((A.length : Int) + (B.length : Int) - (n : Int))) ∧ HasRank P C (A.length + B.length) (mt (A ++ B)) n ∧ Below w.heap.size w w' := by
  obtain ⟨f, hf, hfi⟩ := hu
  obtain ⟨g, hg, hgi⟩ := hv
  obtain ⟨NA, hNA⟩ : ∃ n, n = A.length := ⟨_, rfl⟩
  obtain ⟨NB, hNB⟩ : ∃ n, n = B.length := ⟨_, rfl⟩
  rw [← hNA, ← hNB]
  rw [← hNA] at hf hfi hlA
  rw [← hNB] at hg hgi hlB
  have Hf := Lib.hid hf
  have Hg := Lib.hid hg
  have Hfi := Lib.hid hfi
  have Hgi := Lib.hid hgi
  have HA := Lib.hid hA
  have HB := Lib.hid hB
  have Hp := Lib.hid hp
  obtain ⟨pu, ku, rfl, ⟨_, mu⟩, _⟩ := hf
  obtain ⟨pv, kv, rfl, ⟨_, mv⟩, _⟩ := hg
  unfold maxLen at mu mv
  have HNA := Lib.hid hNA
  have HNB := Lib.hid hNB
  have Hl1 := Lib.hid (show NA + NB ≤ maxLen by unfold maxLen; omega)
  have Hl2 := Lib.hid (show (NA + NB) * 24 ≤ 140737488355328 by omega)
  clear hfi hgi hA hB hp hNA hNB
  go_enter Try.func21, Try.ntmps21
  go_wp2_with fail
  refine (cloneRows_any _ NA f _ Hf.out (fun j hj => (Hfi.out j hj).one) (by omega)).mono ?_
  rintro e w1 ⟨y, rfl, ho, hb⟩
  obtain ⟨py, ky, rfl, _, _⟩ := ho.shape
  have hs1 := hb.size
  have Ho := Lib.hid ho
  have Hb := Lib.hid hb
  clear ho hb
  go_wp2_with (at_builtin; go_must (refine wpList_append_F rfl (.tmp 13) (.tmp 14) 30 rfl 24 (.slice none 0 0) 24 Try.underlying30 info_sl rfl w.heap.size w1.heap.size _ NA _ rfl Ho.out hs1 (Nat.le_refl _) _ _ _ rfl (Rd.below Hg.out Hb.out) (fun j hj => (Hgi.out j hj).one) Hl1.out Hl2.out ?_; intro v' w2 ho' hg'))
  have hb2 : Below w.heap.size w w2 := Hb.out.trans (grownBy_below hg' Ho.out.blocks (Nat.le_refl _) hs1)
  rw [HNA.out, HNB.out] at ho'
  have hr := rdII_join ho' (fun i hi => (Hfi.out i (by rw [HNA.out]; exact hi)).below hb2) (fun i hi => (Hgi.out i (by rw [HNB.out]; exact hi)).below hb2)
  rw [← HNA.out, ← HNB.out] at ho'
  obtain ⟨pj, kj, rfl, _, _⟩ := ho'.shape
  obtain ⟨J, hJ⟩ : ∃ J, J = A ++ B := ⟨_, rfl⟩
  have hJl : J.length = NA + NB := by rw [hJ, List.length_append, ← HNA.out, ← HNB.out]
  rw [← hJ] at hr
  have Hr := Lib.hid hr
  have HJ := Lib.hid hJ
  have HJl := Lib.hid hJl
  have Hb2 := Lib.hid hb2
  clear hr hJ hb2 ho' hg' hJl
  go_wp2_with fail
  refine (reduced_any _ J C P _ Hr.out (by rw [HJ.out]; exact RowsOk.join HA.out HB.out) Hp.out (by rw [HJl.out]; omega) hC).mono ?_
  rintro e w3 ⟨y, L, q, rfl, hoR, hb3, hR1, hR2, hR3, hR4, hR5⟩
  obtain ⟨pr, kr, rfl, hkr1, hkr2⟩ := hoR.shape
  unfold maxLen at hkr2
  rw [HJl.out] at hR5
  have hrank : HasRank P C (NA + NB) (mt J) L.length := by
    refine ⟨mt L, q, hR2, hR3, fun i j hi hj => (hR1 i hi).2 j, ?_⟩
    rw [← HJl.out]; exact hR4
  have Hrank := Lib.hid hrank
  have Hb3 := Lib.hid (Hb2.out.trans (hb3.mono Hb2.out.size))
  clear hrank hb3 hoR hR1 hR2 hR3 hR4
  go_wp2_with fail
  go_ret
  refine ⟨L.length, rfl, ?_, Hb3.out⟩
  rw [← HJ.out]; exact Hrank.out


theorem list_range (D : List Int) {n : Nat} (h : n ≤ D.length) : (List.range n).map (fun t => D.getD t 0) = D.take n := by
  apply List.ext_getElem (by simp; omega)
  intro i h1 h2
  simp at h1
  simp [List.getD_eq_getElem?_getD, show i < D.length by omega]
theorem take_getD {D : List Int} {n t : Nat} (h : t < n) : (D.take n).getD t 0 = D.getD t 0 := by simp [List.getD_eq_getElem?_getD, List.getElem?_take, h]
theorem flat_lt {n C i c : Nat} (hi : i < n) (hc : c < C) : i * C + c < n * C := by
  have : (i + 1) * C ≤ n * C := Nat.mul_le_mul_right C hi
  rw [Nat.succ_mul] at this
  omega
theorem take_rng {P : Int} {D : List Int} {n : Nat} (hP : 0 < P) (h : ∀ t, 0 ≤ D.getD t 0 ∧ D.getD t 0 < P) (t : Nat) : 0 ≤ (D.take n).getD t 0 ∧ (D.take n).getD t 0 < P := by
  by_cases e : t < n
  · rw [take_getD e]; exact h t
  · rw [List.getD_eq_getElem?_getD, List.getElem?_take, if_neg e]; simp; exact hP
theorem HasRank.take {P : Int} {C n k : Nat} {D : List Int} (h : HasRank P C n (mf C fun t => (D.take (n * C)).getD t 0) k) : HasRank P C n (mf C fun t => D.getD t 0) k :=
  h.congr fun i j hi hj => (take_getD (flat_lt hi hj)).symm


end Go.Proofs.Ytpfefjdefopccaa
