/-
  Products of matrices: rows that are independent stay so, the rank is kept (plain law; no program in sight).
  The draws: a flag.
  The draws: a flag, walked.
  The draws: a space, two spaces.
  IsShape, and a shape in a box, on both sides.
-/
import Derived.Test.YtoodgbflaaabmaaJ9
import Derived.Test.YtoodgbflaaabmaaJ8
import Derived.Test.YtoodgbflaaabmaaJ10
import Derived.Test.YtoodgbflaaabmaaJ11
import Derived.Test.YtoodgbflaaabmaaJ3
import Derived.Test.YtoodgbflaaabmaaJ4
namespace Go.Proofs.Ytoodgbflaaabmaa
set_option linter.all false

theorem sumTo_sm (n : Nat) (f : Nat → Int) : sumTo n f = sm n f := by
  induction n with
  | zero => rfl
  | succ n ih => simp only [sumTo, sm, ih]
theorem sm_mulr (n : Nat) (f : Nat → Int) (x : Int) : sm n f * x = sm n fun i => f i * x := by
  induction n with
  | zero => simp [sm]
  | succ n ih => simp only [sm, Int.add_mul, ih]
theorem sm_mull (n : Nat) (f : Nat → Int) (x : Int) : x * sm n f = sm n fun i => x * f i := by
  induction n with
  | zero => simp [sm]
  | succ n ih => simp only [sm, Int.mul_add, ih]
theorem sm_swap (n m : Nat) (f : Nat → Nat → Int) : (sm n fun i => sm m fun k => f i k) = sm m fun k => sm n fun i => f i k := by
  induction n with
  | zero => simp only [sm]; exact (sm_zero m).symm
  | succ n ih => simp only [sm, ih]; rw [← sm_add]

/-- the product -/
def pr (n : Nat) (A B : Nat → Nat → Int) (i j : Nat) : Int := sm n fun k => A i k * B k j
/-- a sum of rows of a product is the product of the sum of rows -/
theorem pr_comb (n R : Nat) (X H : Nat → Nat → Int) (c : Nat → Int) (j : Nat) : (sm R fun i => c i * pr n X H i j) = sm n fun k => (sm R fun i => c i * X i k) * H k j := by
  unfold pr
  have e : (sm R fun i => c i * sm n fun k => X i k * H k j) = sm R fun i => sm n fun k => c i * X i k * H k j :=
    sm_congr fun i _ => by rw [sm_mull]; exact sm_congr fun k _ => by rw [Int.mul_assoc]
  rw [e, sm_swap]
  exact sm_congr fun k _ => (sm_mulr R _ _).symm
theorem Indep.mul {P : Int} {R n C : Nat} {X H : Nat → Nat → Int} (hX : Indep P n R X) (hH : Indep P C n H) : Indep P C R (pr n X H) := fun c hc => by
  refine hX c fun k hk => hH (fun k => sm R fun i => c i * X i k) (fun j hj => ?_) k hk
  rw [← pr_comb]
  exact hc j hj
theorem Indep.eqv {P : Int} {C R : Nat} {M M' : Nat → Nat → Int} (h : Indep P C R M) (e : ∀ i j, i < R → j < C → P ∣ M' i j - M i j) : Indep P C R M' := fun c hc => by
  refine h c fun j hj => ?_
  have h1 : P ∣ sm R fun i => c i * (M' i j - M i j) := sm_dvd fun i hi => Int.dvd_mul_of_dvd_right (e i j hi hj)
  have h2 := Int.dvd_sub (hc j hj) h1
  rwa [sm_sub, sm_congr (g := fun i => c i * M i j) (fun i _ => by rw [Int.mul_sub]; omega)] at h2
theorem dvd_unit {P x u c : Int} (hu : P ∣ u * x - 1) (h : P ∣ c * x) : P ∣ c := by
  have h1 : P ∣ u * (c * x) := Int.dvd_mul_of_dvd_right h
  have h2 : P ∣ c * (u * x - 1) := Int.dvd_mul_of_dvd_right hu
  have h3 := Int.dvd_sub h1 h2
  rw [Int.mul_sub, Int.mul_one, show u * (c * x) = c * (u * x) by rw [← Int.mul_assoc, ← Int.mul_assoc, Int.mul_comm u c]] at h3
  rwa [show ∀ a b : Int, a - (a - b) = b by intros; omega] at h3
theorem unit_of {P x : Int} (hp : primeOk P = true) (h0 : 0 < x) (h1 : x < P) : ∃ u, P ∣ u * x - 1 := by
  obtain ⟨k, _, _, e⟩ := inv_ex hp h0 h1
  refine ⟨k, ?_⟩
  have := Int.dvd_self_sub_emod (x := k * x) (m := P)
  rwa [e] at this
/-- 0 above the diagonal -/
theorem indep_low {P : Int} {n : Nat} {L : Nat → Nat → Int} (hd : ∀ i, i < n → ∃ u, P ∣ u * L i i - 1) (h0 : ∀ i j, i < j → j < n → L i j = 0) : Indep P n n L := fun c hc => by
  have key : ∀ d i, i < n → n - 1 - i = d → P ∣ c i := by
    intro d
    induction d using Nat.strongRecOn with
    | _ d ih =>
      intro i hi e
      obtain ⟨u, hu⟩ := hd i hi
      refine dvd_unit hu ?_
      have h1 := hc i hi
      have h2 : P ∣ sm n fun k => (if k < i then 0 else if k = i then 0 else c k * L k i) := sm_dvd fun k hk => by
        by_cases e1 : k < i
        · simp [e1]
        · by_cases e2 : k = i
          · simp [e1, e2]
          · simp only [e1, e2, if_false]
            exact Int.dvd_mul_of_dvd_left (ih (n - 1 - k) (by omega) k hk rfl)
      have h3 := Int.dvd_sub h1 h2
      rw [sm_sub, sm_congr (g := fun k => (c i * L i i * if i = k then 1 else 0) * (fun _ => 1) k) (fun k hk => ?_), sm_one n i hi] at h3
      · simpa using h3
      · by_cases e1 : k < i
        · rw [h0 k i e1 hi]; simp [e1, show ¬ i = k by omega]
        · by_cases e2 : k = i
          · subst e2; simp
          · simp [e1, e2, show ¬ i = k by omega]
  exact fun i hi => key _ i hi rfl
/-- 0 below the diagonal -/
theorem indep_up {P : Int} {n : Nat} {L : Nat → Nat → Int} (hd : ∀ i, i < n → ∃ u, P ∣ u * L i i - 1) (h0 : ∀ i j, j < i → i < n → L i j = 0) : Indep P n n L := fun c hc => by
  intro i
  induction i using Nat.strongRecOn with
  | _ i ih =>
    intro hi
    obtain ⟨u, hu⟩ := hd i hi
    refine dvd_unit hu ?_
    have h1 := hc i hi
    have h2 : P ∣ sm n fun k => (if i < k then 0 else if k = i then 0 else c k * L k i) := sm_dvd fun k hk => by
      by_cases e1 : i < k
      · simp [e1]
      · by_cases e2 : k = i
        · simp [e1, e2]
        · simp only [e1, e2, if_false]
          exact Int.dvd_mul_of_dvd_left (ih k (by omega) hk)
    have h3 := Int.dvd_sub h1 h2
    rw [sm_sub, sm_congr (g := fun k => (c i * L i i * if i = k then 1 else 0) * (fun _ => 1) k) (fun k hk => ?_), sm_one n i hi] at h3
    · simpa using h3
    · by_cases e1 : i < k
      · rw [h0 k i e1 hk]; simp [e1, show ¬ i = k by omega]
      · by_cases e2 : k = i
        · subst e2; simp
        · simp [e1, e2, show ¬ i = k by omega]
/-- one number in each row, each in a column of its own -/
theorem indep_perm {P : Int} {n : Nat} {M : Nat → Nat → Int} {q : Nat → Nat} (hq : ∀ i, i < n → q i < n) (h : ∀ i k, i < n → k < n → M i (q k) = if i = k then 1 else 0) : Indep P n n M := fun c hc i hi => by
  have := hc (q i) (hq i hi)
  rw [sm_congr (g := fun k => (c i * if i = k then 1 else 0) * (fun _ => 1) k) (fun k hk => ?_), sm_one n i hi] at this
  · simpa using this
  · rw [h k i hk hi]
    by_cases e : i = k
    · subst e; simp
    · simp [e, show ¬ k = i from fun x => e x.symm]
/-- as many independent rows as the rank says -/
theorem HasRank.indep {P : Int} {C R : Nat} {M : Nat → Nat → Int} (hp : primeOk P = true) (hr : ∀ i j, i < R → j < C → 0 ≤ M i j ∧ M i j < P) (h : HasRank P C R M R) : Indep P C R M := fun c hc => by
  obtain ⟨hP, _⟩ := primeOk_range hp
  have key : ∀ d i, i < R → R - 1 - i = d → P ∣ c i := by
    intro d
    induction d using Nat.strongRecOn with
    | _ d ih =>
      intro i hi e
      refine Classical.byContradiction fun hn => ?_
      -- row i lies in what the rows before it span
      have h1 := h.part hp hr (show i + 1 ≤ R by omega)
      have h2 := h.part hp hr (show i ≤ R by omega)
      have hpos : 0 < c i % P := by
        have a := Int.emod_nonneg (c i) (show P ≠ 0 by omega)
        rcases Int.lt_or_eq_of_le a with b | b
        · exact b
        · exact absurd (Int.dvd_of_emod_eq_zero b.symm) hn
      obtain ⟨u, hu⟩ := unit_of hp hpos (Int.emod_lt_of_pos _ (by omega))
      have hu2 : P ∣ u * c i - 1 := by
        have a : P ∣ u * (c i - c i % P) := Int.dvd_mul_of_dvd_right Int.dvd_self_sub_emod
        have := Int.dvd_add hu a
        rwa [Int.mul_sub, show ∀ a b d : Int, a - d + (b - a) = b - d by intros; omega] at this
      have hsp : Sp P C i M (M i) := .of_coef (fun k => - (u * c k)) fun j hj => by
        have a := hc j hj
        have b : P ∣ sm R fun k => (if k ≤ i then 0 else c k * M k j) := sm_dvd fun k hk => by
          by_cases e1 : k ≤ i
          · simp [e1]
          · simp only [e1, if_false]
            exact Int.dvd_mul_of_dvd_left (ih (R - 1 - k) (by omega) k hk rfl)
        have d := Int.dvd_sub a b
        obtain ⟨m, hm⟩ : ∃ m, R = i + 1 + m := ⟨R - (i + 1), by omega⟩
        rw [sm_sub, hm, sm_split, sm_congr (n := m) (g := fun _ => 0) (fun k _ => by simp [show ¬ i + 1 + k ≤ i by omega]), sm_zero, Int.add_zero, sm, sm_congr (n := i) (g := fun k => c k * M k j) (fun k hk => by simp [show k ≤ i by omega])] at d
        simp only [Nat.le_refl, if_true, Int.sub_zero] at d
        have d2 : P ∣ u * ((sm i fun k => c k * M k j) + c i * M i j) := Int.dvd_mul_of_dvd_right d
        have d3 : P ∣ (u * c i - 1) * M i j := Int.dvd_mul_of_dvd_left hu2
        have d4 := Int.dvd_sub d2 d3
        rw [Int.mul_add, sm_mull, Int.sub_mul, Int.one_mul, ← Int.mul_assoc u (c i)] at d4
        have e5 : (sm i fun k => - (u * c k) * M k j) = - sm i fun k => u * (c k * M k j) := by
          have := sm_sub i (fun _ => 0) (fun k => u * (c k * M k j))
          rw [sm_zero] at this
          rw [show ∀ x : Int, -x = 0 - x by intros; omega, this]
          exact sm_congr fun k _ => by rw [Int.neg_mul, Int.mul_assoc]; omega
        rw [e5]
        rwa [show ∀ a b x : Int, a + b - (b - x) = x - -a by intros; omega] at d4
      have h3 : SameSp P C (i + 1) M i M := ⟨fun k hk => by
        by_cases e1 : k < i
        · exact .row e1
        · rw [show k = i by omega]; exact hsp, fun k hk => .row (by omega)⟩
      have := h1.one hP (h2.same h3)
      omega
  exact fun i hi => key _ i hi rfl
theorem emod_rng {P : Int} (hP : 2 ≤ P) (x : Int) : 0 ≤ x % P ∧ x % P < P := ⟨Int.emod_nonneg _ (by omega), Int.emod_lt_of_pos _ (by omega)⟩
theorem emod_dvd (P x : Int) : P ∣ x % P - x := by
  have := Int.dvd_neg.2 (Int.dvd_self_sub_emod (x := x) (m := P))
  rwa [Int.neg_sub] at this
/-- what is spanned, times a matrix -/
theorem Sp.mul {P : Int} {n C R : Nat} {B G : Nat → Nat → Int} {v : Nat → Int} (h : Sp P n R B v) : Sp P C R (pr n B G) (fun j => sm n fun k => v k * G k j) := by
  induction h with
  | zero => exact Sp.zero.eqv (.of_eq fun j _ => by rw [sm_congr (g := fun _ => 0) (fun k _ => by simp), sm_zero])
  | add c i hi _ ih =>
    refine (Sp.add c i hi ih).eqv (.of_eq fun j _ => ?_)
    unfold pr
    rw [sm_mull, ← sm_add]
    exact sm_congr fun k _ => by rw [Int.add_mul, Int.mul_assoc]
  | eqv _ e ih =>
    refine ih.eqv fun j hj => ?_
    rw [sm_sub]
    exact sm_dvd fun k hk => by rw [← Int.sub_mul]; exact Int.dvd_mul_of_dvd_left (e k hk)
/-- the rank of a product with a matrix whose rows are independent -/
theorem HasRank.mul {P : Int} {n C R k : Nat} {M G : Nat → Nat → Int} (hp : primeOk P = true) (h : HasRank P n R M k) (hG : Indep P C n G) : HasRank P C R (fun i j => pr n M G i j % P) k := by
  obtain ⟨hP, _⟩ := primeOk_range hp
  obtain ⟨B, q, h1, h2, h3, h4⟩ := h
  have hi : Indep P C k (fun i j => pr n B G i j % P) := (h1.indep.mul hG).eqv fun i j _ _ => emod_dvd _ _
  have hr := hi.rank hp fun i j _ _ => emod_rng hP _
  have e1 : SameSp P C R (fun i j => pr n M G i j % P) R (pr n M G) := SameSp.of_eqv fun i _ => fun j _ => emod_dvd _ _
  have e2 : SameSp P C k (fun i j => pr n B G i j % P) k (pr n B G) := SameSp.of_eqv fun i _ => fun j _ => emod_dvd _ _
  have e3 : SameSp P C R (pr n M G) k (pr n B G) := ⟨fun i hi => (h4.1 i hi).mul, fun i hi => (h4.2 i hi).mul⟩
  exact hr.same ((e1.trans e3).trans e2.symm)

/-- a square matrix that is right, with independent rows -/
theorem isFl_of {P : Int} {n : Nat} {D : List Int} (hp : primeOk P = true) (h1 : 1 ≤ n) (h7 : n ≤ 7) (hD : D.length = n * n) (hr : ∀ x ∈ D, 0 ≤ x ∧ x < P) (hi : Indep P n n (mf n fun t => D.getD t 0)) : IsFl P n n D := by
  obtain ⟨hP, _⟩ := primeOk_range hp
  have hg := fun t => getD_range hr (show 0 < P by omega) t
  have hok : mxOk P n n D = true := by
    unfold mxOk
    exact decide_eq_true ⟨hp, by omega, by omega, by rw [hD]; push_cast; rfl, hr⟩
  refine ⟨hok, rfl, ?_⟩
  unfold RkIs
  rw [if_pos hok]
  simp only [Int.toNat_natCast]
  exact ⟨n, rfl, Int.le_refl _, hi.rank hp fun i j _ _ => hg _⟩
/-- .. and the other way round -/
theorem IsFl.indep {P : Int} {n : Nat} {D : List Int} (h : IsFl P n n D) : Indep P n n (mf n fun t => D.getD t 0) := by
  obtain ⟨n', e, _, _, _, _, hr, hP, _, hp, hk⟩ := h.facts
  obtain rfl := Int.ofNat.inj e
  exact hk.indep hp fun i j _ _ => getD_range hr (by omega) _
/-- the product of two square matrices that are right -/
theorem mul_sq {P : Int} {n : Nat} {A B : List Int} (hA : mxOk P n n A = true) (hB : mxOk P n n B = true) :
    ∃ D, mulMx ⟨P, n, n, A⟩ ⟨P, n, n, B⟩ = ⟨P, n, n, D⟩ ∧ mulFits ⟨P, n, n, A⟩ ⟨P, n, n, B⟩ = true ∧ D.length = n * n ∧ (∀ x ∈ D, 0 ≤ x ∧ x < P) ∧ ∀ i j, i < n → j < n → mf n (fun t => D.getD t 0) i j = pr n (mf n fun t => A.getD t 0) (mf n fun t => B.getD t 0) i j % P := by
  obtain ⟨_, _, _, _, _, _, _, _, _, hP, _⟩ := mxOk_facts hA
  have hf : mulFits ⟨P, n, n, A⟩ ⟨P, n, n, B⟩ = true := by simp [mulFits, hA, hB]
  refine ⟨(mulRows P n n n A B).flatten, by simp [mulMx, hf], hf, by rw [mulRows_flat_length], fun x hx => ?_, fun i j hi hj => ?_⟩
  · obtain ⟨t, ht, rfl⟩ := List.mem_iff_getElem.1 hx
    have hl : t < n * n := by rwa [mulRows_flat_length] at ht
    have := mulRows_flat_getD (P := P) (A := A) (B := B) (Ca := n) hl
    rw [getD_lt ht] at this
    rw [this]
    exact emod_rng hP _
  · obtain ⟨d1, d2⟩ := div_at (k := i) hj
    have hl := flat_ltW hi hj
    show (mulRows P n n n A B).flatten.getD (i * n + j) 0 = _
    rw [mulRows_flat_getD hl, d1, d2]
    unfold mulAt pr
    rw [sumTo_sm]
    rfl

end Go.Proofs.Ytoodgbflaaabmaa

namespace Go.Proofs.Ytoodgbflaaabmaa
set_option linter.all false
open Go.RowKit

/-! ### triangular matrices -/
theorem set_mf {n i j r s : Nat} {D : List Int} {x : Int} (hl : D.length = n * n) (hi : i < n) (hj : j < n) (hr : r < n) (hs : s < n) :
    mf n (fun t => (D.set (i * n + j) x).getD t 0) r s = if r = i ∧ s = j then x else mf n (fun t => D.getD t 0) r s := by
  have h1 := flat_ltW hi hj
  have h2 := flat_ltW hr hs
  unfold mf
  show (D.set (i * n + j) x).getD (r * n + s) 0 = _
  by_cases e : r = i ∧ s = j
  · obtain ⟨rfl, rfl⟩ := e
    rw [if_pos ⟨rfl, rfl⟩]
    simp [List.getD_eq_getElem?_getD, hl, h1]
  · rw [if_neg e]
    have : ¬ i * n + j = r * n + s := fun h => by
      have a := div_at (k := i) hj
      have b := div_at (k := r) hs
      rw [h] at a
      exact e ⟨by omega, by omega⟩
    simp [List.getD_eq_getElem?_getD, List.getElem?_set_ne this]
theorem set_rng {P x : Int} {D : List Int} (h : ∀ y ∈ D, 0 ≤ y ∧ y < P) (hx : 0 ≤ x ∧ x < P) (t : Nat) : ∀ y ∈ D.set t x, 0 ≤ y ∧ y < P := fun y hy => by
  rcases List.mem_or_eq_of_mem_set hy with h1 | rfl
  · exact h y h1
  · exact hx
/-- 0 above the diagonal, none on it -/
def LowOk (P : Int) (n : Nat) (D : List Int) : Prop := D.length = n * n ∧ (∀ y ∈ D, 0 ≤ y ∧ y < P) ∧ (∀ i, i < n → 1 ≤ mf n (fun t => D.getD t 0) i i) ∧ ∀ i j, i < j → j < n → mf n (fun t => D.getD t 0) i j = 0
/-- 0 below the diagonal, 1 on it -/
def HighOk (P : Int) (n : Nat) (D : List Int) : Prop := D.length = n * n ∧ (∀ y ∈ D, 0 ≤ y ∧ y < P) ∧ (∀ i, i < n → mf n (fun t => D.getD t 0) i i = 1) ∧ ∀ i j, j < i → i < n → mf n (fun t => D.getD t 0) i j = 0
theorem LowOk.set {P x : Int} {n i j : Nat} {D : List Int} (h : LowOk P n D) (hi : i < n) (hj : j ≤ i) (hx : 0 ≤ x ∧ x < P) (hd : j = i → 1 ≤ x) : LowOk P n (D.set (i * n + j) x) := by
  obtain ⟨h1, h2, h3, h4⟩ := h
  refine ⟨by rw [List.length_set]; exact h1, set_rng h2 hx _, fun r hr => ?_, fun r s hrs hs => ?_⟩
  · rw [set_mf h1 hi (by omega) hr hr]
    split
    · exact hd (by omega)
    · exact h3 r hr
  · rw [set_mf h1 hi (by omega) (by omega) hs, if_neg (by omega)]
    exact h4 r s hrs hs
theorem HighOk.set {P x : Int} {n i j : Nat} {D : List Int} (h : HighOk P n D) (hi : i < n) (hj : j < i) (hx : 0 ≤ x ∧ x < P) : HighOk P n (D.set (j * n + i) x) := by
  obtain ⟨h1, h2, h3, h4⟩ := h
  refine ⟨by rw [List.length_set]; exact h1, set_rng h2 hx _, fun r hr => ?_, fun r s hrs hs => ?_⟩
  · rw [set_mf h1 (by omega) hi hr hr, if_neg (by omega)]
    exact h3 r hr
  · rw [set_mf h1 (by omega) hi hs (by omega), if_neg (by omega)]
    exact h4 r s hrs hs
theorem permRows_mf {n : Nat} {xs : List Int} (hl : xs.length = n) {i j : Nat} (hi : i < n) (hj : j < n) : mf n (fun t => (permRows xs).flatten.getD t 0) i j = if (j : Int) = xs.getD i 0 then 1 else 0 := by
  obtain ⟨d1, d2⟩ := div_at (k := i) hj
  have h := flat_ltW hi hj
  unfold mf
  show (permRows xs).flatten.getD (i * n + j) 0 = _
  rw [permRows_flat_getD (by rw [hl]; exact h), hl, d1, d2]
theorem permRows_rng {P : Int} (hP : 2 ≤ P) (xs : List Int) : ∀ y ∈ (permRows xs).flatten, 0 ≤ y ∧ y < P := fun y hy => by
  obtain ⟨t, ht, rfl⟩ := List.mem_iff_getElem.1 hy
  have hl : t < xs.length * xs.length := by rwa [permRows_flat_length] at ht
  have := permRows_flat_getD hl
  rw [getD_lt ht] at this
  rw [this]
  split <;> omega
theorem id_low {P : Int} {n : Nat} (hP : 2 ≤ P) : LowOk P n (permRows (idL n)).flatten := by
  refine ⟨by rw [permRows_flat_length, idL_length], permRows_rng hP _, fun i hi => ?_, fun i j hij hj => ?_⟩
  · rw [permRows_mf (idL_length n) hi hi, idL_getD hi, if_pos rfl]; omega
  · rw [permRows_mf (idL_length n) (by omega) hj, idL_getD (by omega), if_neg (by omega)]
theorem id_high {P : Int} {n : Nat} (hP : 2 ≤ P) : HighOk P n (permRows (idL n)).flatten := by
  refine ⟨by rw [permRows_flat_length, idL_length], permRows_rng hP _, fun i hi => ?_, fun i j hij hj => ?_⟩
  · rw [permRows_mf (idL_length n) hi hi, idL_getD hi, if_pos rfl]
  · rw [permRows_mf (idL_length n) hj (by omega), idL_getD hj, if_neg (by omega)]
theorem LowOk.indep {P : Int} {n : Nat} {D : List Int} (hp : primeOk P = true) (h : LowOk P n D) : Indep P n n (mf n fun t => D.getD t 0) := by
  obtain ⟨hP, _⟩ := primeOk_range hp
  refine indep_low (fun i hi => unit_of hp (by have := h.2.2.1 i hi; omega) ?_) h.2.2.2
  exact (getD_range h.2.1 (by omega) _).2
theorem HighOk.indep {P : Int} {n : Nat} {D : List Int} (h : HighOk P n D) : Indep P n n (mf n fun t => D.getD t 0) := by
  refine indep_up (fun i hi => ⟨1, ?_⟩) h.2.2.2
  rw [h.2.2.1 i hi]; simp
/-- the matrix of a permutation -/
theorem perm_indep {P : Int} {xs : List Int} (hp : permOk xs = true) : Indep P xs.length xs.length (mf xs.length fun t => (permRows xs).flatten.getD t 0) := by
  obtain ⟨_, _, hr, hn⟩ := of_decide_eq_true hp
  refine indep_perm (q := fun i => (xs.getD i 0).toNat) (fun i hi => by have := hr _ (getD_mem hi); omega) fun i k hi hk => ?_
  have h1 := hr _ (getD_mem hk)
  rw [permRows_mf rfl hi (by omega), Int.toNat_of_nonneg h1.1]
  by_cases e : i = k
  · subst e; simp
  · rw [if_neg e, if_neg]
    intro h
    refine e ?_
    have a : xs.getD k 0 = xs[k] := getD_lt hk
    have b : xs.getD i 0 = xs[i] := getD_lt hi
    rw [a, b] at h
    rcases Nat.lt_trichotomy i k with c | c | c
    · exact absurd h.symm (List.pairwise_iff_getElem.1 hn i k hi hk c)
    · exact c
    · exact absurd h (List.pairwise_iff_getElem.1 hn k i hk hi c)
/-- low, times a permutation's matrix, times high: a flag -/
theorem draw_flag {P : Int} {n : Nat} {L H xs : List Int} (hp : primeOk P = true) (h1 : 1 ≤ n) (h7 : n ≤ 7) (hL : LowOk P n L) (hH : HighOk P n H) (hx : permOk xs = true) (hl : xs.length = n) :
    ∃ D D', mulMx ⟨P, n, n, L⟩ ⟨P, n, n, (permRows xs).flatten⟩ = ⟨P, n, n, D⟩ ∧ mulMx ⟨P, n, n, D⟩ ⟨P, n, n, H⟩ = ⟨P, n, n, D'⟩ ∧ IsFl P n n D' := by
  obtain ⟨hP, _⟩ := primeOk_range hp
  have ok : ∀ D : List Int, D.length = n * n → (∀ y ∈ D, 0 ≤ y ∧ y < P) → mxOk P n n D = true := fun D hD hr => by
    unfold mxOk
    exact decide_eq_true ⟨hp, by omega, by omega, by rw [hD]; push_cast; rfl, hr⟩
  obtain ⟨D, e1, _, l1, r1, m1⟩ := mul_sq (ok L hL.1 hL.2.1) (ok (permRows xs).flatten (by rw [permRows_flat_length, hl]) (permRows_rng hP _))
  obtain ⟨D', e2, _, l2, r2, m2⟩ := mul_sq (ok D l1 r1) (ok H hH.1 hH.2.1)
  refine ⟨D, D', e1, e2, isFl_of hp h1 h7 l2 r2 ?_⟩
  have i1 : Indep P n n (mf n fun t => D.getD t 0) := ((hL.indep hp).mul (by have := perm_indep (P := P) hx; rwa [hl] at this)).eqv fun i j hi hj => by rw [m1 i j hi hj]; exact emod_dvd _ _
  exact (i1.mul hH.indep).eqv fun i j hi hj => by rw [m2 i j hi hj]; exact emod_dvd _ _

/-! ### what holds in the loops -/
theorem OwnI.setAt {T : TypeId} {w : World} {lo hi g n cap t : Nat} {D : List Int} (h : OwnI T w lo hi (.slice (some ⟨g, 0, none⟩) n cap) D) (ht : t < D.length) (x : Int) : OwnI T (w.setCell ⟨g, t, none⟩ (.int .i64 x)) lo hi (.slice (some ⟨g, 0, none⟩) n cap) (D.set t x) := by
  refine OwnF.ints ?_
  rw [List.length_set]
  refine (h.fn.set t _).congr fun j hj => ?_
  unfold iv
  by_cases e : j = t
  · subst e; simp [List.getD_eq_getElem?_getD, ht]
  · simp [e, List.getD_eq_getElem?_getD, List.getElem?_set_ne (fun h => e h.symm)]
/-- the result's cell, the boxes of the permutation's matrix, of low, of high, what they hold, the cursor -/
structure FlS (w : World) (k : Nat) (P : Int) (n N bA bL bH gl kl gh kh la : Nat) (vA : Value) (DA : List Int) (wr : World) : Prop where
  z : wr.heap[w.heap.size]? = some (.cells #[.int .i64 0, .int .i64 0, .int .i64 0, .slice none 0 0] 34)
  a : wr.heap[bA]? = some (.cells #[.int .i64 P, .int .i64 (n : Int), .int .i64 (n : Int), vA] 34)
  l : wr.heap[bL]? = some (.cells #[.int .i64 P, .int .i64 (n : Int), .int .i64 (n : Int), .slice (some ⟨gl, 0, none⟩) N kl] 34)
  h : wr.heap[bH]? = some (.cells #[.int .i64 P, .int .i64 (n : Int), .int .i64 (n : Int), .slice (some ⟨gh, 0, none⟩) N kh] 34)
  oa : OwnI 3 wr la bA vA DA
  ol : ∃ DL, LowOk P n DL ∧ OwnI 3 wr gl (gl + 1) (.slice (some ⟨gl, 0, none⟩) N kl) DL
  oh : ∃ DH, HighOk P n DH ∧ OwnI 3 wr gh (gh + 1) (.slice (some ⟨gh, 0, none⟩) N kh) DH
  cu : Cur wr k
  fr : Frm k (k + 1) w wr
/-- where it lies -/
structure FlN (w : World) (k n N bA bL bH gl gh la : Nat) : Prop where
  k1 : k < w.heap.size
  a1 : w.heap.size < la
  a2 : la ≤ bA
  l1 : bA < gl
  l2 : gl < bL
  h1 : bL < gh
  h2 : gh < bH
  nn : N = n * n
section
variable {w : World} {k : Nat} {P : Int} {n N bA bL bH gl kl gh kh la : Nat} {vA : Value} {DA : List Int} {wr w1 : World}
theorem FlS.frm (h : FlS w k P n N bA bL bH gl kl gh kh la vA DA wr) (hn : FlN w k n N bA bL bH gl gh la) (hf : Frm k (k + 1) wr w1) (hc : Cur w1 k) : FlS w k P n N bA bL bH gl kl gh kh la vA DA w1 := by
  obtain ⟨a, b, c, d, e, ⟨DL, f1, f2⟩, ⟨DH, g1, g2⟩, _, j⟩ := h
  obtain ⟨k1, a1, a2, l1, l2, h1, h2, _⟩ := hn
  refine ⟨(hf.block _ (blk_lt a) (Or.inr (by omega))).trans a, (hf.block _ (blk_lt b) (Or.inr (by omega))).trans b, (hf.block _ (blk_lt c) (Or.inr (by omega))).trans c, (hf.block _ (blk_lt d) (Or.inr (by omega))).trans d,
    e.frm hf (Or.inr (by omega)), ⟨DL, f1, f2.frm hf (Or.inr (by omega))⟩, ⟨DH, g1, g2.frm hf (Or.inr (by omega))⟩, hc, j.trans hf⟩
theorem FlS.drewN (h : FlS w k P n N bA bL bH gl kl gh kh la vA DA wr) (hn : FlN w k n N bA bL bH gl gh la) (q : Nat) : FlS w k P n N bA bL bH gl kl gh kh la vA DA (wr.drewN q) :=
  h.frm hn ((Frm.refl _ _ _).drewN q) (h.cu.below (Below.of_drewN _ _))
theorem FlS.setL (h : FlS w k P n N bA bL bH gl kl gh kh la vA DA wr) (hn : FlN w k n N bA bL bH gl gh la) {i j t : Nat} {x : Int} (ht : t = i * n + j) (hi : i < n) (hj : j ≤ i) (hx : 0 ≤ x ∧ x < P) (hd : j = i → 1 ≤ x) :
    FlS w k P n N bA bL bH gl kl gh kh la vA DA (wr.setCell ⟨gl, t, none⟩ (.int .i64 x)) := by
  subst ht
  obtain ⟨a, b, c, d, e, ⟨DL, f1, f2⟩, ⟨DH, g1, g2⟩, cu, jf⟩ := h
  obtain ⟨k1, a1, a2, l1, l2, h1, h2, _⟩ := hn
  have hl := flat_ltW hi (show j < n by omega)
  refine ⟨(Below.heap_setCell _ _ _ _ (by show _ ≠ gl; omega)).trans a, (Below.heap_setCell _ _ _ _ (by show _ ≠ gl; omega)).trans b, (Below.heap_setCell _ _ _ _ (by show _ ≠ gl; omega)).trans c, (Below.heap_setCell _ _ _ _ (by show _ ≠ gl; omega)).trans d,
    e.setCell (Or.inr (by show bA ≤ gl; omega)) _, ⟨_, f1.set hi hj hx hd, f2.setAt (by rw [f1.1]; exact hl) x⟩, ⟨DH, g1, g2.setCell (Or.inl (by show gl < gh; omega)) _⟩, ?_, ?_⟩
  · exact cu.keepB ((Below.refl w.heap.size wr).setCell (by show w.heap.size ≤ gl; omega) _) k1
  · exact jf.thenB ((Below.refl w.heap.size wr).setCell (by show w.heap.size ≤ gl; omega) _) (Nat.le_refl _)
theorem FlS.setH (h : FlS w k P n N bA bL bH gl kl gh kh la vA DA wr) (hn : FlN w k n N bA bL bH gl gh la) {i j t : Nat} {x : Int} (ht : t = j * n + i) (hi : i < n) (hj : j < i) (hx : 0 ≤ x ∧ x < P) :
    FlS w k P n N bA bL bH gl kl gh kh la vA DA (wr.setCell ⟨gh, t, none⟩ (.int .i64 x)) := by
  subst ht
  obtain ⟨a, b, c, d, e, ⟨DL, f1, f2⟩, ⟨DH, g1, g2⟩, cu, jf⟩ := h
  obtain ⟨k1, a1, a2, l1, l2, h1, h2, _⟩ := hn
  have hl := flat_ltW (show j < n by omega) hi
  refine ⟨(Below.heap_setCell _ _ _ _ (by show _ ≠ gh; omega)).trans a, (Below.heap_setCell _ _ _ _ (by show _ ≠ gh; omega)).trans b, (Below.heap_setCell _ _ _ _ (by show _ ≠ gh; omega)).trans c, (Below.heap_setCell _ _ _ _ (by show _ ≠ gh; omega)).trans d,
    e.setCell (Or.inr (by show bA ≤ gh; omega)) _, ⟨DL, f1, f2.setCell (Or.inr (by show gl + 1 ≤ gh; omega)) _⟩, ⟨_, g1.set hi hj hx, g2.setAt (by rw [g1.1]; exact hl) x⟩, ?_, ?_⟩
  · exact cu.keepB ((Below.refl w.heap.size wr).setCell (by show w.heap.size ≤ gh; omega) _) k1
  · exact jf.thenB ((Below.refl w.heap.size wr).setCell (by show w.heap.size ≤ gh; omega) _) (Nat.le_refl _)
theorem FlS.cellL (h : FlS w k P n N bA bL bH gl kl gh kh la vA DA wr) (hn : FlN w k n N bA bL bH gl gh la) {t : Nat} (ht : t < N) : ∃ z, wr.cell? ⟨gl, t, none⟩ = some (.int .i64 z) := by
  obtain ⟨_, _, _, _, _, ⟨DL, f1, f2⟩, _⟩ := h
  exact ⟨_, f2.fn.cell (by rw [f1.1, ← hn.nn]; exact ht)⟩
theorem FlS.frzL (h : FlS w k P n N bA bL bH gl kl gh kh la vA DA wr) (t : Nat) : wr.frozen? ⟨gl, t, none⟩ = false := by
  obtain ⟨_, _, _, _, _, ⟨DL, f1, f2⟩, _⟩ := h
  exact f2.fn.frozen t
theorem FlS.cellH (h : FlS w k P n N bA bL bH gl kl gh kh la vA DA wr) (hn : FlN w k n N bA bL bH gl gh la) {t : Nat} (ht : t < N) : ∃ z, wr.cell? ⟨gh, t, none⟩ = some (.int .i64 z) := by
  obtain ⟨_, _, _, _, _, _, ⟨DH, f1, f2⟩, _⟩ := h
  exact ⟨_, f2.fn.cell (by rw [f1.1, ← hn.nn]; exact ht)⟩
theorem FlS.frzH (h : FlS w k P n N bA bL bH gl kl gh kh la vA DA wr) (t : Nat) : wr.frozen? ⟨gh, t, none⟩ = false := by
  obtain ⟨_, _, _, _, _, _, ⟨DH, f1, f2⟩, _⟩ := h
  exact f2.fn.frozen t
theorem FlS.cur (h : FlS w k P n N bA bL bH gl kl gh kh la vA DA wr) : Cur wr k := h.cu
end

end Go.Proofs.Ytoodgbflaaabmaa

namespace Go.Proofs.Ytoodgbflaaabmaa
set_option linter.all false
open Go.RowKit

theorem flS_call {w : World} {k : Nat} {P : Int} {n N bA bL bH gl kl gh kh la : Nat} {vA : Value} {DA : List Int} {W w' : World} {c : Prop} (h : c ∧ Hid (FlS w k P n N bA bL bH gl kl gh kh la vA DA W)) (hn : FlN w k n N bA bL bH gl gh la) (hf : Frm k (k + 1) W w') (hc : Cur w' k) : Hid (FlS w k P n N bA bL bH gl kl gh kh la vA DA w') := h.2.out.frm hn hf hc
theorem specMul2 (P : Int) (n : Nat) (da db : Value) (DA DB D : List Int) (w : World) (he : mulMx ⟨P, n, n, DA⟩ ⟨P, n, n, DB⟩ = ⟨P, n, n, D⟩) (ha : Ints w da DA) (hb : Ints w db DB) :
    Calls Try.prog 75 #[.agg #[.int .i64 P, .int .i64 (n : Int), .int .i64 (n : Int), da], .agg #[.int .i64 P, .int .i64 (n : Int), .int .i64 (n : Int), db]] w fun e w' =>
      ∃ (pd : Option Addr) (kd : Nat) (b : Bool), e = .returned (.tuple #[.agg #[.int .i64 P, .int .i64 (n : Int), .int .i64 (n : Int), .slice pd D.length kd], .bool b]) ∧ OwnI 3 w' w.heap.size w'.heap.size (.slice pd D.length kd) D ∧ Below w.heap.size w w' :=
  (specMul_any ⟨P, n, n, DA⟩ ⟨P, n, n, DB⟩ da db w ha hb).mono fun e w' h => by
    rw [he] at h
    obtain ⟨u, h1, h2, h3⟩ := h
    obtain ⟨pd, kd, rfl, _, _⟩ := h2.shape
    exact ⟨pd, kd, _, h1, h2, h3⟩
theorem idx_facts {K i N : Nat} (h : K + i < N) (hN : N ≤ 1000000) : Hid (wrap64 ((K : Int) + (i : Int)) = (K : Int) + (i : Int)) ∧ Hid (IntKind.i64.wrap ((K : Int) + (i : Int)) = (K : Int) + (i : Int)) ∧ (0 : Int) ≤ (K : Int) + i ∧ (K : Int) + i < (N : Int) ∧ ((K : Int) + (i : Int)).toNat = K + i := by
  have h0 : -1000000000000000000 ≤ (K : Int) + (i : Int) := by omega
  have h1 : (K : Int) + (i : Int) ≤ 1000000000000000000 := by omega
  exact ⟨w64 h0 h1, k64 h0 h1, by omega, by omega, by omega⟩
theorem wrap_1x {x p : Nat} (h : x < p - 1) (hp : p ≤ 256) : IntKind.i64.wrap (1 + (x : Int)) = 1 + (x : Int) := k64 (by omega) (by omega)
theorem bound_one {x p : Nat} (h : x < p - 1) (hp : p ≤ 256) : 0 ≤ IntKind.i64.wrap (1 + (x : Int)) ∧ IntKind.i64.wrap (1 + (x : Int)) < (p : Int) := by rw [wrap_1x h hp]; omega
theorem bound_two {x p : Nat} (h : x < p - 1) (hp : p ≤ 256) : (1 : Int) ≤ IntKind.i64.wrap (1 + (x : Int)) := by rw [wrap_1x h hp]; omega
theorem bound_x {x p : Nat} (h : x < p) : 0 ≤ (x : Int) ∧ (x : Int) < (p : Int) := by omega
theorem mul_row {i n N j : Nat} (hN : N = n * n) (hb : N ≤ 1000000) (hi : i < n) (hj : j < n) : ∃ K, Hid (K = i * n) ∧ Hid (wrap64 ((i : Int) * (n : Int)) = (K : Int)) ∧ Hid (IntKind.i64.wrap ((i : Int) * (n : Int)) = (K : Int)) ∧ K + j < N := by
  have h := flat_ltW (C := n) hi hj
  rw [← hN] at h
  obtain ⟨K, hK, h1, h2⟩ := mul_named i n (by omega)
  exact ⟨K, hK, h1, h2, by omega⟩
theorem FlS.drew {w : World} {k : Nat} {P : Int} {n N bA bL bH gl kl gh kh la : Nat} {vA : Value} {DA : List Int} {wr : World} (h : FlS w k P n N bA bL bH gl kl gh kh la vA DA wr) (hn : FlN w k n N bA bL bH gl gh la) : FlS w k P n N bA bL bH gl kl gh kh la vA DA wr.drew := h.drewN hn 1
theorem flS_holdL {w : World} {k : Nat} {P : Int} {n N bA bL bH gl kl gh kh la : Nat} {vA : Value} {DA : List Int} {W : World} (h : FlS w k P n N bA bL bH gl kl gh kh la vA DA W) : W.cell? ⟨bL, 3, none⟩ = some (.slice (some ⟨gl, 0, none⟩) N kl) ∧ Hid (FlS w k P n N bA bL bH gl kl gh kh la vA DA W) := ⟨(blk4 h.l).2.2.2.1, h⟩
theorem flS_holdH {w : World} {k : Nat} {P : Int} {n N bA bL bH gl kl gh kh la : Nat} {vA : Value} {DA : List Int} {W : World} (h : FlS w k P n N bA bL bH gl kl gh kh la vA DA W) : W.cell? ⟨bH, 3, none⟩ = some (.slice (some ⟨gh, 0, none⟩) N kh) ∧ Hid (FlS w k P n N bA bL bH gl kl gh kh la vA DA W) := ⟨(blk4 h.h).2.2.2.1, h⟩
theorem flS_cur {w : World} {k : Nat} {P : Int} {n N bA bL bH gl kl gh kh la : Nat} {vA : Value} {DA : List Int} {W : World} {c : Prop} (h : c ∧ Hid (FlS w k P n N bA bL bH gl kl gh kh la vA DA W)) : Cur W k := h.2.out.cur

set_option maxRecDepth 100000 in
set_option maxHeartbeats 8000000 in
/-- a flag -/
theorem dFlag_nat (k n p : Nat) (w : World) (h : Cur w k) (hp : primeOk (p : Int) = true) (h1 : 1 ≤ n) (h5 : n ≤ 5) :
    Calls Try.prog 47 #[.pointer (some ⟨k, 0, none⟩), .int .i64 (p : Int), .int .i64 (n : Int)] w fun e w' =>
      ∃ (pd : Option Addr) (kd : Nat) (D : List Int), e = .returned (.agg #[.int .i64 (p : Int), .int .i64 (n : Int), .int .i64 (n : Int), .slice pd D.length kd]) ∧ OwnI 3 w' w.heap.size w'.heap.size (.slice pd D.length kd) D ∧ IsFl p n n D ∧ Cur w' k ∧ Frm k (k + 1) w w' := by
  obtain ⟨hP2, hP7⟩ := primeOk_range hp
  have Hp := Lib.hid hp
  have Hp2 := Lib.hid (show IntKind.i64.wrap ((p : Int) - 1) = ((p - 1 : Nat) : Int) by rw [k64 (by omega) (by omega)]; omega)
  have Hp3 := Lib.hid (show IntKind.i64.wrap ((p - 1 : Nat) : Int) = ((p - 1 : Nat) : Int) from k64 (by omega) (by omega))
  have hk := h.lt
  have z0 := heap_alloc_top w (.cells #[.int .i64 0, .int .i64 0, .int .i64 0, .slice none 0 0] 34)
  have Hc1 := Lib.hid (h.below (below_alloc w (.cells #[.int .i64 0, .int .i64 0, .int .i64 0, .slice none 0 0] 34)))
  have Z1 := Lib.hid z0
  have Hf1 := Lib.hid (Frm.of_below (below_alloc w (.cells #[.int .i64 0, .int .i64 0, .int .i64 0, .slice none 0 0] 34)) k (k + 1))
  have hs1 : (w.alloc (.cells #[.int .i64 0, .int .i64 0, .int .i64 0, .slice none 0 0] 34)).heap.size = w.heap.size + 1 := size_alloc _ _
  obtain ⟨N, hN⟩ : ∃ N, N = n * n := ⟨_, rfl⟩
  have HN := Lib.hid hN
  have hN1 : 1 ≤ N := by rw [hN]; exact Nat.mul_pos h1 h1
  have hN25 : N ≤ 25 := by rw [hN]; exact Nat.mul_le_mul h5 h5
  clear h z0 hp hN
  go_enter Try.func47, Try.ntmps47
  go_wp2_with fail
  generalize w.alloc (.cells #[.int .i64 0, .int .i64 0, .int .i64 0, .slice none 0 0] 34) = w1 at *
  refine (dPerm_any k n _ Hc1.out h1 h5).mono ?_
  rintro e w2 ⟨u, xs, rfl, hox, hpx, hlx, hc2, hf2⟩
  have Z2 := Lib.hid ((hf2.block w.heap.size (by omega) (Or.inr (by omega))).trans Z1.out)
  have Hf2 := Lib.hid (Hf1.out.trans hf2)
  have Hc2 := Lib.hid hc2
  have Hox := Lib.hid hox.ints
  have Hpx := Lib.hid hpx
  have Hlx := Lib.hid hlx
  have hs2 := hf2.size
  obtain ⟨px, kx, rfl, _, _⟩ := hox.shape
  rw [hlx] at Hox ⊢
  clear hox hpx hlx hc2 hf2 Z1 Hf1 Hc1
  go_wp2_with fail
  refine (l7Perm_any (p : Int) _ xs _ Hox.out Hpx.out).mono ?_
  rintro e w3 ⟨u, rfl, hoA, hb3⟩
  rw [Hlx.out]
  have hnA : (permRows xs).flatten.length = N := by rw [permRows_flat_length, Hlx.out, HN.out]
  obtain ⟨pA, kA, rfl, _, _⟩ := hoA.shape
  rw [hnA] at hoA ⊢
  have HoA := Lib.hid hoA
  have Z3 := Lib.hid (blk_later Z2.out hb3)
  have Hc3 := Lib.hid (Hc2.out.below hb3)
  have Hf3 := Lib.hid (Hf2.out.thenB hb3 (by omega))
  have hs3 := hb3.size
  clear hnA hoA hb3 Z2 Hf2 Hc2
  go_wp2_with fail

  refine (specIdentity_any n _ h1 (by omega)).mono ?_
  rintro e w4 ⟨u, rfl, hoi, hb4⟩
  have bl4 : Below w3.heap.size w3 w4 := (below_alloc w3 (.cells #[.int .i64 (p : Int), .int .i64 (n : Int), .int .i64 (n : Int), .slice pA N kA] 34)).trans (hb4.mono (by simp))
  have hs4 : w3.heap.size + 1 ≤ w4.heap.size := by have := hb4.size; rwa [size_alloc] at this
  have Z4 := Lib.hid (blk_later Z3.out bl4)
  have BA4 := Lib.hid ((hb4.block _ (by simp)).trans (heap_alloc_top w3 (.cells #[.int .i64 (p : Int), .int .i64 (n : Int), .int .i64 (n : Int), .slice pA N kA] 34)))
  have Hc4 := Lib.hid (Hc3.out.below bl4)
  have Hf4 := Lib.hid (Hf3.out.thenB bl4 (by omega))
  have HoA4 := Lib.hid (HoA.out.below bl4)
  have Hoi := Lib.hid hoi.ints
  obtain ⟨pi, ki, rfl, _, _⟩ := hoi.shape
  rw [idL_length] at Hoi ⊢
  clear hoi hb4 bl4
  go_wp2_with fail
  refine (l7Perm_any (p : Int) _ (idL n) _ Hoi.out (idL_ok h1 (by omega))).mono ?_
  rintro e w5 ⟨u, rfl, hoL, hb5⟩
  rw [idL_length]
  have hnL : (permRows (idL n)).flatten.length = N := by rw [permRows_flat_length, idL_length, HN.out]
  obtain ⟨pL, kL, rfl, _, _⟩ := hoL.shape
  rw [hnL] at hoL ⊢
  have hof := hoL.fn
  rw [hnL] at hof
  obtain ⟨gL, rfl, hgL1, hgL2, _⟩ := hof.at_ (by omega)
  have HoL5 := Lib.hid (hoL.widen (lo := gL) (hi := gL + 1) fun b hb => by simp [Value.ownBlock] at hb; omega)
  have hs5 := hb5.size
  have Z5 := Lib.hid (blk_later Z4.out hb5)
  have Hc5 := Lib.hid (Hc4.out.below hb5)
  have Hf5 := Lib.hid (Hf4.out.thenB hb5 (by omega))
  have BA5 := Lib.hid (blk_later BA4.out hb5)
  have HoA5 := Lib.hid (HoA4.out.below hb5)
  clear hof hnL hoL hb5
  go_wp2_with fail
  refine (specIdentity_any n _ h1 (by omega)).mono ?_
  rintro e w6 ⟨u, rfl, hoi, hb6⟩
  have bl6 : Below w5.heap.size w5 w6 := (below_alloc w5 (.cells #[.int .i64 (p : Int), .int .i64 (n : Int), .int .i64 (n : Int), .slice (some ⟨gL, 0, none⟩) N kL] 34)).trans (hb6.mono (by simp))
  have hs6 : w5.heap.size + 1 ≤ w6.heap.size := by have := hb6.size; rwa [size_alloc] at this
  have Z6 := Lib.hid (blk_later Z5.out bl6)
  have BL6 := Lib.hid ((hb6.block _ (by simp)).trans (heap_alloc_top w5 (.cells #[.int .i64 (p : Int), .int .i64 (n : Int), .int .i64 (n : Int), .slice (some ⟨gL, 0, none⟩) N kL] 34)))
  have Hc6 := Lib.hid (Hc5.out.below bl6)
  have Hf6 := Lib.hid (Hf5.out.thenB bl6 (by omega))
  have HoA6 := Lib.hid (HoA5.out.below bl6)
  have HoL6 := Lib.hid (HoL5.out.below bl6)
  have BA6 := Lib.hid (blk_later BA5.out bl6)
  have Hoi := Lib.hid hoi.ints
  obtain ⟨pi, ki, rfl, _, _⟩ := hoi.shape
  rw [idL_length] at Hoi ⊢
  clear hoi hb6 bl6
  go_wp2_with fail
  refine (l7Perm_any (p : Int) _ (idL n) _ Hoi.out (idL_ok h1 (by omega))).mono ?_
  rintro e w7 ⟨u, rfl, hoH, hb7⟩
  rw [idL_length]
  have hnH : (permRows (idL n)).flatten.length = N := by rw [permRows_flat_length, idL_length, HN.out]
  obtain ⟨pH, kH, rfl, _, _⟩ := hoH.shape
  rw [hnH] at hoH ⊢
  have hof := hoH.fn
  rw [hnH] at hof
  obtain ⟨gH, rfl, hgH1, hgH2, _⟩ := hof.at_ (by omega)
  have HoH7 := Lib.hid (hoH.widen (lo := gH) (hi := gH + 1) fun b hb => by simp [Value.ownBlock] at hb; omega)
  have hs7 := hb7.size
  have Z7 := Lib.hid (blk_later Z6.out hb7)
  have Hc7 := Lib.hid (Hc6.out.below hb7)
  have Hf7 := Lib.hid (Hf6.out.thenB hb7 (by omega))
  have BA7 := Lib.hid (blk_later BA6.out hb7)
  have BL7 := Lib.hid (blk_later BL6.out hb7)
  have HoA7 := Lib.hid (HoA6.out.below hb7)
  have HoL7 := Lib.hid (HoL6.out.below hb7)
  clear hof hnH hoH hb7
  go_wp2_with fail
  have hNN : FlN w k n N w3.heap.size w5.heap.size w7.heap.size gL gH w2.heap.size := ⟨hk, by omega, by omega, by omega, by omega, by omega, by omega, HN.out⟩
  have hFl : FlS w k (p : Int) n N w3.heap.size w5.heap.size w7.heap.size gL kL gH kH w2.heap.size (.slice pA N kA) (permRows xs).flatten (w7.alloc (.cells #[.int .i64 (p : Int), .int .i64 (n : Int), .int .i64 (n : Int), .slice (some ⟨gH, 0, none⟩) N kH] 34)) := by
    have hb := below_alloc w7 (.cells #[.int .i64 (p : Int), .int .i64 (n : Int), .int .i64 (n : Int), .slice (some ⟨gH, 0, none⟩) N kH] 34)
    refine ⟨blk_later Z7.out hb, blk_later BA7.out hb, blk_later BL7.out hb, heap_alloc_top _ _, HoA7.out.below hb, ⟨_, id_low hP2, HoL7.out.below hb⟩, ⟨_, id_high hP2, HoH7.out.below hb⟩, Hc7.out.below hb, Hf7.out.thenB hb (by omega)⟩
  have HNN := Lib.hid hNN
  have HF8 := Lib.hid hFl
  have HQ1 := Lib.hid (show 1 ≤ p - 1 by omega)
  have HQ2 := Lib.hid (show p - 1 ≤ 256 by omega)
  have HQ3 := Lib.hid (show 1 ≤ p by omega)
  have HQ4 := Lib.hid (show p ≤ 256 by omega)
  have HCur := Lib.hid (fun (c : Prop) (W : World) (h : c ∧ Hid (FlS w k (p : Int) n N w3.heap.size w5.heap.size w7.heap.size gL kL gH kH w2.heap.size (.slice pA N kA) (permRows xs).flatten W)) => flS_cur h)
  have HCall := Lib.hid (fun (c : Prop) (W w' : World) (h : c ∧ Hid (FlS w k (p : Int) n N w3.heap.size w5.heap.size w7.heap.size gL kL gH kH w2.heap.size (.slice pA N kA) (permRows xs).flatten W)) (hf : Frm k (k + 1) W w') (hc : Cur w' k) => flS_call h hNN hf hc)
  have hp1 : (p : Int) - 1 = ((p - 1 : Nat) : Int) := by omega
  have Hp1 := Lib.hid hp1
  clear hNN hFl hp1
  clear Z3 Z4 Z5 Z6 Z7 Hc3 Hc4 Hc5 Hc6 Hc7 Hf3 Hf4 Hf5 Hf6 Hf7 BA4 BA5 BA6 BA7 BL6 BL7 HoA HoA4 HoA5 HoA6 HoA7 HoL5 HoL6 HoL7 HoH7 Hoi Hox
  go_loopg [10] n (fun g s10 wr => ∃ i : Nat, i ≤ n ∧ g = n - i ∧ s10 = .int .i64 i ∧ Hid (FlS w k (p : Int) n N w3.heap.size w5.heap.size w7.heap.size gL kL gH kH w2.heap.size (.slice pA N kA) (permRows xs).flatten wr))
  case atStart => exact ⟨0, Nat.zero_le _, rfl, rfl, HF8.out⟩
  case round =>
    obtain ⟨i, hi, rfl, rfl, hF⟩ := hrel
    by_cases hlt : i < n
    · have hlt2 : (i : Int) < (n : Int) := by omega
      have HF := Lib.hid hF.out
      clear hF
      obtain ⟨K, HK, Hkr, Hkk, hKl⟩ := mul_row HN.out (by omega) hlt hlt
      obtain ⟨Hs1, Hs2, hi0, hi1, hi2⟩ := idx_facts hKl (by omega)
      go_wp2_with fail
      have hkr := Hkr.out
      have hkk := Hkk.out
      have hs1' := Hs1.out
      have hs2' := Hs2.out
      go_region_held3 (fun w' => w'.cell? ⟨w5.heap.size, 3, none⟩ = some (.slice (some ⟨gL, 0, none⟩) N kL) ∧ Hid (FlS w k (p : Int) n N w3.heap.size w5.heap.size w7.heap.size gL kL gH kH w2.heap.size (.slice pA N kA) (permRows xs).flatten w'))
          (first | exact flS_holdL (HF.out.drew HNN.out) | exact flS_holdL hF1.out | exact flS_holdL (hF1.out.setL HNN.out (show K + i = i * n + i by rw [HK.out]) hlt (Nat.le_refl _) hx1 (fun _ => hx2)))
          (first
            | (go_at_call 32; (first | rw [Hp2.out] | rw [Hp3.out] | rw [Hp1.out]); refine (l1Below_any k (p - 1) _ (HCur.out _ _ (by assumption)) HQ1.out HQ2.out).mono ?_; rintro e w' ⟨x, rfl, hx, hc1, hf1⟩; have hF1 := HCall.out _ _ _ (by assumption) hf1 hc1; obtain ⟨z, hz⟩ := hF1.out.cellL HNN.out (show K + i < N by exact hKl); have hzf := hF1.out.frzL (K + i); have cB := (flS_holdL hF1.out).1; have hx1 := bound_one hx HQ4.out; have hx2 := bound_two hx HQ4.out))
      all_goals clear hkr hkk hs1' hs2'
      have HF7 := Lib.hid (hF1.out.setL HNN.out (show K + i = i * n + i by rw [HK.out]) hlt (Nat.le_refl _) hx1 (fun _ => hx2))
      clear hF1 hz hzf cB hx1 hx2 hc1 hf1 hi0 hi1 hi2
      generalize World.setCell _ _ _ = wy at *
      go_wp2_with fail
      go_loopg [11] i (fun g s11 wr => ∃ j : Nat, j ≤ i ∧ g = i - j ∧ s11 = .int .i64 j ∧ Hid (FlS w k (p : Int) n N w3.heap.size w5.heap.size w7.heap.size gL kL gH kH w2.heap.size (.slice pA N kA) (permRows xs).flatten wr))
      case atStart => exact ⟨0, Nat.zero_le _, rfl, rfl, HF7.out⟩
      case round =>
        obtain ⟨j, hj, rfl, rfl, hF⟩ := hrel
        have HF := Lib.hid hF.out
        clear hF
        by_cases hjl : j < i
        · have hjl2 : (j : Int) < (i : Int) := by omega
          have hjn : j < n := by omega
          obtain ⟨Ka, HKa, Hkra, Hkka, hKal⟩ := mul_row HN.out (by omega) hlt hjn
          obtain ⟨Ha1, Ha2, ha0, ha1, ha2⟩ := idx_facts hKal (by omega)
          obtain ⟨Kb, HKb, Hkrb, Hkkb, hKbl⟩ := mul_row HN.out (by omega) hjn hlt
          obtain ⟨Hb1, Hb2, hb0, hb1', hb2⟩ := idx_facts hKbl (by omega)
          go_wp2_with fail
          have ka1 := Hkra.out
          have ka2 := Hkka.out
          have ka3 := Ha1.out
          have ka4 := Ha2.out
          go_region_held3 (fun w' => w'.cell? ⟨w5.heap.size, 3, none⟩ = some (.slice (some ⟨gL, 0, none⟩) N kL) ∧ Hid (FlS w k (p : Int) n N w3.heap.size w5.heap.size w7.heap.size gL kL gH kH w2.heap.size (.slice pA N kA) (permRows xs).flatten w'))
          (first | exact flS_holdL (HF.out.drew HNN.out) | exact flS_holdL hF1.out | exact flS_holdL (hF1.out.setL HNN.out (show Ka + j = i * n + j by rw [HKa.out]) hlt (Nat.le_of_lt hjl) hx1 (fun e => absurd e (Nat.ne_of_lt hjl))))
          (first
            | (go_at_call 32; skip; refine (l1Below_any k p _ (HCur.out _ _ (by assumption)) HQ3.out HQ4.out).mono ?_; rintro e w' ⟨x, rfl, hx, hc1, hf1⟩; have hF1 := HCall.out _ _ _ (by assumption) hf1 hc1; obtain ⟨z, hz⟩ := hF1.out.cellL HNN.out (show Ka + j < N by exact hKal); have hzf := hF1.out.frzL (Ka + j); have cB := (flS_holdL hF1.out).1; have hx1 := bound_x hx))
          all_goals clear ka1 ka2 ka3 ka4
          have HF8 := Lib.hid (hF1.out.setL HNN.out (show Ka + j = i * n + j by rw [HKa.out]) hlt (Nat.le_of_lt hjl) hx1 (fun e => absurd e (Nat.ne_of_lt hjl)))
          clear hF1 hz hzf cB hx1 hc1 hf1 HF
          have HF := HF8
          clear HF8
          generalize World.setCell _ _ _ = wy2 at *
          go_wp2_with fail
          have kb1 := Hkrb.out
          have kb2 := Hkkb.out
          have kb3 := Hb1.out
          have kb4 := Hb2.out
          go_region_held3 (fun w' => w'.cell? ⟨w7.heap.size, 3, none⟩ = some (.slice (some ⟨gH, 0, none⟩) N kH) ∧ Hid (FlS w k (p : Int) n N w3.heap.size w5.heap.size w7.heap.size gL kL gH kH w2.heap.size (.slice pA N kA) (permRows xs).flatten w'))
          (first | exact flS_holdH (HF.out.drew HNN.out) | exact flS_holdH hF1.out | exact flS_holdH (hF1.out.setH HNN.out (show Kb + i = j * n + i by rw [HKb.out]) hlt hjl hx1))
          (first
            | (go_at_call 32; skip; refine (l1Below_any k p _ (HCur.out _ _ (by assumption)) HQ3.out HQ4.out).mono ?_; rintro e w' ⟨x, rfl, hx, hc1, hf1⟩; have hF1 := HCall.out _ _ _ (by assumption) hf1 hc1; obtain ⟨z, hz⟩ := hF1.out.cellH HNN.out (show Kb + i < N by exact hKbl); have hzf := hF1.out.frzH (Kb + i); have cB := (flS_holdH hF1.out).1; have hx1 := bound_x hx))
          all_goals clear kb1 kb2 kb3 kb4
          have HF9 := Lib.hid (hF1.out.setH HNN.out (show Kb + i = j * n + i by rw [HKb.out]) hlt hjl hx1)
          clear hF1 hz hzf cB hx1 hc1 hf1 ha0 ha1 ha2 hb0 hb1' hb2
          generalize World.setCell _ _ _ = wy3 at *
          go_wp2_with fail
          go_roundg (i - (j + 1))
          case measure => omega
          case rel => exact ⟨j + 1, by omega, rfl, by go_num, HF9.out⟩
        · obtain rfl : j = i := by omega
          have hjl2 : ¬ (j : Int) < (j : Int) := by omega
          go_wp2_with fail
          go_roundg (n - (j + 1))
          case measure => omega
          case rel => exact ⟨j + 1, by omega, rfl, by go_num, HF.out⟩
    · obtain rfl : i = n := by omega
      have hlt2 : ¬ (i : Int) < (i : Int) := by omega
      obtain ⟨zz, aa, ll, hh, oa, ⟨DL, fl1, fl2⟩, ⟨DH, fh1, fh2⟩, cu, fr⟩ := hF.out
      obtain ⟨DX, DY, e1, e2, hfl⟩ := draw_flag Hp.out h1 (by omega) fl1 fh1 Hpx.out Hlx.out
      have Ia := Lib.hid oa.ints
      have Il := Lib.hid fl2.ints
      have Ih := Lib.hid fh2.ints
      have Zz := Lib.hid zz
      have Za := Lib.hid aa
      have Zl := Lib.hid ll
      have Zh := Lib.hid hh
      have Cu := Lib.hid cu
      have Fr := Lib.hid fr
      have E1 := Lib.hid e1
      have E2 := Lib.hid e2
      have Hfl := Lib.hid hfl
      have hsr := fr.size
      have hz := blk_lt zz
      obtain ⟨a0, a1, a2, a3, af, az⟩ := blk4 aa
      obtain ⟨l0, l1, l2, l3, lf, lz⟩ := blk4 ll
      clear hF zz aa ll hh oa fl1 fl2 fh1 fh2 cu fr e1 e2 hfl
      go_wp2_with fail
      refine (specMul2 (p : Int) i _ _ DL (permRows xs).flatten DX _ E1.out Il.out Ia.out).mono ?_
      rintro e wx ⟨pX, kX, b1, rfl, ho1, hb1⟩
      have Ix := Lib.hid ho1.ints
      have Ih1 := Lib.hid (Ih.out.below hb1)
      have Zz1 := Lib.hid (blk_later Zz.out hb1)
      have Zh1 := Lib.hid (blk_later Zh.out hb1)
      have Cu1 := Lib.hid (Cu.out.below hb1)
      have Fr1 := Lib.hid (Fr.out.thenB hb1 hsr)
      have hs1' := hb1.size
      clear ho1 hb1 a0 a1 a2 a3 af az l0 l1 l2 l3 lf lz
      obtain ⟨q0, q1, q2, q3, qf, qz⟩ := blk4 Zh1.out
      go_wp2_with fail
      refine (specMul2 (p : Int) i _ _ DX DH DY _ E2.out (Ix.out.below (below_alloc wx _)) (Ih1.out.below (below_alloc wx _))).mono ?_
      rintro e wy ⟨pY, kY, b2, rfl, ho2, hb2⟩
      have bl2 : Below wx.heap.size wx wy := (below_alloc wx _).trans (hb2.mono (by simp))
      have Iy := Lib.hid (ho2.mono (lo' := wx.heap.size) (by rw [size_alloc]; omega) (Nat.le_refl _))
      have Zz2 := Lib.hid (blk_later Zz1.out bl2)
      have Cu2 := Lib.hid (Cu1.out.below bl2)
      have Fr2 := Lib.hid (Fr1.out.thenB bl2 (by omega))
      have hs2' := bl2.size
      have hs3' := hb2.size
      rw [size_alloc] at hs3'
      clear ho2 hb2 bl2 q0 q1 q2 q3 qf qz
      have hby := below_alloc wy (.cells #[.int .i64 (p : Int), .int .i64 (i : Int), .int .i64 (i : Int), .slice pY DY.length kY] 34)
      have Iy3 := Lib.hid (Iy.out.below hby)
      have Zz3 := Lib.hid (blk_later Zz2.out hby)
      have Cu3 := Lib.hid (Cu2.out.below hby)
      have Fr3 := Lib.hid (Fr2.out.thenB hby (by omega))
      have hs4' := hby.size
      obtain ⟨t0, t1, t2, t3, tf, tz⟩ := blk4 (heap_alloc_top wy (.cells #[.int .i64 (p : Int), .int .i64 (i : Int), .int .i64 (i : Int), .slice pY DY.length kY] 34))
      obtain ⟨z0, z1, z2, z3, zf, zz⟩ := blk4 Zz3.out
      clear hby
      go_wp2_with fail
      obtain ⟨f0, f1, f2, f3, ff, fz⟩ := blk4 (set4_all Zz3.out (.int .i64 (p : Int)) (.int .i64 (i : Int)) (.int .i64 (i : Int)) (.slice pY DY.length kY))
      refine bodyPost_ret (v := .agg #[.int .i64 (p : Int), .int .i64 (i : Int), .int .i64 (i : Int), .slice pY DY.length kY]) (by simp [results, Try.results47, go_sem, f0, f1, f2, f3, fz]) rfl ⟨pY, kY, DY, rfl, ?_, Hfl.out, ?_, ?_⟩
      · exact (own_set4 Iy3.out (.inl (by omega)) _ _ _ _).mono (by omega) (by simp only [size_setCell]; omega)
      · exact Cu3.out.keepB (below_set4 (Below.refl w.heap.size _) (Nat.le_refl _) _ _ _ _) hk
      · exact Fr3.out.thenB (below_set4 (Below.refl w.heap.size _) (Nat.le_refl _) _ _ _ _) (Nat.le_refl _)
theorem dFlag_any (k n : Nat) (P : Int) (w : World) (h : Cur w k) (hp : primeOk P = true) (h1 : 1 ≤ n) (h5 : n ≤ 5) :
    Calls Try.prog 47 #[.pointer (some ⟨k, 0, none⟩), .int .i64 P, .int .i64 (n : Int)] w fun e w' =>
      ∃ (pd : Option Addr) (kd : Nat) (D : List Int), e = .returned (.agg #[.int .i64 P, .int .i64 (n : Int), .int .i64 (n : Int), .slice pd D.length kd]) ∧ OwnI 3 w' w.heap.size w'.heap.size (.slice pd D.length kd) D ∧ IsFl P n n D ∧ Cur w' k ∧ Frm k (k + 1) w w' := by
  obtain ⟨hP2, _⟩ := primeOk_range hp
  obtain ⟨p, rfl⟩ := Int.eq_ofNat_of_zero_le (show 0 ≤ P by omega)
  exact dFlag_nat k n p w h hp h1 h5

end Go.Proofs.Ytoodgbflaaabmaa

namespace Go.Proofs.Ytoodgbflaaabmaa
set_option linter.all false
open Go.RowKit

set_option maxRecDepth 100000 in
set_option maxHeartbeats 4000000 in
theorem dSpace_any (k : Nat) (P : Int) (n : Nat) (w : World) (h : Cur w k) (hp : primeOk P = true) (h1 : 1 ≤ n) (hn : n ≤ 7) :
    Calls Try.prog 58 #[.pointer (some ⟨k, 0, none⟩), .int .i64 P, .int .i64 (n : Int)] w fun e w' =>
      ∃ (r : Nat) (u : Value) (D : List Int), e = .returned (.agg #[.int .i64 P, .int .i64 (r : Int), .int .i64 (n : Int), u]) ∧ OwnI 3 w' w.heap.size w'.heap.size u D ∧ IsSp P r n D ∧ Cur w' k ∧ Frm k (k + 1) w w' := by
  obtain ⟨hP2, hP7⟩ := primeOk_range hp
  have Hp := Lib.hid hp
  have hk := h.lt
  have z0 := heap_alloc_top w (.cells #[.int .i64 0, .int .i64 0, .int .i64 0, .slice none 0 0] 34)
  have Hc := Lib.hid (h.below (below_alloc w (.cells #[.int .i64 0, .int .i64 0, .int .i64 0, .slice none 0 0] 34)))
  have HZ1 := Lib.hid z0
  have Hb1 := Lib.hid (below_alloc w (.cells #[.int .i64 0, .int .i64 0, .int .i64 0, .slice none 0 0] 34))
  have hs1 : (w.alloc (.cells #[.int .i64 0, .int .i64 0, .int .i64 0, .slice none 0 0] 34)).heap.size = w.heap.size + 1 := size_alloc _ _
  clear h z0 hp
  have hnn : (n : Int) + 1 = ((n + 1 : Nat) : Int) := by omega
  have Hnn := Lib.hid hnn
  clear hnn
  go_enter Try.func58, Try.ntmps58
  go_wp2_with fail
  generalize w.alloc (.cells #[.int .i64 0, .int .i64 0, .int .i64 0, .slice none 0 0] 34) = w1 at *
  rw [Hnn.out]
  refine (l1Below_any k (n + 1) _ Hc.out (by omega) (by omega)).mono ?_
  rintro e w2 ⟨r, rfl, hr, hc2, hf2⟩
  have HZ2 := Lib.hid ((hf2.block w.heap.size (by omega) (Or.inr (by omega))).trans HZ1.out)
  have Hf2 := Lib.hid ((Frm.of_below Hb1.out _ _).trans hf2)
  have hs2 := hf2.size
  clear hf2
  have Hc2 := Lib.hid hc2
  clear hc2
  go_wp2_with fail
  refine (dMatrix_any k P r n _ Hc2.out Hp.out (by omega) hn).mono ?_
  rintro e w3 ⟨u, D, rfl, ho3, hl3, hD3, hc3, hf3⟩
  have HZ3 := Lib.hid ((hf3.block w.heap.size (by omega) (Or.inr (by omega))).trans HZ2.out)
  have Hf3 := Lib.hid (Hf2.out.trans hf3)
  have hs3 := hf3.size
  have Hc3 := Lib.hid hc3
  have Ho3 := Lib.hid ho3
  have Hl3 := Lib.hid hl3
  have HD3 := Lib.hid (fun t => getD_range hD3 (by omega) t)
  clear hf3 hc3 ho3 hl3 hD3
  obtain ⟨p3, k3, rfl, _, _⟩ := Ho3.out.shape
  go_wp2_with fail
  refine (l7Span_any P r n _ D _ Ho3.out.ints Hl3.out HD3.out Hp.out (by omega) (by omega)).mono ?_
  rintro e w4 ⟨m, M, q, hred, hm, v, rfl, ho4, hb4⟩
  obtain ⟨L, hL⟩ : ∃ L, L = flatM m n M := ⟨_, rfl⟩
  rw [← hL] at ho4 ⊢
  have HL := Lib.hid hL
  have Ho4 := Lib.hid ho4
  have hs4 := hb4.size
  have HZ4 := Lib.hid (blk_later HZ3.out hb4)
  have Hc4 := Lib.hid (Hc3.out.below hb4)
  have Hf4 := Lib.hid (Hf3.out.trans (Frm.of_below hb4 _ _))
  have Hred := Lib.hid hred
  obtain ⟨p4, k4, rfl, _, _⟩ := ho4.shape
  clear hL ho4 hb4 hred
  obtain ⟨n0, n1, n2, n3, nf', nz⟩ := blk4 HZ4.out
  go_wp2_with fail
  obtain ⟨f0, f1, f2, f3, ff, fz⟩ := blk4 (set4_all HZ4.out (.int .i64 P) (.int .i64 m) (.int .i64 n) (.slice p4 L.length k4))
  refine bodyPost_ret (v := .agg #[.int .i64 P, .int .i64 m, .int .i64 n, .slice p4 L.length k4]) (by simp [results, Try.results58, go_sem, f0, f1, f2, f3, fz]) rfl ⟨m, _, L, rfl, ?_, ?_, ?_, ?_⟩
  · exact (own_set4 Ho4.out (.inl (by omega)) _ _ _ _).mono (by omega) (by simp only [size_setCell]; omega)
  · rw [HL.out]; exact Hred.out.isSp Hp.out h1 hn
  · exact Hc4.out.keepB (below_set4 (Below.refl w.heap.size w4) (Nat.le_refl _) _ _ _ _) hk
  · exact Hf4.out.thenB (below_set4 (Below.refl w.heap.size w4) (Nat.le_refl _) _ _ _ _) (Nat.le_refl _)

theorem set4_other {w : World} {b b' : Nat} {o : Obj} (h : w.heap[b]? = some o) (hne : b ≠ b') (x0 x1 x2 x3 : Value) : ((((w.setCell ⟨b', 0, none⟩ x0).setCell ⟨b', 1, none⟩ x1).setCell ⟨b', 2, none⟩ x2).setCell ⟨b', 3, none⟩ x3).heap[b]? = some o := by
  rw [heap_set4 hne]; exact h

end Go.Proofs.Ytoodgbflaaabmaa

namespace Go.Proofs.Ytoodgbflaaabmaa
set_option linter.all false
open Go.RowKit

def shAt (xs : List Int) (j : Nat) : Prop := 1 ≤ xs.getD j 0 ∧ xs.getD j 0 ≤ 16 ∧ (0 < j → xs.getD j 0 ≤ xs.getD (j - 1) 0)
instance (xs : List Int) (j : Nat) : Decidable (shAt xs j) := by unfold shAt; exact inferInstance
/-- numbers from 1 to 16, at most 16 of them, that do not grow -/
def shOk (xs : List Int) : Bool := decide (xs.length ≤ 16 ∧ ∀ j, j < xs.length → shAt xs j)
theorem shOk_no {xs : List Int} {j : Nat} (hj : j < xs.length) (h : ¬ shAt xs j) : shOk xs = false := by
  unfold shOk
  exact decide_eq_false fun e => h (e.2 j hj)
theorem shOk_len {xs : List Int} (h : ¬ xs.length ≤ 16) : shOk xs = false := by
  unfold shOk
  exact decide_eq_false fun e => h e.1
theorem shOk_yes {xs : List Int} (h : xs.length ≤ 16) (hj : ∀ j, j < xs.length → shAt xs j) : shOk xs = true := by
  unfold shOk
  exact decide_eq_true ⟨h, hj⟩
theorem shOk_facts {xs : List Int} (h : shOk xs = true) : xs.length ≤ 16 ∧ ∀ j, j < xs.length → shAt xs j := by
  unfold shOk at h
  exact of_decide_eq_true h

set_option maxRecDepth 100000 in
set_option maxHeartbeats 2000000 in
theorem implIsShape_any (v : Value) (xs : List Int) (w : World) (h : Ints w v xs) :
    Calls Try.prog 64 #[v] w fun e w' => e = .returned (.bool (shOk xs)) ∧ Qt w w' := by
  obtain ⟨p, cap, rfl, ⟨hx1, hx2⟩, hxc⟩ := h
  unfold maxLen at hx2
  go_enter Try.func64, Try.ntmps64
  go_wp2_with fail
  go_loopg [3, 4, 7] xs.length (fun g s3 s4 i wr => ∃ k : Nat, k ≤ xs.length ∧ g = xs.length - k ∧ i = .int .i64 k ∧ Qt w wr ∧ Hid (∀ j, j < k → shAt xs j))
  case atStart => exact ⟨0, Nat.zero_le _, rfl, rfl, Qt.refl _, fun j hj => absurd hj (Nat.not_lt_zero _)⟩
  case round =>
    obtain ⟨k, hk, rfl, rfl, hq, hp⟩ := hrel
    by_cases hlt : k < xs.length
    · obtain ⟨b, off, rfl, hc⟩ := hxc (by omega)
      obtain ⟨x, hx⟩ : ∃ x, x = xs.getD k 0 := ⟨_, rfl⟩
      have c1 := hq.cell (hc k hlt)
      unfold iv at c1
      rw [← hx] at c1
      have Hx := Lib.hid hx
      have Hc := Lib.hid hc
      clear hx hc hxc
      have hk1 : (k : Int) < (xs.length : Int) := by omega
      by_cases hx1' : x < 1
      · go_wp2_with fail
        go_ret
        exact ⟨ret_bool (shOk_no hlt fun e => by have := e.1; rw [← Hx.out] at this; omega).symm, hq⟩
      by_cases hx16 : 16 < x
      · go_wp2_with fail
        go_ret
        exact ⟨ret_bool (shOk_no hlt fun e => by have := e.2.1; rw [← Hx.out] at this; omega).symm, hq⟩
      by_cases hk0 : k = 0
      · subst hk0
        rw [Nat.add_zero] at c1
        go_wp2_with fail
        go_roundg (xs.length - (0 + 1))
        case measure => omega
        case rel =>
          refine ⟨0 + 1, by omega, rfl, by go_num, hq, fun j hj => ?_⟩
          obtain rfl : j = 0 := by omega
          exact ⟨by rw [← Hx.out]; omega, by rw [← Hx.out]; omega, fun h => absurd h (Nat.lt_irrefl _)⟩
      · obtain ⟨m, hm⟩ : ∃ m, m = k - 1 := ⟨_, rfl⟩
        have hkm : k = m + 1 := by omega
        obtain ⟨y, hy⟩ : ∃ y, y = xs.getD m 0 := ⟨_, rfl⟩
        have c2 := hq.cell (Hc.out m (by omega))
        unfold iv at c2
        rw [← hy] at c2
        have Hy := Lib.hid hy
        have hg0 : (0 : Int) < (k : Int) := by omega
        have hm1 : m < xs.length := by omega
        have hm2 : (m : Int) < (xs.length : Int) := by omega
        have hm3 : (0 : Int) ≤ (m : Int) := by omega
        have Hkm := Lib.hid hkm
        have hw0 : (k : Int) - 1 = (m : Int) := by omega
        clear hy hm hkm hk0
        by_cases hyx : y < x
        · go_wp2_with fail
          go_ret
          refine ⟨ret_bool (shOk_no hlt fun e => ?_).symm, hq⟩
          have := e.2.2 (by have := Hkm.out; omega)
          rw [← Hx.out, show k - 1 = m by have := Hkm.out; omega, ← Hy.out] at this
          omega
        · go_wp2_with fail
          go_roundg (xs.length - (k + 1))
          case measure => omega
          case rel =>
            refine ⟨k + 1, by omega, rfl, by go_num, hq, fun j hj => ?_⟩
            by_cases e : j = k
            · subst e
              exact ⟨by rw [← Hx.out]; omega, by rw [← Hx.out]; omega, fun _ => by rw [← Hx.out, show j - 1 = m by have := Hkm.out; omega, ← Hy.out]; omega⟩
            · exact hp.out j (by omega)
    · by_cases hl : xs.length ≤ 16
      · have e1 : (xs.length : Int) ≤ 16 := by omega
        go_wp2_with fail
        go_ret
        exact ⟨ret_bool (by rw [shOk_yes hl fun j hj => hp.out j (by omega)]), hq⟩
      · have e1 : ¬ (xs.length : Int) ≤ 16 := by omega
        go_wp2_with fail
        go_ret
        exact ⟨ret_bool (by rw [shOk_len hl]), hq⟩

theorem rowOf_any (v : Value) (xs : List Int) (i : Nat) (w : World) (h : Ints w v xs) (hi : i ≤ 1000000) :
    Calls Try.prog 63 #[v, .int .i64 (i : Int)] w fun e w' => e = .returned (.int .i64 (xs.getD i 0)) ∧ Qt w w' := by
  obtain ⟨p, cap, rfl, ⟨hx1, hx2⟩, hxc⟩ := h
  unfold maxLen at hx2
  by_cases hlt : i < xs.length
  · obtain ⟨b, off, rfl, hc⟩ := hxc (by omega)
    obtain ⟨x, hx⟩ : ∃ x, x = xs.getD i 0 := ⟨_, rfl⟩
    have c1 := hc i hlt
    unfold iv at c1
    rw [← hx] at c1 ⊢
    have hi1 : (i : Int) < (xs.length : Int) := by omega
    clear hx hc hxc
    go_enter Try.func63, Try.ntmps63
    go_wp2_with fail
    go_ret
    exact ⟨rfl, Qt.refl _⟩
  · have e : xs.getD i 0 = 0 := by simp [List.getD_eq_getElem?_getD, Nat.le_of_not_lt hlt]
    rw [e]
    have hi1 : ¬ (i : Int) < (xs.length : Int) := by omega
    go_enter Try.func63, Try.ntmps63
    go_wp2_with fail
    go_ret
    exact ⟨rfl, Qt.refl _⟩

end Go.Proofs.Ytoodgbflaaabmaa
