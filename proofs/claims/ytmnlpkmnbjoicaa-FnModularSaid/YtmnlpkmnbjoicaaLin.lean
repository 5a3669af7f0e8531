/-
  More of spans and ranks: rows that are independent, spans within spans, halves of rows (plain law; no program in sight).
-/
import Derived.Test.YtmnlpkmnbjoicaaRankL
namespace Go.Proofs.Ytmnlpkmnbjoicaa
set_option linter.all false

theorem Sp.narrow {p : Int} {C C' n : Nat} {M : Nat → Nat → Int} {v : Nat → Int} (h : Sp p C n M v) (hC : C' ≤ C) : Sp p C' n M v := by
  induction h with
  | zero => exact .zero
  | add c i hi _ ih => exact .add c i hi ih
  | eqv _ e ih => exact ih.eqv fun j hj => e j (by omega)
theorem Sp.mono {p : Int} {C n n' : Nat} {M : Nat → Nat → Int} {v : Nat → Int} (h : Sp p C n M v) (hn : n ≤ n') : Sp p C n' M v :=
  h.trans fun i hi => .row (by omega)
theorem Sp.congr {p : Int} {C n : Nat} {M M' : Nat → Nat → Int} {v : Nat → Int} (h : Sp p C n M v) (e : ∀ i, i < n → Eqv p C (M i) (M' i)) : Sp p C n M' v :=
  h.trans fun i hi => (Sp.row hi).eqv (e i hi).symm
theorem Sp.sub {p : Int} {C n : Nat} {M : Nat → Nat → Int} {u v : Nat → Int} (h : Sp p C n M u) (h2 : Sp p C n M v) : Sp p C n M (fun j => u j - v j) :=
  (h.comb (-1) h2).eqv (.of_eq fun j _ => by omega)
/-- a sum over rows, with numbers before them -/
theorem Sp.coef {p : Int} {C n : Nat} {M : Nat → Nat → Int} {v : Nat → Int} (h : Sp p C n M v) : ∃ c : Nat → Int, ∀ j, j < C → p ∣ v j - sm n (fun i => c i * M i j) := by
  induction h with
  | zero => exact ⟨fun _ => 0, fun j _ => by rw [sm_congr (g := fun _ => 0) (fun i _ => by simp), sm_zero]; simp⟩
  | @add v c i hi _ ih =>
    obtain ⟨d, hd⟩ := ih
    refine ⟨fun k => d k + c * if i = k then 1 else 0, fun j hj => ?_⟩
    have e : sm n (fun k => (d k + c * if i = k then 1 else 0) * M k j) = sm n (fun k => d k * M k j) + c * M i j := by
      rw [← sm_one n i hi c (fun k => M k j), ← sm_add]
      exact sm_congr fun k _ => by rw [Int.add_mul]
    rw [e]
    have := hd j hj
    rwa [show ∀ a b x : Int, a + x - (b + x) = a - b by intros; omega]
  | eqv _ e ih =>
    obtain ⟨d, hd⟩ := ih
    refine ⟨d, fun j hj => ?_⟩
    have := Int.dvd_sub (hd j hj) (e j hj)
    rwa [show ∀ a b x : Int, a - x - (a - b) = b - x by intros; omega] at this
theorem sp_sm {p : Int} {C n m : Nat} {M : Nat → Nat → Int} (c : Nat → Int) (hm : m ≤ n) : Sp p C n M (fun j => sm m (fun i => c i * M i j)) := by
  induction m with
  | zero => exact .zero
  | succ m ih => exact .add (c m) m (by omega) (ih (by omega))
theorem Sp.of_coef {p : Int} {C n : Nat} {M : Nat → Nat → Int} {v : Nat → Int} (c : Nat → Int) (h : ∀ j, j < C → p ∣ v j - sm n (fun i => c i * M i j)) : Sp p C n M v :=
  (sp_sm c (Nat.le_refl n)).eqv fun j hj => by
    have := Int.dvd_neg.2 (h j hj)
    rwa [Int.neg_sub] at this
theorem sm_split (a b : Nat) (f : Nat → Int) : sm (a + b) f = sm a f + sm b (fun i => f (a + i)) := by
  induction b with
  | zero => simp [sm]
  | succ b ih => rw [← Nat.add_assoc, sm, sm, ih]; omega

/-- the rows are independent -/
def Indep (p : Int) (C n : Nat) (M : Nat → Nat → Int) : Prop := ∀ c : Nat → Int, (∀ j, j < C → p ∣ sm n (fun i => c i * M i j)) → ∀ i, i < n → p ∣ c i
theorem Indep.part {p : Int} {C n m : Nat} {M : Nat → Nat → Int} (h : Indep p C n M) (hm : m ≤ n) : Indep p C m M := fun c hc i hi => by
  have := h (fun k => if k < m then c k else 0) (fun j hj => ?_) i (by omega)
  · simpa [hi] using this
  · obtain ⟨d, rfl⟩ : ∃ d, n = m + d := ⟨n - m, by omega⟩
    have e1 : sm d (fun k => (if m + k < m then c (m + k) else 0) * M (m + k) j) = 0 := (sm_congr (g := fun _ => 0) fun k _ => by simp [show ¬ m + k < m by omega]).trans (sm_zero d)
    have e2 : sm m (fun k => (if k < m then c k else 0) * M k j) = sm m (fun k => c k * M k j) := sm_congr fun k hk => by simp [hk]
    rw [sm_split, e1, e2, Int.add_zero]
    exact hc j hj
/-- a reduced form's rows are -/
theorem Red.indep {p : Int} {C n : Nat} {M : Nat → Nat → Int} {q : Nat → Nat} (h : Red p C n M q) : Indep p C n M := fun c hc i hi => by
  have := hc (q i) (h.lt i hi)
  rw [sm_congr (g := fun k => (c i * if i = k then 1 else 0) * (fun _ => 1) k) (fun k hk => ?_), sm_one n i hi] at this
  · simpa using this
  · rw [h.unit k i hk hi]
    by_cases e : i = k
    · subst e; simp
    · simp [e, show ¬ k = i from fun x => e x.symm]

/-- ascending from below n to below n': no more -/
theorem asc_into {n n' : Nat} {s : Nat → Nat} (h : ∀ i k, i < k → k < n → s i < s k) (hl : ∀ i, i < n → s i < n') : n ≤ n' := asc_bound h hl
theorem asc_same {n : Nat} {s : Nat → Nat} (h : ∀ i k, i < k → k < n → s i < s k) (hl : ∀ i, i < n → s i < n) : ∀ i, i < n → s i = i := by
  have lo : ∀ i, i < n → i ≤ s i := by
    intro i
    induction i with
    | zero => exact fun _ => Nat.zero_le _
    | succ i ih =>
      intro hi
      have a := ih (by omega)
      have b := h i (i + 1) (by omega) hi
      omega
  have hi' : ∀ d i, i < n → n - 1 - i = d → s i ≤ i := by
    intro d
    induction d with
    | zero => intro i hi e; have := hl i hi; omega
    | succ d ih =>
      intro i hi e
      have a := ih (i + 1) (by omega) (by omega)
      have b := h i (i + 1) (by omega) (by omega)
      omega
  intro i hi
  have := lo i hi
  have := hi' _ i hi rfl
  omega

/-- the columns of a span within another one -/
theorem red_cols {p : Int} {C n n' : Nat} {M M' : Nat → Nat → Int} {q q' : Nat → Nat} (hp : 2 ≤ p) (h : Red p C n M q) (h' : Red p C n' M' q') (ha : ∀ i k, i < k → k < n → q i < q k) (ha' : ∀ i k, i < k → k < n' → q' i < q' k)
    (hs : ∀ i, i < n' → Sp p C n M (M' i)) : ∃ s : Nat → Nat, (∀ k, k < n' → s k < n ∧ q (s k) = q' k) ∧ ∀ i k, i < k → k < n' → s i < s k := by
  have hc : ∀ k, ∃ i, k < n' → i < n ∧ q i = q' k := fun k => by
    by_cases hk : k < n'
    · obtain ⟨i, hi, e⟩ := Red.cols h h' hp hs hk
      exact ⟨i, fun _ => ⟨hi, e⟩⟩
    · exact ⟨0, fun x => absurd x hk⟩
  refine ⟨fun k => Classical.choose (hc k), fun k hk => Classical.choose_spec (hc k) hk, fun i k hik hk => ?_⟩
  have a := Classical.choose_spec (hc i) (by omega)
  have b := Classical.choose_spec (hc k) hk
  have := ha' i k hik hk
  rw [← a.2, ← b.2] at this
  show Classical.choose (hc i) < Classical.choose (hc k)
  generalize Classical.choose (hc i) = x at *
  generalize Classical.choose (hc k) = y at *
  rcases Nat.lt_or_ge x y with e | e
  · exact e
  · rcases Nat.lt_or_eq_of_le e with e | e
    · have := ha y x e a.1; omega
    · subst e; omega
/-- no greater rank -/
theorem IsRed.le {P : Int} {C R R' n n' : Nat} {M0 M1 M M' : Nat → Nat → Int} {q q' : Nat → Nat} (hP : 2 ≤ P) (h : IsRed P C R M0 n M q) (h' : IsRed P C R' M1 n' M' q') (hs : ∀ i, i < R' → Sp P C R M0 (M1 i)) : n' ≤ n := by
  have hs' : ∀ i, i < n' → Sp P C n M (M' i) := fun i hi => ((h'.2.2.2.2 i hi).trans hs).trans h.2.2.2.1
  obtain ⟨s, h1, h2⟩ := red_cols hP h.1 h'.1 h.2.1 h'.2.1 hs'
  exact asc_into h2 fun k hk => (h1 k hk).1
theorem HasRank.le_of_sub {P : Int} {C R R' n n' : Nat} {M0 M1 : Nat → Nat → Int} (hP : 2 ≤ P) (h : HasRank P C R M0 n) (h' : HasRank P C R' M1 n') (hs : ∀ i, i < R' → Sp P C R M0 (M1 i)) : n' ≤ n := by
  obtain ⟨M, q, h⟩ := h
  obtain ⟨M', q', h'⟩ := h'
  exact h.le hP h' hs
/-- a span within another one of the same rank is the same -/
theorem HasRank.same_of_sub {P : Int} {C R R' n : Nat} {M0 M1 : Nat → Nat → Int} (hP : 2 ≤ P) (h : HasRank P C R M0 n) (h' : HasRank P C R' M1 n) (hs : ∀ i, i < R' → Sp P C R M0 (M1 i)) : SameSp P C R' M1 R M0 := by
  obtain ⟨M, q, h⟩ := h
  obtain ⟨M', q', h'⟩ := h'
  have hs' : ∀ i, i < n → Sp P C n M (M' i) := fun i hi => ((h'.2.2.2.2 i hi).trans hs).trans h.2.2.2.1
  obtain ⟨s, h1, h2⟩ := red_cols hP h.1 h'.1 h.2.1 h'.2.1 hs'
  have h3 := asc_same h2 fun k hk => (h1 k hk).1
  have hq : ∀ k, k < n → q' k = q k := fun k hk => by have := (h1 k hk).2; rw [h3 k hk] at this; exact this.symm
  refine ⟨hs, fun i hi => ?_⟩
  -- a row of the greater one, less its part in the smaller one, has 0 at all columns
  have hrow : ∀ v, Sp P C n M v → Sp P C n M' v := fun v hv => by
    have hd : Sp P C n M (fun j => v j - sm n (fun i => v (q i) * M' i j)) := hv.sub ((sp_sm _ (Nat.le_refl n)).trans hs')
    have hz : ∀ k, k < n → P ∣ v (q k) - sm n (fun i => v (q i) * M' i (q k)) := fun k hk => by
      rw [sm_congr (g := fun i => (v (q k) * if k = i then 1 else 0) * (fun _ => 1) i) (fun i hi => ?_), sm_one n k hk]
      · simp
      · rw [← hq k hk, h'.1.unit i k hi hk]
        by_cases e : k = i
        · subst e; simp [hq k hk]
        · simp [e, show ¬ i = k from fun x => e x.symm]
    refine .of_coef (fun i => v (q i)) fun j hj => ?_
    have hco := h.1.coord hd j hj
    have : P ∣ sm n (fun i => (v (q i) - sm n (fun t => v (q t) * M' t (q i))) * M i j) := sm_dvd fun i hi => Int.dvd_mul_of_dvd_left (hz i hi)
    have := Int.dvd_add hco this
    rwa [Int.sub_add_cancel] at this
  exact (hrow _ (h.2.2.2.1 i hi)).trans h'.2.2.2.2
/-- independent rows are as many as the rank -/
theorem Indep.rank {P : Int} {C R : Nat} {M0 : Nat → Nat → Int} (hp : primeOk P = true) (hr : ∀ i j, i < R → j < C → 0 ≤ M0 i j ∧ M0 i j < P) (h : Indep P C R M0) : HasRank P C R M0 R := by
  obtain ⟨hP, _⟩ := primeOk_range hp
  obtain ⟨f, f0, f1, f2⟩ := ranks_ex hp R hr
  have h3 : ∀ n, n < R → f (n + 1) = f n + 1 := fun n hn => by
    rcases f2 n hn with e | e
    · exfalso
      have a := f1 n (by omega)
      have b := f1 (n + 1) hn
      rw [e] at b
      have hs := b.same_of_sub hP a fun i hi => .row (by omega)
      obtain ⟨c, hc⟩ := (hs.2 n (by omega)).coef
      have := h.part hn (fun k => if k = n then 1 else - c k) (fun j hj => ?_) n (by omega)
      · simp at this
        exact Red.not_dvd_one hP this
      · have := hc j hj
        rw [sm]
        simp only [if_true, Int.one_mul]
        rw [sm_congr (g := fun i => 0 - c i * M0 i j) (fun k hk => by rw [if_neg (by omega), Int.neg_mul]; omega), ← sm_sub, sm_zero]
        rwa [show ∀ a b : Int, 0 - a + b = b - a by intros; omega]
    · exact e
  have h4 : ∀ n, n ≤ R → f n = n := by
    intro n
    induction n with
    | zero => exact fun _ => f0
    | succ n ih => intro hn; rw [h3 n hn, ih (by omega)]
  have := f1 R (Nat.le_refl _)
  rwa [h4 R (Nat.le_refl _)] at this

end Go.Proofs.Ytmnlpkmnbjoicaa
