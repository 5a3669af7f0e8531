/-
  Rows modulo p, what they span, and the one reduced form of a span (plain law; no program).
-/
import Derived.Lib.Hide
namespace Go.Proofs.Ytejoapielndnnaa
set_option linter.all false

/-- the same modulo p, as far as column C -/
def Eqv (p : Int) (C : Nat) (u v : Nat → Int) : Prop := ∀ j, j < C → p ∣ u j - v j
theorem Eqv.refl (p : Int) (C : Nat) (u : Nat → Int) : Eqv p C u u := fun j _ => by simp
theorem Eqv.symm {p : Int} {C : Nat} {u v : Nat → Int} (h : Eqv p C u v) : Eqv p C v u := fun j hj => by
  have := Int.dvd_neg.2 (h j hj)
  rwa [Int.neg_sub] at this
theorem Eqv.trans {p : Int} {C : Nat} {u v t : Nat → Int} (h : Eqv p C u v) (h2 : Eqv p C v t) : Eqv p C u t := fun j hj => by
  have := Int.dvd_add (h j hj) (h2 j hj)
  rwa [show u j - v j + (v j - t j) = u j - t j by omega] at this
theorem Eqv.of_eq {p : Int} {C : Nat} {u v : Nat → Int} (h : ∀ j, j < C → u j = v j) : Eqv p C u v := fun j hj => by rw [h j hj]; simp
theorem Eqv.emod {p : Int} {C : Nat} (u : Nat → Int) : Eqv p C (fun j => u j % p) u := fun j _ => by
  have := Int.dvd_neg.2 (Int.dvd_self_sub_emod (x := u j) (m := p))
  rwa [Int.neg_sub] at this

/-- what n rows span -/
inductive Sp (p : Int) (C n : Nat) (M : Nat → Nat → Int) : (Nat → Int) → Prop
  | zero : Sp p C n M (fun _ => 0)
  | add {v : Nat → Int} (c : Int) (i : Nat) (hi : i < n) (h : Sp p C n M v) : Sp p C n M (fun j => v j + c * M i j)
  | eqv {u v : Nat → Int} (h : Sp p C n M u) (e : Eqv p C u v) : Sp p C n M v

namespace Sp
variable {p : Int} {C n n' : Nat} {M M' : Nat → Nat → Int} {u v : Nat → Int}
theorem row {i : Nat} (hi : i < n) : Sp p C n M (M i) := by
  have := Sp.add (p := p) (C := C) (n := n) (M := M) 1 i hi .zero
  exact this.eqv (.of_eq fun j _ => by simp)
theorem sum (h : Sp p C n M u) (h2 : Sp p C n M v) : Sp p C n M (fun j => u j + v j) := by
  induction h2 with
  | zero => exact h.eqv (.of_eq fun j _ => by simp)
  | add c i hi _ ih => exact (Sp.add c i hi ih).eqv (.of_eq fun j _ => by dsimp only; omega)
  | eqv _ e ih => exact ih.eqv fun j hj => by have := e j hj; rwa [show ∀ a b c : Int, (a + b) - (a + c) = b - c by intros; omega]
theorem smul (c : Int) (h : Sp p C n M u) : Sp p C n M (fun j => c * u j) := by
  induction h with
  | zero => exact Sp.zero.eqv (.of_eq fun j _ => by simp)
  | add d i hi _ ih => exact (Sp.add (c * d) i hi ih).eqv (.of_eq fun j _ => by rw [Int.mul_add, Int.mul_assoc])
  | eqv _ e ih => exact ih.eqv fun j hj => by rw [← Int.mul_sub]; exact Int.dvd_mul_of_dvd_right (e j hj)
/-- u + c v -/
theorem comb (c : Int) (h : Sp p C n M u) (h2 : Sp p C n M v) : Sp p C n M (fun j => u j + c * v j) := h.sum (h2.smul c)
theorem trans (h : Sp p C n M v) (h2 : ∀ i, i < n → Sp p C n' M' (M i)) : Sp p C n' M' v := by
  induction h with
  | zero => exact .zero
  | add c i hi _ ih => exact ih.comb c (h2 i hi)
  | eqv _ e ih => exact ih.eqv e
end Sp

/-- two lists of rows that span the same -/
def SameSp (p : Int) (C n : Nat) (M : Nat → Nat → Int) (n' : Nat) (M' : Nat → Nat → Int) : Prop :=
  (∀ i, i < n → Sp p C n' M' (M i)) ∧ ∀ i, i < n' → Sp p C n M (M' i)
namespace SameSp
variable {p : Int} {C n n' n'' : Nat} {M M' M'' : Nat → Nat → Int}
theorem refl : SameSp p C n M n M := ⟨fun _ h => .row h, fun _ h => .row h⟩
theorem symm (h : SameSp p C n M n' M') : SameSp p C n' M' n M := ⟨h.2, h.1⟩
theorem trans (h : SameSp p C n M n' M') (h2 : SameSp p C n' M' n'' M'') : SameSp p C n M n'' M'' :=
  ⟨fun i hi => (h.1 i hi).trans h2.1, fun i hi => (h2.2 i hi).trans h.2⟩
theorem of_eqv (h : ∀ i, i < n → Eqv p C (M i) (M' i)) : SameSp p C n M n M' :=
  ⟨fun i hi => (Sp.row hi).eqv (h i hi).symm, fun i hi => (Sp.row hi).eqv (h i hi)⟩
/-- every row but one has got a multiple of that one -/
theorem elim (k : Nat) (hk : k < n) (c : Nat → Int) (hrow : Eqv p C (M' k) (M k)) (h : ∀ i, i < n → i ≠ k → Eqv p C (M' i) (fun j => M i j + c i * M k j)) : SameSp p C n M n M' := by
  have hk1 : Sp p C n M (M' k) := (Sp.row hk).eqv hrow.symm
  have hk2 : Sp p C n M' (M k) := (Sp.row hk).eqv hrow
  refine ⟨fun i hi => ?_, fun i hi => ?_⟩
  · by_cases e : i = k
    · subst e; exact hk2
    · refine (((Sp.row hi).eqv (h i hi e)).comb (-c i) hk2).eqv (.of_eq fun j _ => ?_)
      have : -c i * M k j = -(c i * M k j) := Int.neg_mul _ _
      omega
  · by_cases e : i = k
    · subst e; exact hk1
    · exact ((Sp.row hi).comb (c i) (Sp.row hk)).eqv (h i hi e).symm
/-- one row has been multiplied by a unit -/
theorem scale (k : Nat) (hk : k < n) (s t : Int) (hst : p ∣ s * t - 1) (hrow : Eqv p C (M' k) (fun j => s * M k j)) (h : ∀ i, i < n → i ≠ k → Eqv p C (M' i) (M i)) : SameSp p C n M n M' := by
  have hk1 : Sp p C n M (M' k) := ((Sp.row hk).smul s).eqv hrow.symm
  have hk2 : Sp p C n M' (M k) := by
    refine (((Sp.row hk).eqv hrow).smul t).eqv fun j _ => ?_
    have e : t * (s * M k j) - M k j = (s * t - 1) * M k j := by
      rw [Int.sub_mul, Int.one_mul, Int.mul_comm s t, Int.mul_assoc]
    rw [e]
    exact Int.dvd_mul_of_dvd_left hst
  refine ⟨fun i hi => ?_, fun i hi => ?_⟩
  · by_cases e : i = k
    · subst e; exact hk2
    · exact (Sp.row hi).eqv (h i hi e)
  · by_cases e : i = k
    · subst e; exact hk1
    · exact (Sp.row hi).eqv (h i hi e).symm
/-- the rows stand in another order -/
theorem perm (f g : Nat → Nat) (hf : ∀ i, i < n → f i < n' ∧ Eqv p C (M i) (M' (f i))) (hg : ∀ i, i < n' → g i < n ∧ Eqv p C (M' i) (M (g i))) : SameSp p C n M n' M' :=
  ⟨fun i hi => (Sp.row (hf i hi).1).eqv (hf i hi).2.symm, fun i hi => (Sp.row (hg i hi).1).eqv (hg i hi).2.symm⟩
end SameSp

/-- rows each of which has a column of its own, with 1 there and 0 before it and 0 in the others' columns -/
structure Red (p : Int) (C n : Nat) (M : Nat → Nat → Int) (q : Nat → Nat) : Prop where
  lt : ∀ i, i < n → q i < C
  unit : ∀ i k, i < n → k < n → M i (q k) = if i = k then 1 else 0
  lead : ∀ i j, i < n → j < q i → M i j = 0

def sm (n : Nat) (f : Nat → Int) : Int := match n with | 0 => 0 | n + 1 => sm n f + f n
theorem sm_congr {n : Nat} {f g : Nat → Int} (h : ∀ i, i < n → f i = g i) : sm n f = sm n g := by
  induction n with
  | zero => rfl
  | succ n ih => rw [sm, sm, ih fun i hi => h i (by omega), h n (by omega)]
theorem sm_add (n : Nat) (f g : Nat → Int) : sm n (fun i => f i + g i) = sm n f + sm n g := by
  induction n with
  | zero => rfl
  | succ n ih => simp only [sm, ih]; omega
theorem sm_zero (n : Nat) : sm n (fun _ => 0) = 0 := by
  induction n with
  | zero => rfl
  | succ n ih => simp only [sm, ih]; omega
theorem sm_one (n k : Nat) (hk : k < n) (x : Int) (f : Nat → Int) : sm n (fun i => (x * if k = i then 1 else 0) * f i) = x * f k := by
  induction n with
  | zero => omega
  | succ n ih =>
    rw [sm]
    by_cases e : k = n
    · subst e
      rw [sm_congr (g := fun _ => 0), sm_zero]
      · simp
      · intro i hi
        simp [show ¬ k = i by omega]
    · rw [ih (by omega)]
      simp [e]
theorem sm_dvd {p : Int} {n : Nat} {f : Nat → Int} (h : ∀ i, i < n → p ∣ f i) : p ∣ sm n f := by
  induction n with
  | zero => exact Int.dvd_zero _
  | succ n ih => exact Int.dvd_add (ih fun i hi => h i (by omega)) (h n (by omega))
theorem sm_sub (n : Nat) (f g : Nat → Int) : sm n f - sm n g = sm n (fun i => f i - g i) := by
  induction n with
  | zero => rfl
  | succ n ih => simp only [sm, ← ih]; omega

namespace Red
variable {p : Int} {C n n' : Nat} {M M' : Nat → Nat → Int} {q q' : Nat → Nat}
/-- what is spanned is told by its numbers at the columns -/
theorem coord (h : Red p C n M q) {v : Nat → Int} (hv : Sp p C n M v) : ∀ j, j < C → p ∣ v j - sm n (fun i => v (q i) * M i j) := by
  induction hv with
  | zero =>
    intro j hj
    rw [sm_congr (g := fun _ => 0) (fun i _ => by simp), sm_zero]
    simp
  | @add v c k hk _ ih =>
    intro j hj
    have h1 := ih j hj
    have e : sm n (fun i => (v (q i) + c * M k (q i)) * M i j) = sm n (fun i => v (q i) * M i j) + c * M k j := by
      rw [← sm_one n k hk c (fun i => M i j), ← sm_add]
      refine sm_congr fun i hi => ?_
      rw [h.unit k i hk hi, Int.add_mul]
    rw [e]
    rwa [show ∀ a b c : Int, (a + b) - (c + b) = a - c by intros; omega]
  | @eqv u v _ e ih =>
    intro j hj
    have h1 := ih j hj
    have h2 := e j hj
    have h3 : p ∣ sm n (fun i => u (q i) * M i j) - sm n (fun i => v (q i) * M i j) := by
      rw [sm_sub]
      refine sm_dvd fun i hi => ?_
      rw [← Int.sub_mul]
      exact Int.dvd_mul_of_dvd_left (e _ (h.lt i hi))
    have := Int.dvd_add (Int.dvd_sub h1 h2) h3
    rwa [show ∀ a b c d : Int, (a - c) - (a - b) + (c - d) = b - d by intros; omega] at this
theorem leads (h : Red p C n M q) {v : Nat → Int} (hv : Sp p C n M v) {k : Nat} (hk : k < C) (h0 : ∀ j, j < k → p ∣ v j) (hn : ¬ p ∣ v k) : ∃ i, i < n ∧ q i = k := by
  apply Classical.byContradiction
  intro hno
  have hne : ∀ i, i < n → q i ≠ k := fun i hi e => hno ⟨i, hi, e⟩
  have h1 := h.coord hv k hk
  have h2 : p ∣ sm n (fun i => v (q i) * M i k) := sm_dvd fun i hi => by
    rcases Nat.lt_or_ge (q i) k with hl | hl
    · exact Int.dvd_mul_of_dvd_left (h0 _ hl)
    · rw [h.lead i k hi (by have := hne i hi; omega)]
      simp
  have := Int.dvd_add h1 h2
  rw [Int.sub_add_cancel] at this
  exact hn this
theorem not_dvd_one (hp : 2 ≤ p) : ¬ p ∣ (1 : Int) := fun h => by
  have := Int.le_of_dvd (by decide) h
  omega
theorem cols (h : Red p C n M q) (h' : Red p C n' M' q') (hp : 2 ≤ p) (hs : ∀ i, i < n' → Sp p C n M (M' i)) {k : Nat} (hk : k < n') : ∃ i, i < n ∧ q i = q' k := by
  refine h.leads (hs k hk) (h'.lt k hk) (fun j hj => ?_) ?_
  · rw [h'.lead k j hk hj]; exact Int.dvd_zero _
  · rw [h'.unit k k hk hk, if_pos rfl]; exact not_dvd_one hp
end Red

/-- strictly ascending columns with the same members are the same -/
theorem asc_le {n : Nat} {q : Nat → Nat} (h : ∀ i k, i < k → k < n → q i < q k) {i k : Nat} (hk : k < n) (hi : i < n) : q i < q k ↔ i < k := by
  constructor
  · intro hl
    rcases Nat.lt_or_ge i k with h1 | h1
    · exact h1
    · rcases Nat.lt_or_ge k i with h2 | h2
      · have := h k i h2 hi; omega
      · have : i = k := by omega
        subst this; omega
  · exact fun hl => h i k hl hk
theorem asc_eq : ∀ {n n' : Nat} {q q' : Nat → Nat}, (∀ i k, i < k → k < n → q i < q k) → (∀ i k, i < k → k < n' → q' i < q' k) →
    (∀ k, k < n' → ∃ i, i < n ∧ q i = q' k) → (∀ k, k < n → ∃ i, i < n' ∧ q' i = q k) → n = n' ∧ ∀ i, i < n → q i = q' i := by
  intro n
  induction n with
  | zero =>
    intro n' q q' h h' hs hs'
    rcases Nat.eq_zero_or_pos n' with e | e
    · exact ⟨e.symm, fun i hi => absurd hi (Nat.not_lt_zero _)⟩
    · obtain ⟨i, hi, _⟩ := hs 0 e
      omega
  | succ n ih =>
    intro n' q q' h h' hs hs'
    cases n' with
    | zero =>
      obtain ⟨i, hi, _⟩ := hs' 0 (by omega)
      omega
    | succ n' =>
      -- the last ones are the greatest of both
      have hlast : q n = q' n' := by
        obtain ⟨i, hi, e⟩ := hs n' (by omega)
        obtain ⟨k, hk, e'⟩ := hs' n (by omega)
        have h1 : q i ≤ q n := by
          rcases Nat.lt_or_ge i n with hl | hl
          · exact Nat.le_of_lt (h i n hl (by omega))
          · have : i = n := by omega
            subst this; exact Nat.le_refl _
        have h2 : q' k ≤ q' n' := by
          rcases Nat.lt_or_ge k n' with hl | hl
          · exact Nat.le_of_lt (h' k n' hl (by omega))
          · have : k = n' := by omega
            subst this; exact Nat.le_refl _
        omega
      have hr := ih (n' := n') (q := q) (q' := q') (fun i k hik hk => h i k hik (by omega)) (fun i k hik hk => h' i k hik (by omega))
        (fun k hk => by
          obtain ⟨i, hi, e⟩ := hs k (by omega)
          have hkl := h' k n' hk (by omega)
          refine ⟨i, ?_, e⟩
          rcases Nat.lt_or_ge i n with hl | hl
          · exact hl
          · have : i = n := by omega
            subst this; omega)
        (fun k hk => by
          obtain ⟨i, hi, e⟩ := hs' k (by omega)
          have hkl := h k n hk (by omega)
          refine ⟨i, ?_, e⟩
          rcases Nat.lt_or_ge i n' with hl | hl
          · exact hl
          · have : i = n' := by omega
            subst this; omega)
      obtain ⟨e, hr⟩ := hr
      subst e
      refine ⟨rfl, fun i hi => ?_⟩
      rcases Nat.lt_or_ge i n with hl | hl
      · exact hr i hl
      · have : i = n := by omega
        subst this; exact hlast

/-- the reduced form of a span is one -/
theorem red_unique {p : Int} {C n n' : Nat} {M M' : Nat → Nat → Int} {q q' : Nat → Nat} (hp : 2 ≤ p) (h : Red p C n M q) (h' : Red p C n' M' q')
    (ha : ∀ i k, i < k → k < n → q i < q k) (ha' : ∀ i k, i < k → k < n' → q' i < q' k) (hs : SameSp p C n M n' M')
    (hM : ∀ i j, i < n → j < C → 0 ≤ M i j ∧ M i j < p) (hM' : ∀ i j, i < n' → j < C → 0 ≤ M' i j ∧ M' i j < p) :
    n = n' ∧ (∀ i, i < n → q i = q' i) ∧ ∀ i j, i < n → j < C → M i j = M' i j := by
  obtain ⟨e, hq⟩ := asc_eq ha ha' (fun k hk => h.cols h' hp hs.2 hk) (fun k hk => h'.cols h hp hs.1 hk)
  subst e
  refine ⟨rfl, hq, fun i j hi hj => ?_⟩
  have h1 := h.coord (hs.2 i hi) j hj
  have e : sm n (fun k => M' i (q k) * M k j) = M i j := by
    have := sm_one n i hi 1 (fun k => M k j)
    rw [Int.one_mul] at this
    rw [← this]
    refine sm_congr fun k hk => ?_
    rw [hq k hk, h'.unit i k hi hk]
    simp
  rw [e] at h1
  obtain ⟨a1, a2⟩ := hM i j hi hj
  obtain ⟨b1, b2⟩ := hM' i j hi hj
  obtain ⟨c, hc⟩ := h1
  have hc0 : c = 0 := by
    rcases Int.lt_trichotomy c 0 with hlt | h0 | hgt
    · have : p * c ≤ p * (-1) := Int.mul_le_mul_of_nonneg_left (by omega) (by omega)
      omega
    · exact h0
    · have : p * 1 ≤ p * c := Int.mul_le_mul_of_nonneg_left (by omega) (by omega)
      omega
  subst hc0
  simp at hc
  omega

end Go.Proofs.Ytejoapielndnnaa
