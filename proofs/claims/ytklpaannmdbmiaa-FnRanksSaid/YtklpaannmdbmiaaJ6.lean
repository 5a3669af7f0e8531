/-
  Rows modulo p, what they span, and the one reduced form of a span (plain law; no program).
  The step of the program's reduction, as plain law.
  The step of the reference's reduction, as plain law.
  The reference's reduction, walked.
  slices.SortFunc of rows by their first places with a number.
-/
import Derived.Lib.Hide
import Derived.Test.YtklpaannmdbmiaaJ4
import Derived.Test.YtklpaannmdbmiaaShelf
import Derived.Test.YtklpaannmdbmiaaJ3
namespace Go.Proofs.Ytklpaannmdbmiaa
set_option linter.all false

/-- the same modulo p, as far as column C -/
def Eqv (p : Int) (C : Nat) (u v : Nat → Int) : Prop := ∀ j, j < C → p ∣ u j - v j
theorem Eqv.refl (p : Int) (C : Nat) (u : Nat → Int) : Eqv p C u u := fun j _ => by simp
theorem Eqv.symm {p : Int} {C : Nat} {u v : Nat → Int} (h : Eqv p C u v) : Eqv p C v u := fun j hj => by
  have := Int.dvd_neg.2 (h j hj)
  rwa [Int.neg_sub] at this
theorem Eqv.trans {p : Int} {C : Nat} {u v t : Nat → Int} (h : Eqv p C u v) (h2 : Eqv p C v t) : Eqv p C u t := fun j hj => by
  have := Int.dvd_add (h j hj) (h2 j hj)
  rwa [show u j - v j + (v j - t j) = u j - t j by omega] at this
theorem Eqv.of_eq {p : Int} {C : Nat} {u v : Nat → Int} (h : ∀ j, j < C → u j = v j) : Eqv p C u v := fun j hj => by rw [h j hj]; simp
theorem Eqv.emod {p : Int} {C : Nat} (u : Nat → Int) : Eqv p C (fun j => u j % p) u := fun j _ => by
  have := Int.dvd_neg.2 (Int.dvd_self_sub_emod (x := u j) (m := p))
  rwa [Int.neg_sub] at this

/-- what n rows span -/
inductive Sp (p : Int) (C n : Nat) (M : Nat → Nat → Int) : (Nat → Int) → Prop
  | zero : Sp p C n M (fun _ => 0)
  | add {v : Nat → Int} (c : Int) (i : Nat) (hi : i < n) (h : Sp p C n M v) : Sp p C n M (fun j => v j + c * M i j)
  | eqv {u v : Nat → Int} (h : Sp p C n M u) (e : Eqv p C u v) : Sp p C n M v

namespace Sp
variable {p : Int} {C n n' : Nat} {M M' : Nat → Nat → Int} {u v : Nat → Int}
theorem row {i : Nat} (hi : i < n) : Sp p C n M (M i) := by
  have := Sp.add (p := p) (C := C) (n := n) (M := M) 1 i hi .zero
  exact this.eqv (.of_eq fun j _ => by simp)
theorem sum (h : Sp p C n M u) (h2 : Sp p C n M v) : Sp p C n M (fun j => u j + v j) := by
  induction h2 with
  | zero => exact h.eqv (.of_eq fun j _ => by simp)
  | add c i hi _ ih => exact (Sp.add c i hi ih).eqv (.of_eq fun j _ => by dsimp only; omega)
  | eqv _ e ih => exact ih.eqv fun j hj => by have := e j hj; rwa [show ∀ a b c : Int, (a + b) - (a + c) = b - c by intros; omega]
theorem smul (c : Int) (h : Sp p C n M u) : Sp p C n M (fun j => c * u j) := by
  induction h with
  | zero => exact Sp.zero.eqv (.of_eq fun j _ => by simp)
  | add d i hi _ ih => exact (Sp.add (c * d) i hi ih).eqv (.of_eq fun j _ => by rw [Int.mul_add, Int.mul_assoc])
  | eqv _ e ih => exact ih.eqv fun j hj => by rw [← Int.mul_sub]; exact Int.dvd_mul_of_dvd_right (e j hj)
/-- u + c v -/
theorem comb (c : Int) (h : Sp p C n M u) (h2 : Sp p C n M v) : Sp p C n M (fun j => u j + c * v j) := h.sum (h2.smul c)
theorem trans (h : Sp p C n M v) (h2 : ∀ i, i < n → Sp p C n' M' (M i)) : Sp p C n' M' v := by
  induction h with
  | zero => exact .zero
  | add c i hi _ ih => exact ih.comb c (h2 i hi)
  | eqv _ e ih => exact ih.eqv e
end Sp

/-- two lists of rows that span the same -/
def SameSp (p : Int) (C n : Nat) (M : Nat → Nat → Int) (n' : Nat) (M' : Nat → Nat → Int) : Prop :=
  (∀ i, i < n → Sp p C n' M' (M i)) ∧ ∀ i, i < n' → Sp p C n M (M' i)
namespace SameSp
variable {p : Int} {C n n' n'' : Nat} {M M' M'' : Nat → Nat → Int}
theorem refl : SameSp p C n M n M := ⟨fun _ h => .row h, fun _ h => .row h⟩
theorem symm (h : SameSp p C n M n' M') : SameSp p C n' M' n M := ⟨h.2, h.1⟩
theorem trans (h : SameSp p C n M n' M') (h2 : SameSp p C n' M' n'' M'') : SameSp p C n M n'' M'' :=
  ⟨fun i hi => (h.1 i hi).trans h2.1, fun i hi => (h2.2 i hi).trans h.2⟩
theorem of_eqv (h : ∀ i, i < n → Eqv p C (M i) (M' i)) : SameSp p C n M n M' :=
  ⟨fun i hi => (Sp.row hi).eqv (h i hi).symm, fun i hi => (Sp.row hi).eqv (h i hi)⟩
/-- every row but one has got a multiple of that one -/
theorem elim (k : Nat) (hk : k < n) (c : Nat → Int) (hrow : Eqv p C (M' k) (M k)) (h : ∀ i, i < n → i ≠ k → Eqv p C (M' i) (fun j => M i j + c i * M k j)) : SameSp p C n M n M' := by
  have hk1 : Sp p C n M (M' k) := (Sp.row hk).eqv hrow.symm
  have hk2 : Sp p C n M' (M k) := (Sp.row hk).eqv hrow
  refine ⟨fun i hi => ?_, fun i hi => ?_⟩
  · by_cases e : i = k
    · subst e; exact hk2
    · refine (((Sp.row hi).eqv (h i hi e)).comb (-c i) hk2).eqv (.of_eq fun j _ => ?_)
      have : -c i * M k j = -(c i * M k j) := Int.neg_mul _ _
      omega
  · by_cases e : i = k
    · subst e; exact hk1
    · exact ((Sp.row hi).comb (c i) (Sp.row hk)).eqv (h i hi e).symm
/-- one row has been multiplied by a unit -/
theorem scale (k : Nat) (hk : k < n) (s t : Int) (hst : p ∣ s * t - 1) (hrow : Eqv p C (M' k) (fun j => s * M k j)) (h : ∀ i, i < n → i ≠ k → Eqv p C (M' i) (M i)) : SameSp p C n M n M' := by
  have hk1 : Sp p C n M (M' k) := ((Sp.row hk).smul s).eqv hrow.symm
  have hk2 : Sp p C n M' (M k) := by
    refine (((Sp.row hk).eqv hrow).smul t).eqv fun j _ => ?_
    have e : t * (s * M k j) - M k j = (s * t - 1) * M k j := by
      rw [Int.sub_mul, Int.one_mul, Int.mul_comm s t, Int.mul_assoc]
    rw [e]
    exact Int.dvd_mul_of_dvd_left hst
  refine ⟨fun i hi => ?_, fun i hi => ?_⟩
  · by_cases e : i = k
    · subst e; exact hk2
    · exact (Sp.row hi).eqv (h i hi e)
  · by_cases e : i = k
    · subst e; exact hk1
    · exact (Sp.row hi).eqv (h i hi e).symm
/-- the rows stand in another order -/
theorem perm (f g : Nat → Nat) (hf : ∀ i, i < n → f i < n' ∧ Eqv p C (M i) (M' (f i))) (hg : ∀ i, i < n' → g i < n ∧ Eqv p C (M' i) (M (g i))) : SameSp p C n M n' M' :=
  ⟨fun i hi => (Sp.row (hf i hi).1).eqv (hf i hi).2.symm, fun i hi => (Sp.row (hg i hi).1).eqv (hg i hi).2.symm⟩
end SameSp

/-- rows each of which has a column of its own, with 1 there and 0 before it and 0 in the others' columns -/
structure Red (p : Int) (C n : Nat) (M : Nat → Nat → Int) (q : Nat → Nat) : Prop where
  lt : ∀ i, i < n → q i < C
  unit : ∀ i k, i < n → k < n → M i (q k) = if i = k then 1 else 0
  lead : ∀ i j, i < n → j < q i → M i j = 0

def sm (n : Nat) (f : Nat → Int) : Int := match n with | 0 => 0 | n + 1 => sm n f + f n
theorem sm_congr {n : Nat} {f g : Nat → Int} (h : ∀ i, i < n → f i = g i) : sm n f = sm n g := by
  induction n with
  | zero => rfl
  | succ n ih => rw [sm, sm, ih fun i hi => h i (by omega), h n (by omega)]
theorem sm_add (n : Nat) (f g : Nat → Int) : sm n (fun i => f i + g i) = sm n f + sm n g := by
  induction n with
  | zero => rfl
  | succ n ih => simp only [sm, ih]; omega
theorem sm_zero (n : Nat) : sm n (fun _ => 0) = 0 := by
  induction n with
  | zero => rfl
  | succ n ih => simp only [sm, ih]; omega
theorem sm_one (n k : Nat) (hk : k < n) (x : Int) (f : Nat → Int) : sm n (fun i => (x * if k = i then 1 else 0) * f i) = x * f k := by
  induction n with
  | zero => omega
  | succ n ih =>
    rw [sm]
    by_cases e : k = n
    · subst e
      rw [sm_congr (g := fun _ => 0), sm_zero]
      · simp
      · intro i hi
        simp [show ¬ k = i by omega]
    · rw [ih (by omega)]
      simp [e]
theorem sm_dvd {p : Int} {n : Nat} {f : Nat → Int} (h : ∀ i, i < n → p ∣ f i) : p ∣ sm n f := by
  induction n with
  | zero => exact Int.dvd_zero _
  | succ n ih => exact Int.dvd_add (ih fun i hi => h i (by omega)) (h n (by omega))
theorem sm_sub (n : Nat) (f g : Nat → Int) : sm n f - sm n g = sm n (fun i => f i - g i) := by
  induction n with
  | zero => rfl
  | succ n ih => simp only [sm, ← ih]; omega

namespace Red
variable {p : Int} {C n n' : Nat} {M M' : Nat → Nat → Int} {q q' : Nat → Nat}
/-- what is spanned is told by its numbers at the columns -/
theorem coord (h : Red p C n M q) {v : Nat → Int} (hv : Sp p C n M v) : ∀ j, j < C → p ∣ v j - sm n (fun i => v (q i) * M i j) := by
  induction hv with
  | zero =>
    intro j hj
    rw [sm_congr (g := fun _ => 0) (fun i _ => by simp), sm_zero]
    simp
  | @add v c k hk _ ih =>
    intro j hj
    have h1 := ih j hj
    have e : sm n (fun i => (v (q i) + c * M k (q i)) * M i j) = sm n (fun i => v (q i) * M i j) + c * M k j := by
      rw [← sm_one n k hk c (fun i => M i j), ← sm_add]
      refine sm_congr fun i hi => ?_
      rw [h.unit k i hk hi, Int.add_mul]
    rw [e]
    rwa [show ∀ a b c : Int, (a + b) - (c + b) = a - c by intros; omega]
  | @eqv u v _ e ih =>
    intro j hj
    have h1 := ih j hj
    have h2 := e j hj
    have h3 : p ∣ sm n (fun i => u (q i) * M i j) - sm n (fun i => v (q i) * M i j) := by
      rw [sm_sub]
      refine sm_dvd fun i hi => ?_
      rw [← Int.sub_mul]
      exact Int.dvd_mul_of_dvd_left (e _ (h.lt i hi))
    have := Int.dvd_add (Int.dvd_sub h1 h2) h3
    rwa [show ∀ a b c d : Int, (a - c) - (a - b) + (c - d) = b - d by intros; omega] at this
theorem leads (h : Red p C n M q) {v : Nat → Int} (hv : Sp p C n M v) {k : Nat} (hk : k < C) (h0 : ∀ j, j < k → p ∣ v j) (hn : ¬ p ∣ v k) : ∃ i, i < n ∧ q i = k := by
  apply Classical.byContradiction
  intro hno
  have hne : ∀ i, i < n → q i ≠ k := fun i hi e => hno ⟨i, hi, e⟩
  have h1 := h.coord hv k hk
  have h2 : p ∣ sm n (fun i => v (q i) * M i k) := sm_dvd fun i hi => by
    rcases Nat.lt_or_ge (q i) k with hl | hl
    · exact Int.dvd_mul_of_dvd_left (h0 _ hl)
    · rw [h.lead i k hi (by have := hne i hi; omega)]
      simp
  have := Int.dvd_add h1 h2
  rw [Int.sub_add_cancel] at this
  exact hn this
theorem not_dvd_one (hp : 2 ≤ p) : ¬ p ∣ (1 : Int) := fun h => by
  have := Int.le_of_dvd (by decide) h
  omega
theorem cols (h : Red p C n M q) (h' : Red p C n' M' q') (hp : 2 ≤ p) (hs : ∀ i, i < n' → Sp p C n M (M' i)) {k : Nat} (hk : k < n') : ∃ i, i < n ∧ q i = q' k := by
  refine h.leads (hs k hk) (h'.lt k hk) (fun j hj => ?_) ?_
  · rw [h'.lead k j hk hj]; exact Int.dvd_zero _
  · rw [h'.unit k k hk hk, if_pos rfl]; exact not_dvd_one hp
end Red

/-- strictly ascending columns with the same members are the same -/
theorem asc_le {n : Nat} {q : Nat → Nat} (h : ∀ i k, i < k → k < n → q i < q k) {i k : Nat} (hk : k < n) (hi : i < n) : q i < q k ↔ i < k := by
  constructor
  · intro hl
    rcases Nat.lt_or_ge i k with h1 | h1
    · exact h1
    · rcases Nat.lt_or_ge k i with h2 | h2
      · have := h k i h2 hi; omega
      · have : i = k := by omega
        subst this; omega
  · exact fun hl => h i k hl hk
theorem asc_eq : ∀ {n n' : Nat} {q q' : Nat → Nat}, (∀ i k, i < k → k < n → q i < q k) → (∀ i k, i < k → k < n' → q' i < q' k) →
    (∀ k, k < n' → ∃ i, i < n ∧ q i = q' k) → (∀ k, k < n → ∃ i, i < n' ∧ q' i = q k) → n = n' ∧ ∀ i, i < n → q i = q' i := by
  intro n
  induction n with
  | zero =>
    intro n' q q' h h' hs hs'
    rcases Nat.eq_zero_or_pos n' with e | e
    · exact ⟨e.symm, fun i hi => absurd hi (Nat.not_lt_zero _)⟩
    · obtain ⟨i, hi, _⟩ := hs 0 e
      omega
  | succ n ih =>
    intro n' q q' h h' hs hs'
    cases n' with
    | zero =>
      obtain ⟨i, hi, _⟩ := hs' 0 (by omega)
      omega
    | succ n' =>
      -- the last ones are the greatest of both
      have hlast : q n = q' n' := by
        obtain ⟨i, hi, e⟩ := hs n' (by omega)
        obtain ⟨k, hk, e'⟩ := hs' n (by omega)
        have h1 : q i ≤ q n := by
          rcases Nat.lt_or_ge i n with hl | hl
          · exact Nat.le_of_lt (h i n hl (by omega))
          · have : i = n := by omega
            subst this; exact Nat.le_refl _
        have h2 : q' k ≤ q' n' := by
          rcases Nat.lt_or_ge k n' with hl | hl
          · exact Nat.le_of_lt (h' k n' hl (by omega))
          · have : k = n' := by omega
            subst this; exact Nat.le_refl _
        omega
      have hr := ih (n' := n') (q := q) (q' := q') (fun i k hik hk => h i k hik (by omega)) (fun i k hik hk => h' i k hik (by omega))
        (fun k hk => by
          obtain ⟨i, hi, e⟩ := hs k (by omega)
          have hkl := h' k n' hk (by omega)
          refine ⟨i, ?_, e⟩
          rcases Nat.lt_or_ge i n with hl | hl
          · exact hl
          · have : i = n := by omega
            subst this; omega)
        (fun k hk => by
          obtain ⟨i, hi, e⟩ := hs' k (by omega)
          have hkl := h k n hk (by omega)
          refine ⟨i, ?_, e⟩
          rcases Nat.lt_or_ge i n' with hl | hl
          · exact hl
          · have : i = n' := by omega
            subst this; omega)
      obtain ⟨e, hr⟩ := hr
      subst e
      refine ⟨rfl, fun i hi => ?_⟩
      rcases Nat.lt_or_ge i n with hl | hl
      · exact hr i hl
      · have : i = n := by omega
        subst this; exact hlast

/-- the reduced form of a span is one -/
theorem red_unique {p : Int} {C n n' : Nat} {M M' : Nat → Nat → Int} {q q' : Nat → Nat} (hp : 2 ≤ p) (h : Red p C n M q) (h' : Red p C n' M' q')
    (ha : ∀ i k, i < k → k < n → q i < q k) (ha' : ∀ i k, i < k → k < n' → q' i < q' k) (hs : SameSp p C n M n' M')
    (hM : ∀ i j, i < n → j < C → 0 ≤ M i j ∧ M i j < p) (hM' : ∀ i j, i < n' → j < C → 0 ≤ M' i j ∧ M' i j < p) :
    n = n' ∧ (∀ i, i < n → q i = q' i) ∧ ∀ i j, i < n → j < C → M i j = M' i j := by
  obtain ⟨e, hq⟩ := asc_eq ha ha' (fun k hk => h.cols h' hp hs.2 hk) (fun k hk => h'.cols h hp hs.1 hk)
  subst e
  refine ⟨rfl, hq, fun i j hi hj => ?_⟩
  have h1 := h.coord (hs.2 i hi) j hj
  have e : sm n (fun k => M' i (q k) * M k j) = M i j := by
    have := sm_one n i hi 1 (fun k => M k j)
    rw [Int.one_mul] at this
    rw [← this]
    refine sm_congr fun k hk => ?_
    rw [hq k hk, h'.unit i k hi hk]
    simp
  rw [e] at h1
  obtain ⟨a1, a2⟩ := hM i j hi hj
  obtain ⟨b1, b2⟩ := hM' i j hi hj
  obtain ⟨c, hc⟩ := h1
  have hc0 : c = 0 := by
    rcases Int.lt_trichotomy c 0 with hlt | h0 | hgt
    · have : p * c ≤ p * (-1) := Int.mul_le_mul_of_nonneg_left (by omega) (by omega)
      omega
    · exact h0
    · have : p * 1 ≤ p * c := Int.mul_le_mul_of_nonneg_left (by omega) (by omega)
      omega
  subst hc0
  simp at hc
  omega

end Go.Proofs.Ytklpaannmdbmiaa

namespace Go.Proofs.Ytklpaannmdbmiaa
set_option linter.all false

/-- the number at row i, column j of a list of rows -/
def mt (out : List (List Int)) (i j : Nat) : Int := (out.getD i []).getD j 0
def RowOk (p : Int) (C : Nat) (r : List Int) : Prop := r.length = C ∧ ∀ j, 0 ≤ r.getD j 0 ∧ r.getD j 0 < p
def RowsOk (p : Int) (C : Nat) (out : List (List Int)) : Prop := ∀ i, i < out.length → RowOk p C (out.getD i [])

theorem mt_snoc_lt {out : List (List Int)} {r : List Int} {i : Nat} (h : i < out.length) : mt (out ++ [r]) i = mt out i := by
  funext j
  simp [mt, List.getD_eq_getElem?_getD, List.getElem?_append_left h]
theorem mt_snoc_at (out : List (List Int)) (r : List Int) : mt (out ++ [r]) out.length = fun j => r.getD j 0 := by
  funext j
  simp [mt, List.getD_eq_getElem?_getD]
theorem getD_snoc_lt {out : List (List Int)} {r : List Int} {i : Nat} (h : i < out.length) : (out ++ [r]).getD i [] = out.getD i [] := by
  simp [List.getD_eq_getElem?_getD, List.getElem?_append_left h]
theorem getD_snoc_at (out : List (List Int)) (r : List Int) : (out ++ [r]).getD out.length [] = r := by simp [List.getD_eq_getElem?_getD]
theorem RowsOk.snoc {p : Int} {C : Nat} {out : List (List Int)} {r : List Int} (h : RowsOk p C out) (hr : RowOk p C r) : RowsOk p C (out ++ [r]) := fun i hi => by
  rw [List.length_append, List.length_singleton] at hi
  by_cases e : i < out.length
  · rw [getD_snoc_lt e]; exact h i e
  · obtain rfl : i = out.length := by omega
    rw [getD_snoc_at]; exact hr
theorem RowOk.small {p : Int} {C : Nat} {r : List Int} (h : RowOk p C r) (hp : p ≤ 7) : Small r := fun x hx => by
  obtain ⟨j, hj, rfl⟩ := List.mem_iff_getElem.1 hx
  have := h.2 j
  rw [List.getD_eq_getElem?_getD, List.getElem?_eq_getElem hj, Option.getD_some] at this
  omega
theorem getD_out {xs : List Int} {j : Nat} (h : xs.length ≤ j) : xs.getD j 0 = 0 := by
  simp [List.getD_eq_getElem?_getD, h]
theorem addRowL_ok {p k : Int} {C : Nat} {xs ys : List Int} (hp : 2 ≤ p) (h : xs.length = C) : RowOk p C (addRowL p k xs ys) := by
  refine ⟨by rw [addRowL_length, h], fun j => ?_⟩
  by_cases hj : j < xs.length
  · rw [addRowL_getD hj]
    exact ⟨Int.emod_nonneg _ (by omega), Int.emod_lt_of_pos _ (by omega)⟩
  · rw [getD_out (by rw [addRowL_length]; omega)]
    omega
theorem scaleL_ok {p k : Int} {C : Nat} {xs : List Int} (hp : 2 ≤ p) (h : xs.length = C) : RowOk p C (scaleL p k xs) := by
  refine ⟨by rw [scaleL_length, h], fun j => ?_⟩
  by_cases hj : j < xs.length
  · rw [scaleL_getD hj]
    exact ⟨Int.emod_nonneg _ (by omega), Int.emod_lt_of_pos _ (by omega)⟩
  · rw [getD_out (by rw [scaleL_length]; omega)]
    omega
theorem addRowL_eqv {p k : Int} {C : Nat} {xs ys : List Int} (h : xs.length = C) : Eqv p C (fun j => (addRowL p k xs ys).getD j 0) (fun j => xs.getD j 0 + k * ys.getD j 0) := fun j hj => by
  dsimp only
  rw [addRowL_getD (by omega)]
  exact Eqv.emod (p := p) (C := C) (fun j => xs.getD j 0 + k * ys.getD j 0) j hj
theorem scaleL_eqv {p k : Int} {C : Nat} {xs : List Int} (h : xs.length = C) : Eqv p C (fun j => (scaleL p k xs).getD j 0) (fun j => k * xs.getD j 0) := fun j hj => by
  dsimp only
  rw [scaleL_getD (by omega)]
  exact Eqv.emod (p := p) (C := C) (fun j => k * xs.getD j 0) j hj

/-- cur is a row r less multiples of the rows of out, with 0 in the first t columns -/
structure El (p : Int) (C : Nat) (out : List (List Int)) (q : Nat → Nat) (r cur : List Int) (t : Nat) : Prop where
  ok : RowOk p C cur
  zero : ∀ i, i < t → cur.getD (q i) 0 = 0
  same : SameSp p C (out.length + 1) (mt (out ++ [r])) (out.length + 1) (mt (out ++ [cur]))

theorem El.step {p : Int} {C : Nat} {out : List (List Int)} {q : Nat → Nat} {r cur : List Int} {t : Nat} (hp : 2 ≤ p) (hr : Red p C out.length (mt out) q) (ht : t < out.length) (h : El p C out q r cur t) :
    El p C out q r (addRowL p (p - cur.getD (q t) 0) cur (out.getD t [])) (t + 1) := by
  refine ⟨addRowL_ok hp h.ok.1, fun i hi => ?_, h.same.trans (SameSp.elim t (by omega) (fun i => if i = out.length then p - cur.getD (q t) 0 else 0) ?_ ?_)⟩
  · have hC := hr.lt i (by omega)
    rw [addRowL_getD (by rw [h.ok.1]; exact hC)]
    have hu := hr.unit t i ht (by omega)
    unfold mt at hu
    rw [hu]
    by_cases e : t = i
    · subst e
      rw [if_pos rfl, Int.mul_one, show cur.getD (q t) 0 + (p - cur.getD (q t) 0) = p by omega, Int.emod_self]
    · rw [if_neg e, Int.mul_zero, h.zero i (by omega)]
      rfl
  · rw [mt_snoc_lt ht, mt_snoc_lt ht]; exact Eqv.refl _ _ _
  · intro i hi hne
    by_cases e : i = out.length
    · subst e
      rw [mt_snoc_at, mt_snoc_at, mt_snoc_lt ht]
      simp only [if_true]
      exact addRowL_eqv h.ok.1
    · simp only [e, if_false]
      rw [mt_snoc_lt (by omega), mt_snoc_lt (by omega)]
      exact .of_eq fun j _ => by omega
theorem El.start {p : Int} {C : Nat} {out : List (List Int)} {q : Nat → Nat} {r : List Int} (h : RowOk p C r) : El p C out q r r 0 := ⟨h, fun i hi => absurd hi (Nat.not_lt_zero _), .refl⟩

/-- nothing is left of the row -/
theorem El.none {p : Int} {C : Nat} {out : List (List Int)} {q : Nat → Nat} {r cur : List Int} {t : Nat} (h : El p C out q r cur t) (h0 : ∀ j, j < cur.length → cur.getD j 0 = 0) :
    SameSp p C (out.length + 1) (mt (out ++ [r])) out.length (mt out) := by
  refine h.same.trans ⟨fun i hi => ?_, fun i hi => ?_⟩
  · by_cases e : i = out.length
    · subst e
      rw [mt_snoc_at]
      exact Sp.zero.eqv (.of_eq fun j hj => by rw [h0 j (by rw [h.ok.1]; exact hj)])
    · rw [mt_snoc_lt (by omega)]; exact .row (by omega)
  · have : Sp p C (out.length + 1) (mt (out ++ [cur])) (mt (out ++ [cur]) i) := .row (by omega)
    rwa [mt_snoc_lt hi] at this

/-- every row less its multiple of s -/
def clearL (p : Int) (K : Nat) (out : List (List Int)) (s : List Int) (t : Nat) : List (List Int) :=
  (List.range out.length).map fun i => if i < t then addRowL p (p - (out.getD i []).getD K 0) (out.getD i []) s else out.getD i []
theorem clearL_length (p : Int) (K : Nat) (out : List (List Int)) (s : List Int) (t : Nat) : (clearL p K out s t).length = out.length := by simp [clearL]
theorem clearL_getD {p : Int} {K : Nat} {out : List (List Int)} {s : List Int} {t i : Nat} (h : i < out.length) :
    (clearL p K out s t).getD i [] = if i < t then addRowL p (p - (out.getD i []).getD K 0) (out.getD i []) s else out.getD i [] := by
  simp [clearL, List.getD_eq_getElem?_getD, h]
theorem clearL_zero (p : Int) (K : Nat) (out : List (List Int)) (s : List Int) : clearL p K out s 0 = out := by
  apply List.ext_getElem (by rw [clearL_length])
  intro i h1 h2
  simp [clearL, List.getD_eq_getElem?_getD, h2]

/-- what is left of the row is scaled, the other rows are cleared at its column, and it is put behind them -/
theorem El.more {p k : Int} {C K : Nat} {out : List (List Int)} {q : Nat → Nat} {r cur : List Int} (hp : 2 ≤ p) (hr : Red p C out.length (mt out) q) (ho : RowsOk p C out) (h : El p C out q r cur out.length)
    (hK : K < C) (hK0 : ∀ j, j < K → cur.getD j 0 = 0) (hKn : cur.getD K 0 ≠ 0) (hk : k * cur.getD K 0 % p = 1) :
    Red p C (out.length + 1) (mt (clearL p K out (scaleL p k cur) out.length ++ [scaleL p k cur])) (fun i => if i < out.length then q i else K) ∧
    RowsOk p C (clearL p K out (scaleL p k cur) out.length ++ [scaleL p k cur]) ∧
    SameSp p C (out.length + 1) (mt (out ++ [r])) (out.length + 1) (mt (clearL p K out (scaleL p k cur) out.length ++ [scaleL p k cur])) := by
  have hs : RowOk p C (scaleL p k cur) := scaleL_ok hp h.ok.1
  have hsg : ∀ j, j < C → (scaleL p k cur).getD j 0 = (k * cur.getD j 0) % p := fun j hj => scaleL_getD (by rw [h.ok.1]; exact hj)
  have hsz : ∀ i, i < out.length → (scaleL p k cur).getD (q i) 0 = 0 := fun i hi => by rw [hsg _ (hr.lt i hi), h.zero i hi, Int.mul_zero]; rfl
  have hs0 : ∀ j, j < K → (scaleL p k cur).getD j 0 = 0 := fun j hj => by rw [hsg _ (by omega), hK0 j hj, Int.mul_zero]; rfl
  have hs1 : (scaleL p k cur).getD K 0 = 1 := by rw [hsg _ hK, hk]
  have heqv := scaleL_eqv (p := p) (k := k) h.ok.1
  generalize scaleL p k cur = s at *
  have hl : (clearL p K out s out.length).length = out.length := clearL_length _ _ _ _ _
  have hrow : ∀ i, i < out.length → (clearL p K out s out.length ++ [s]).getD i [] = addRowL p (p - (out.getD i []).getD K 0) (out.getD i []) s := fun i hi => by
    rw [getD_snoc_lt (by rw [hl]; exact hi), clearL_getD hi, if_pos hi]
  have hlast : (clearL p K out s out.length ++ [s]).getD out.length [] = s := by
    have := getD_snoc_at (clearL p K out s out.length) s
    rwa [hl] at this
  have hval : ∀ i j, i < out.length → j < C → mt (clearL p K out s out.length ++ [s]) i j = (mt out i j + (p - mt out i K) * s.getD j 0) % p := fun i j hi hj => by
    unfold mt
    rw [hrow i hi, addRowL_getD (by rw [(ho i hi).1]; exact hj)]
  have hvl : ∀ j, mt (clearL p K out s out.length ++ [s]) out.length j = s.getD j 0 := fun j => by unfold mt; rw [hlast]
  have hqK : ∀ i, i < out.length → q i ≠ K := fun i hi e => hKn (by rw [← e]; exact h.zero i hi)
  have hrng : ∀ i j, i < out.length → 0 ≤ mt out i j ∧ mt out i j < p := fun i j hi => (ho i hi).2 j
  refine ⟨⟨fun i hi => ?_, fun i m hi hm => ?_, fun i j hi hj => ?_⟩, ?_, h.same.trans ?_⟩
  · by_cases e : i < out.length
    · simp only [e, if_true]; exact hr.lt i e
    · simp only [e, if_false]; exact hK
  · by_cases e : i < out.length
    · by_cases e2 : m < out.length
      · simp only [e2, if_true]
        rw [hval i _ e (hr.lt m e2), hsz m e2, Int.mul_zero, Int.add_zero, hr.unit i m e e2]
        by_cases e3 : i = m
        · rw [if_pos e3]; exact Int.emod_eq_of_lt (by omega) (by omega)
        · rw [if_neg e3]; rfl
      · simp only [e2, if_false]
        rw [hval i _ e hK, hs1, Int.mul_one, show mt out i K + (p - mt out i K) = p by omega, Int.emod_self, if_neg (by omega)]
    · obtain rfl : i = out.length := by omega
      rw [hvl]
      by_cases e2 : m < out.length
      · simp only [e2, if_true]
        rw [hsz m e2, if_neg (by omega)]
      · simp only [e2, if_false]
        rw [hs1, if_pos (by omega)]
  · by_cases e : i < out.length
    · simp only [e, if_true] at hj
      have hC := hr.lt i e
      rw [hval i j e (by omega), hr.lead i j e hj, Int.zero_add]
      by_cases e2 : j < K
      · rw [hs0 j e2, Int.mul_zero]; rfl
      · have : mt out i K = 0 := hr.lead i K e (by have := hqK i e; omega)
        rw [this, Int.sub_zero, Int.mul_emod_right]
    · obtain rfl : i = out.length := by omega
      simp only [Nat.lt_irrefl, if_false] at hj
      rw [hvl]; exact hs0 j hj
  · refine RowsOk.snoc (fun i hi => ?_) hs
    rw [hl] at hi
    rw [clearL_getD hi, if_pos hi]
    exact addRowL_ok hp (ho i hi).1
  · have h1 : SameSp p C (out.length + 1) (mt (out ++ [cur])) (out.length + 1) (mt (out ++ [s])) := by
      refine SameSp.scale out.length (by omega) k (cur.getD K 0) ?_ ?_ fun i hi hne => ?_
      · have := Int.dvd_self_sub_emod (x := k * cur.getD K 0) (m := p)
        rwa [hk] at this
      · rw [mt_snoc_at, mt_snoc_at]; exact heqv
      · rw [mt_snoc_lt (by omega), mt_snoc_lt (by omega)]; exact .refl _ _ _
    refine h1.trans (SameSp.elim out.length (by omega) (fun i => p - mt out i K) ?_ fun i hi hne => ?_)
    · rw [mt_snoc_at]; exact .of_eq fun j _ => hvl j
    · have hi' : i < out.length := by omega
      intro j hj
      rw [hval i j hi' hj, mt_snoc_lt hi', mt_snoc_at]
      exact Eqv.emod (p := p) (C := C) (fun j => mt out i j + (p - mt out i K) * s.getD j 0) j hj

/-- one row more on both sides -/
theorem SameSp.snoc {p : Int} {C k n : Nat} {M M' M'' : Nat → Nat → Int} (h : SameSp p C k M n M') (hk : Eqv p C (M k) (M'' n)) (hM : ∀ i, i < n → Eqv p C (M'' i) (M' i)) : SameSp p C (k + 1) M (n + 1) M'' := by
  have up : ∀ v, Sp p C n M' v → Sp p C (n + 1) M'' v := fun v hv => hv.trans fun i hi => (Sp.row (show i < n + 1 by omega)).eqv (hM i hi)
  have up2 : ∀ v, Sp p C k M v → Sp p C (k + 1) M v := fun v hv => hv.trans fun i hi => .row (by omega)
  refine ⟨fun i hi => ?_, fun i hi => ?_⟩
  · by_cases e : i < k
    · exact up _ (h.1 i e)
    · obtain rfl : i = k := by omega
      exact (Sp.row (show n < n + 1 by omega)).eqv hk.symm
  · by_cases e : i < n
    · exact (up2 _ (h.2 i e)).eqv (hM i e).symm
    · obtain rfl : i = n := by omega
      exact (Sp.row (show k < k + 1 by omega)).eqv hk

end Go.Proofs.Ytklpaannmdbmiaa

namespace Go.Proofs.Ytklpaannmdbmiaa
set_option linter.all false

/-- what holds when the first j columns are done, with n pivots q -/
structure L7I (P : Int) (C R : Nat) (M0 M : Nat → Nat → Int) (q : Nat → Nat) (n j : Nat) : Prop where
  le : n ≤ R
  rng : ∀ i c, i < R → c < C → 0 ≤ M i c ∧ M i c < P
  lt : ∀ k, k < n → q k < j
  asc : ∀ i k, i < k → k < n → q i < q k
  unit : ∀ i k, i < R → k < n → M i (q k) = if i = k then 1 else 0
  lead : ∀ i c, i < n → c < q i → M i c = 0
  zero : ∀ i c, n ≤ i → i < R → c < j → M i c = 0
  same : SameSp P C R M0 R M

theorem L7I.start {P : Int} {C R : Nat} {M : Nat → Nat → Int} {q : Nat → Nat} (h : ∀ i c, i < R → c < C → 0 ≤ M i c ∧ M i c < P) : L7I P C R M M q 0 0 :=
  ⟨Nat.zero_le _, h, fun k hk => absurd hk (Nat.not_lt_zero _), fun i k _ hk => absurd hk (Nat.not_lt_zero _), fun i k _ hk => absurd hk (Nat.not_lt_zero _), fun i c hi => absurd hi (Nat.not_lt_zero _), fun i c _ _ hc => absurd hc (Nat.not_lt_zero _), .refl⟩

/-- no number in this column from row n on -/
theorem L7I.skip {P : Int} {C R : Nat} {M0 M : Nat → Nat → Int} {q : Nat → Nat} {n j : Nat} (h : L7I P C R M0 M q n j) (h0 : ∀ i, n ≤ i → i < R → M i j = 0) : L7I P C R M0 M q n (j + 1) :=
  ⟨h.le, h.rng, fun k hk => by have := h.lt k hk; omega, h.asc, h.unit, h.lead, fun i c h1 h2 h3 => by
    by_cases e : c = j
    · subst e; exact h0 i h1 h2
    · exact h.zero i c h1 h2 (by omega), h.same⟩

/-- rows a and n in each other's place -/
def swM (a n : Nat) (M : Nat → Nat → Int) (i c : Nat) : Int := if i = a then M n c else if i = n then M a c else M i c
/-- row n, times v -/
def scM (P v : Int) (n : Nat) (M : Nat → Nat → Int) (i c : Nat) : Int := if i = n then (M n c * v) % P else M i c
/-- every other row less its multiple of row n -/
def elM (P : Int) (n j : Nat) (M : Nat → Nat → Int) (i c : Nat) : Int := if i = n then M n c else (M i c + (P - M i j) * M n c) % P

theorem swM_same {P : Int} {C R a n : Nat} (ha : a < R) (hn : n < R) (M : Nat → Nat → Int) : SameSp P C R M R (swM a n M) := by
  refine SameSp.perm (fun i => if i = a then n else if i = n then a else i) (fun i => if i = a then n else if i = n then a else i) (fun i hi => ?_) (fun i hi => ?_)
  · by_cases e : i = a
    · subst e
      simp only [if_true]
      refine ⟨hn, .of_eq fun j _ => ?_⟩
      unfold swM
      by_cases e2 : n = i
      · subst e2; simp
      · simp [e2]
    · by_cases e2 : i = n
      · subst e2
        simp only [e, if_false, if_true]
        exact ⟨ha, .of_eq fun j _ => by unfold swM; simp⟩
      · simp only [e, e2, if_false]
        exact ⟨hi, .of_eq fun j _ => by unfold swM; simp [e, e2]⟩
  · by_cases e : i = a
    · subst e
      simp only [if_true]
      exact ⟨hn, .of_eq fun j _ => by unfold swM; simp⟩
    · by_cases e2 : i = n
      · subst e2
        simp only [e, if_false, if_true]
        exact ⟨ha, .of_eq fun j _ => by unfold swM; simp [e]⟩
      · simp only [e, e2, if_false]
        exact ⟨hi, .of_eq fun j _ => by unfold swM; simp [e, e2]⟩

theorem L7I.step {P v : Int} {C R : Nat} {M0 M : Nat → Nat → Int} {q : Nat → Nat} {n j a : Nat} (hP : 2 ≤ P) (h : L7I P C R M0 M q n j) (hj : j < C) (ha1 : n ≤ a) (ha2 : a < R) (hv : M a j * v % P = 1) :
    L7I P C R M0 (elM P n j (scM P v n (swM a n M))) (fun k => if k < n then q k else j) (n + 1) (j + 1) := by
  have hn : n < R := by omega
  obtain ⟨M1, hM1⟩ : ∃ M1, M1 = swM a n M := ⟨_, rfl⟩
  have r1 : ∀ i c, i < R → c < C → 0 ≤ M1 i c ∧ M1 i c < P := fun i c hi hc => by
    rw [hM1]; unfold swM
    split
    · exact h.rng n c hn hc
    · split
      · exact h.rng a c ha2 hc
      · exact h.rng i c hi hc
  have u1 : ∀ i k, i < R → k < n → M1 i (q k) = if i = k then 1 else 0 := fun i k hi hk => by
    rw [hM1]; unfold swM
    have e1 := h.unit a k ha2 hk
    have e2 := h.unit n k hn hk
    rw [if_neg (by omega)] at e1 e2
    split
    · rw [e2, if_neg (by omega)]
    · split
      · rw [e1, if_neg (by omega)]
      · exact h.unit i k hi hk
  have z1 : ∀ i c, n ≤ i → i < R → c < j → M1 i c = 0 := fun i c h1 h2 h3 => by
    rw [hM1]; unfold swM
    split
    · exact h.zero n c (Nat.le_refl _) hn h3
    · split
      · exact h.zero a c ha1 ha2 h3
      · exact h.zero i c h1 h2 h3
  have l1 : ∀ i c, i < n → c < q i → M1 i c = 0 := fun i c h1 h2 => by
    rw [hM1]; unfold swM
    rw [if_neg (by omega), if_neg (by omega)]
    exact h.lead i c h1 h2
  have v1 : M1 n j * v % P = 1 := by
    have : M1 n j = M a j := by
      rw [hM1]; unfold swM
      by_cases e : n = a
      · subst e; simp
      · simp [e]
    rw [this, hv]
  have s1 : SameSp P C R M0 R M1 := h.same.trans (by rw [hM1]; exact swM_same ha2 hn M)
  rw [← hM1]
  clear hM1
  obtain ⟨M2, hM2⟩ : ∃ M2, M2 = scM P v n M1 := ⟨_, rfl⟩
  have e2 : ∀ i, i ≠ n → M2 i = M1 i := fun i hi => by funext c; rw [hM2]; simp [scM, hi]
  have n2 : ∀ c, M2 n c = (M1 n c * v) % P := fun c => by rw [hM2]; simp [scM]
  have r2 : ∀ i c, i < R → c < C → 0 ≤ M2 i c ∧ M2 i c < P := fun i c hi hc => by
    by_cases e : i = n
    · subst e; rw [n2]; exact ⟨Int.emod_nonneg _ (by omega), Int.emod_lt_of_pos _ (by omega)⟩
    · rw [e2 i e]; exact r1 i c hi hc
  have u2 : ∀ i k, i < R → k < n → M2 i (q k) = if i = k then 1 else 0 := fun i k hi hk => by
    by_cases e : i = n
    · subst e; rw [n2, u1 i k hi hk, if_neg (by omega), Int.zero_mul]; rfl
    · rw [e2 i e]; exact u1 i k hi hk
  have z2 : ∀ i c, n ≤ i → i < R → c < j → M2 i c = 0 := fun i c h1 h2 h3 => by
    by_cases e : i = n
    · subst e; rw [n2, z1 i c h1 h2 h3, Int.zero_mul]; rfl
    · rw [e2 i e]; exact z1 i c h1 h2 h3
  have l2 : ∀ i c, i < n → c < q i → M2 i c = 0 := fun i c h1 h2 => by rw [e2 i (by omega)]; exact l1 i c h1 h2
  have v2 : M2 n j = 1 := by rw [n2, v1]
  have s2 : SameSp P C R M0 R M2 := by
    refine s1.trans (SameSp.scale n hn v (M1 n j) ?_ ?_ fun i _ hi => by rw [e2 i hi]; exact .refl _ _ _)
    · have := Int.dvd_self_sub_emod (x := M1 n j * v) (m := P)
      rw [v1] at this
      rwa [Int.mul_comm] at this
    · intro c _
      rw [n2, Int.mul_comm]
      exact Eqv.emod (p := P) (C := c + 1) (fun c => v * M1 n c) c (Nat.lt_succ_self _)
  rw [← hM2]
  clear hM2
  obtain ⟨M3, hM3⟩ : ∃ M3, M3 = elM P n j M2 := ⟨_, rfl⟩
  have n3 : ∀ c, M3 n c = M2 n c := fun c => by rw [hM3]; simp [elM]
  have e3 : ∀ i c, i ≠ n → M3 i c = (M2 i c + (P - M2 i j) * M2 n c) % P := fun i c hi => by rw [hM3]; simp [elM, hi]
  have u3 : ∀ i k, i < R → k < n → M3 i (q k) = if i = k then 1 else 0 := fun i k hi hk => by
    by_cases e : i = n
    · subst e; rw [n3]; exact u2 i k hi hk
    · rw [e3 i _ e, u2 i k hi hk, u2 n k hn hk, if_neg (show ¬ n = k by omega), Int.mul_zero, Int.add_zero]
      by_cases e4 : i = k
      · rw [if_pos e4]; exact Int.emod_eq_of_lt (by omega) (by omega)
      · rw [if_neg e4]; rfl
  have c3 : ∀ i, i < R → M3 i j = if i = n then 1 else 0 := fun i hi => by
    by_cases e : i = n
    · subst e; rw [n3, v2, if_pos rfl]
    · rw [e3 i _ e, v2, Int.mul_one, show M2 i j + (P - M2 i j) = P by omega, Int.emod_self, if_neg e]
  have z3 : ∀ i c, n ≤ i → i < R → c < j → M3 i c = 0 := fun i c h1 h2 h3 => by
    by_cases e : i = n
    · subst e; rw [n3]; exact z2 i c h1 h2 h3
    · rw [e3 i c e, z2 i c h1 h2 h3, z2 n c (Nat.le_refl _) hn h3, Int.mul_zero]; rfl
  rw [← hM3]
  refine ⟨hn, fun i c hi hc => ?_, fun k hk => ?_, fun i k hik hk => ?_, fun i k hi hk => ?_, fun i c hi hc => ?_, fun i c h1 h2 h3 => ?_, s2.trans ?_⟩
  · by_cases e : i = n
    · subst e; rw [n3]; exact r2 i c hi hc
    · rw [e3 i c e]; exact ⟨Int.emod_nonneg _ (by omega), Int.emod_lt_of_pos _ (by omega)⟩
  · by_cases e : k < n
    · simp only [e, if_true]; have := h.lt k e; omega
    · simp only [e, if_false]; omega
  · by_cases e : k < n
    · simp only [e, if_true, show i < n by omega]; exact h.asc i k hik e
    · simp only [e, if_false, show i < n by omega, if_true]; exact h.lt i (by omega)
  · by_cases e : k < n
    · simp only [e, if_true]; exact u3 i k hi e
    · simp only [e, if_false]
      obtain rfl : k = n := by omega
      exact c3 i hi
  · by_cases e : i < n
    · simp only [e, if_true] at hc
      have := h.lt i e
      rw [e3 i c (by omega), l2 i c e hc, z2 n c (Nat.le_refl _) hn (by omega), Int.mul_zero]; rfl
    · simp only [e, if_false] at hc
      exact z3 i c (by omega) (by omega) hc
  · by_cases e : c = j
    · subst e; rw [c3 i h2, if_neg (by omega)]
    · exact z3 i c (by omega) h2 (by omega)
  · refine SameSp.elim n hn (fun i => P - M2 i j) (.of_eq fun c _ => n3 c) fun i hi hne => ?_
    intro c _
    rw [e3 i c hne]
    exact Eqv.emod (p := P) (C := c + 1) (fun c => M2 i c + (P - M2 i j) * M2 n c) c (Nat.lt_succ_self _)

/-- all columns are done, or all rows have a pivot -/
theorem L7I.done {P : Int} {C R : Nat} {M0 M : Nat → Nat → Int} {q : Nat → Nat} {n j : Nat} (h : L7I P C R M0 M q n j) (hj : j ≤ C) (hd : j = C ∨ n = R) :
    Red P C n M q ∧ (∀ i c, n ≤ i → i < R → c < C → M i c = 0) ∧ SameSp P C R M0 n M := by
  have hz : ∀ i c, n ≤ i → i < R → c < C → M i c = 0 := fun i c h1 h2 h3 => h.zero i c h1 h2 (by omega)
  refine ⟨⟨fun i hi => by have := h.lt i hi; omega, fun i k hi hk => h.unit i k (by have := h.le; omega) hk, h.lead⟩, hz, h.same.trans ⟨fun i hi => ?_, fun i hi => .row (by have := h.le; omega)⟩⟩
  by_cases e : i < n
  · exact .row e
  · exact Sp.zero.eqv (.of_eq fun c hc => (hz i c (by omega) hi hc).symm)

end Go.Proofs.Ytklpaannmdbmiaa

namespace Go.Proofs.Ytklpaannmdbmiaa
set_option linter.all false
open Go.RowKit

/-- the number at row i, column c of what lies flat -/
def mf (C : Nat) (h : Nat → Int) (i c : Nat) : Int := h (i * C + c)

/-- the argument's box, the result's cell, the box of out, and what out holds -/
def RS (w : World) (T Ti : TypeId) (P : Int) (R C : Nat) (d : Value) (q : Nat) (p : Option Addr) (k N : Nat) (h : Nat → Int) (wr : World) : Prop :=
  wr.heap[w.heap.size]? = some (.cells #[.int .i64 P, .int .i64 (R : Int), .int .i64 (C : Int), d] T (0, 0)) ∧
  wr.heap[w.heap.size + 1]? = some (.cells #[.int .i64 0, .int .i64 0, .int .i64 0, .slice none 0 0] T (0, 0)) ∧
  wr.heap[q]? = some (.cells #[.int .i64 P, .int .i64 (R : Int), .int .i64 (C : Int), .slice p N k] T (0, 0)) ∧
  OwnF wr (w.heap.size + 2) q Ti (.slice p N k) N (fun t => .int .i64 (h t)) ∧ Below w.heap.size w wr ∧ w.heap.size + 2 ≤ q
namespace RS
variable {w wr wx : World} {T Ti : TypeId} {P : Int} {R C : Nat} {d : Value} {q : Nat} {p : Option Addr} {k N : Nat} {h : Nat → Int}
theorem keep (a : RS w T Ti P R C d q p k N h wr) (hb : ∀ b, b < q + 1 → b < wr.heap.size → wx.heap[b]? = wr.heap[b]?) (hB : Below w.heap.size w wx) : RS w T Ti P R C d q p k N h wx := by
  obtain ⟨a1, a2, a3, a4, a5, a6⟩ := a
  refine ⟨?_, ?_, ?_, a4.keep fun b h1 h2 h3 => hb b (by omega) h3, hB, a6⟩
  · rw [hb _ (by omega) (blk_lt a1)]; exact a1
  · rw [hb _ (by omega) (blk_lt a2)]; exact a2
  · rw [hb _ (by omega) (blk_lt a3)]; exact a3
theorem later (a : RS w T Ti P R C d q p k N h wr) (hb : Below wr.heap.size wr wx) : RS w T Ti P R C d q p k N h wx :=
  a.keep (fun b _ hb2 => hb.block b hb2) (a.2.2.2.2.1.trans (hb.mono a.2.2.2.2.1.size))
theorem congr {h' : Nat → Int} (a : RS w T Ti P R C d q p k N h wr) (e : ∀ t, t < N → h t = h' t) : RS w T Ti P R C d q p k N h' wr :=
  ⟨a.1, a.2.1, a.2.2.1, a.2.2.2.1.congr fun t ht => by rw [e t ht], a.2.2.2.2.1, a.2.2.2.2.2⟩
theorem set {g : Nat} (a : RS w T Ti P R C d q (some ⟨g, 0, none⟩) k N h wr) (h0 : 0 < N) (t : Nat) (x : Int) : RS w T Ti P R C d q (some ⟨g, 0, none⟩) k N (fun j => if j = t then x else h j) (wr.setCell ⟨g, t, none⟩ (.int .i64 x)) := by
  obtain ⟨a1, a2, a3, a4, a5, a6⟩ := a
  obtain ⟨g', e, h1, h2, h3⟩ := a4.at_ h0
  injection e with e
  injection e with e
  subst e
  refine ⟨?_, ?_, ?_, (a4.set t _).congr fun j _ => ?_, a5.setCell (by show w.heap.size ≤ g; omega) _, a6⟩
  · rw [Below.heap_setCell _ _ _ _ (by show _ ≠ g; omega)]; exact a1
  · rw [Below.heap_setCell _ _ _ _ (by show _ ≠ g; omega)]; exact a2
  · rw [Below.heap_setCell _ _ _ _ (by show _ ≠ g; omega)]; exact a3
  · by_cases e : j = t <;> simp [e]
theorem ints (a : RS w T Ti P R C d q p k N h wr) : Ints wr (.slice p N k) ((List.range N).map h) := by
  have e : ((List.range N).map h).length = N := by simp
  have : OwnI Ti wr (w.heap.size + 2) q (.slice p N k) ((List.range N).map h) := by
    refine OwnF.ints ?_
    rw [e]
    exact a.2.2.2.1.congr fun t ht => by simp [iv, List.getD_eq_getElem?_getD, ht]
  exact this.ints
end RS

theorem RS.cell {w wr : World} {T Ti : TypeId} {P : Int} {R C : Nat} {d : Value} {q g k N t : Nat} {h : Nat → Int} (a : RS w T Ti P R C d q (some ⟨g, 0, none⟩) k N h wr) (ht : t < N) :
    wr.cell? ⟨g, t, none⟩ = some (.int .i64 (h t)) ∧ wr.frozen? ⟨g, t, none⟩ = false := ⟨a.2.2.2.1.cell ht, a.2.2.2.1.frozen t⟩
/-- .. and the columns so far -/
def RT (w : World) (T Ti : TypeId) (P : Int) (R C : Nat) (d : Value) (q : Nat) (p : Option Addr) (k N hi : Nat) (v : Value) (n : Nat) (qf : Nat → Nat) (h : Nat → Int) (wr : World) : Prop :=
  RS w T Ti P R C d q p k N h wr ∧ OwnF wr (q + 1) hi Ti v n (fun k => .int .i64 (qf k : Int)) ∧ hi ≤ wr.heap.size
namespace RT
variable {w wr wx : World} {T Ti : TypeId} {P : Int} {R C : Nat} {d v : Value} {q n hi : Nat} {p : Option Addr} {k N : Nat} {h : Nat → Int} {qf : Nat → Nat}
theorem later (a : RT w T Ti P R C d q p k N hi v n qf h wr) (hb : Below wr.heap.size wr wx) : RT w T Ti P R C d q p k N hi v n qf h wx :=
  ⟨a.1.later hb, a.2.1.below hb, Nat.le_trans a.2.2 hb.size⟩
theorem set {g : Nat} (a : RT w T Ti P R C d q (some ⟨g, 0, none⟩) k N hi v n qf h wr) (h0 : 0 < N) (t : Nat) (x : Int) :
    RT w T Ti P R C d q (some ⟨g, 0, none⟩) k N hi v n qf (fun j => if j = t then x else h j) (wr.setCell ⟨g, t, none⟩ (.int .i64 x)) := by
  obtain ⟨g', e, h1, h2, h3⟩ := a.1.2.2.2.1.at_ h0
  injection e with e
  injection e with e
  subst e
  exact ⟨a.1.set h0 t x, a.2.1.setCell (.inl (by show g < _; omega)) _, by rw [size_setCell]; exact a.2.2⟩
end RT
theorem flat_inj {C i c i' c' : Nat} (hc : c < C) (hc' : c' < C) : i' * C + c' = i * C + c ↔ i' = i ∧ c' = c := by
  constructor
  · intro e
    have a := div_at (k := i) hc
    have b := div_at (k := i') hc'
    rw [e] at b
    exact ⟨b.1.symm.trans a.1, b.2.symm.trans a.2⟩
  · rintro ⟨rfl, rfl⟩; rfl
theorem mf_set {C i0 c0 i c : Nat} {h : Nat → Int} {x : Int} (h0 : c0 < C) (hc : c < C) : mf C (fun j => if j = i0 * C + c0 then x else h j) i c = if i = i0 ∧ c = c0 then x else mf C h i c := by
  unfold mf
  dsimp only
  by_cases e : i = i0 ∧ c = c0
  · rw [if_pos ((flat_inj h0 hc).2 e), if_pos e]
  · rw [if_neg fun e2 => e ((flat_inj h0 hc).1 e2), if_neg e]

/-- six cells that the regions read -/
theorem keep6 {W W' : World} {a0 a1 a2 a3 a4 a5 : Addr} {v0 v1 v2 v3 v4 v5 : Value} (hb : Below W.heap.size W W')
    (h : W.cell? a0 = some v0 ∧ W.cell? a1 = some v1 ∧ W.cell? a2 = some v2 ∧ W.cell? a3 = some v3 ∧ W.cell? a4 = some v4 ∧ W.cell? a5 = some v5) :
    W'.cell? a0 = some v0 ∧ W'.cell? a1 = some v1 ∧ W'.cell? a2 = some v2 ∧ W'.cell? a3 = some v3 ∧ W'.cell? a4 = some v4 ∧ W'.cell? a5 = some v5 :=
  ⟨cell_below hb h.1, cell_below hb h.2.1, cell_below hb h.2.2.1, cell_below hb h.2.2.2.1, cell_below hb h.2.2.2.2.1, cell_below hb h.2.2.2.2.2⟩
theorem keep6_set {W : World} {b1 b2 o0 o1 o2 o3 o4 o5 g t : Nat} {x : Value} {v0 v1 v2 v3 v4 v5 : Value} (h1 : b1 ≠ g) (h2 : b2 ≠ g)
    (h : W.cell? ⟨b1, o0, none⟩ = some v0 ∧ W.cell? ⟨b1, o1, none⟩ = some v1 ∧ W.cell? ⟨b2, o2, none⟩ = some v2 ∧ W.cell? ⟨b2, o3, none⟩ = some v3 ∧ W.cell? ⟨b2, o4, none⟩ = some v4 ∧ W.cell? ⟨b2, o5, none⟩ = some v5) :
    (W.setCell ⟨g, t, none⟩ x).cell? ⟨b1, o0, none⟩ = some v0 ∧ (W.setCell ⟨g, t, none⟩ x).cell? ⟨b1, o1, none⟩ = some v1 ∧ (W.setCell ⟨g, t, none⟩ x).cell? ⟨b2, o2, none⟩ = some v2 ∧
    (W.setCell ⟨g, t, none⟩ x).cell? ⟨b2, o3, none⟩ = some v3 ∧ (W.setCell ⟨g, t, none⟩ x).cell? ⟨b2, o4, none⟩ = some v4 ∧ (W.setCell ⟨g, t, none⟩ x).cell? ⟨b2, o5, none⟩ = some v5 := by
  have e1 : (W.setCell ⟨g, t, none⟩ x).heap[b1]? = W.heap[b1]? := Below.heap_setCell _ _ _ _ h1
  have e2 : (W.setCell ⟨g, t, none⟩ x).heap[b2]? = W.heap[b2]? := Below.heap_setCell _ _ _ _ h2
  obtain ⟨c0, c1, c2, c3, c4, c5⟩ := h
  refine ⟨?_, ?_, ?_, ?_, ?_, ?_⟩
  · rw [World.cell?_of_block (w := W) e1]; exact c0
  · rw [World.cell?_of_block (w := W) e1]; exact c1
  · rw [World.cell?_of_block (w := W) e2]; exact c2
  · rw [World.cell?_of_block (w := W) e2]; exact c3
  · rw [World.cell?_of_block (w := W) e2]; exact c4
  · rw [World.cell?_of_block (w := W) e2]; exact c5

theorem swM_rng {P : Int} {C R a n i c : Nat} {M : Nat → Nat → Int} (h : ∀ i c, i < R → c < C → 0 ≤ M i c ∧ M i c < P) (hn : n < R) (ha : a < R) (hi : i < R) (hc : c < C) : 0 ≤ swM a n M i c ∧ swM a n M i c < P := by
  unfold swM
  split
  · exact h n c hn hc
  · split
    · exact h a c ha hc
    · exact h i c hi hc

theorem scM_rng {P v : Int} {C R n i c : Nat} {M : Nat → Nat → Int} (hP : 2 ≤ P) (h : ∀ i c, i < R → c < C → 0 ≤ M i c ∧ M i c < P) (hi : i < R) (hc : c < C) : 0 ≤ scM P v n M i c ∧ scM P v n M i c < P := by
  unfold scM
  split
  · exact ⟨Int.emod_nonneg _ (by omega), Int.emod_lt_of_pos _ (by omega)⟩
  · exact h i c hi hc
theorem rng64 {x : Int} (h0 : -1000000000000000000 ≤ x) (h1 : x ≤ 1000000000000000000) : wrap64 x = x ∧ IntKind.i64.wrap x = x := ⟨w64 h0 h1, k64 h0 h1⟩

theorem L7I.congr {P : Int} {C R : Nat} {M0 M M' : Nat → Nat → Int} {q : Nat → Nat} {n j : Nat} (hj : j ≤ C) (h : L7I P C R M0 M q n j) (e : ∀ i c, i < R → c < C → M i c = M' i c) : L7I P C R M0 M' q n j := by
  have hn := h.le
  refine ⟨h.le, fun i c hi hc => by rw [← e i c hi hc]; exact h.rng i c hi hc, h.lt, h.asc, fun i k hi hk => ?_, fun i c hi hc => ?_, fun i c h1 h2 h3 => ?_, h.same.trans (SameSp.of_eqv fun i hi => .of_eq fun c hc => e i c hi hc)⟩
  · have := h.lt k hk
    rw [← e i _ hi (by omega)]; exact h.unit i k hi hk
  · have := h.lt i hi
    rw [← e i c (by omega) (by omega)]; exact h.lead i c hi hc
  · rw [← e i c h2 (by omega)]; exact h.zero i c h1 h2 h3

/-- what l7Reduce returns: the reduced form, the other rows 0, and the columns -/
def RetL7 (w : World) (P : Int) (R C : Nat) (M0 : Nat → Nat → Int) (e : Ending) (w' : World) : Prop :=
  ∃ (u v : Value) (h : Nat → Int) (n : Nat) (qf : Nat → Nat), e = .returned (.tuple #[.agg #[.int .i64 P, .int .i64 (R : Int), .int .i64 (C : Int), u], v]) ∧
    OwnF w' w.heap.size w'.heap.size 3 u (R * C) (fun t => .int .i64 (h t)) ∧ OwnF w' w.heap.size w'.heap.size 3 v n (fun k => .int .i64 (qf k : Int)) ∧ Below w.heap.size w w' ∧
    n ≤ R ∧ (∀ i c, i < R → c < C → 0 ≤ mf C h i c ∧ mf C h i c < P) ∧ Red P C n (mf C h) qf ∧ (∀ i k, i < k → k < n → qf i < qf k) ∧
    (∀ i c, n ≤ i → i < R → c < C → mf C h i c = 0) ∧ SameSp P C R M0 n (mf C h)

/-- what has been laid up is what is returned -/
theorem l7_fin {w wr : World} {T : TypeId} {P : Int} {R C : Nat} {d : Value} {q : Nat} {p p5 : Option Addr} {k k5 N n j : Nat} {h : Nat → Int} {qf : Nat → Nat} {M0 : Nat → Nat → Int} (hP : 2 ≤ P) (hj : j ≤ C) (hd : j = C ∨ n = R) (hn : n ≤ R) (hN : N = R * C)
    (hrs : RS w T 3 P R C d q p k N h wr) (hpv : OwnF wr (q + 1) wr.heap.size 3 (.slice p5 n k5) n (fun k => .int .i64 (qf k : Int))) (hL : L7I P C R M0 (mf C h) qf n j) :
    RetL7 w P R C M0 (.returned (.tuple #[.agg #[.int .i64 P, .int .i64 (R : Int), .int .i64 (C : Int), .slice p N k], .slice p5 n k5]))
      ((((wr.setCell ⟨w.heap.size + 1, 0, none⟩ (.int .i64 P)).setCell ⟨w.heap.size + 1, 1, none⟩ (.int .i64 (R : Int))).setCell ⟨w.heap.size + 1, 2, none⟩ (.int .i64 (C : Int))).setCell ⟨w.heap.size + 1, 3, none⟩ (.slice p N k)) := by
  obtain ⟨a1, a2, a3, a4, a5, a6⟩ := hrs
  obtain ⟨t1, t2, t3⟩ := hL.done hj hd
  have hq := blk_lt a3
  refine ⟨_, _, h, n, qf, rfl, ?_, ?_, below_set4 a5 (by omega) _ _ _ _, hn, hL.rng, t1, hL.asc, t2, t3⟩
  · subst hN
    exact ((((a4.setCell (.inl (by show w.heap.size + 1 < _; omega)) _).setCell (.inl (by show w.heap.size + 1 < _; omega)) _).setCell (.inl (by show w.heap.size + 1 < _; omega)) _).setCell (.inl (by show w.heap.size + 1 < _; omega)) _).mono (by omega) (by simp only [size_setCell]; omega)
  · exact ((((hpv.setCell (.inl (by show w.heap.size + 1 < _; omega)) _).setCell (.inl (by show w.heap.size + 1 < _; omega)) _).setCell (.inl (by show w.heap.size + 1 < _; omega)) _).setCell (.inl (by show w.heap.size + 1 < _; omega)) _).mono (by omega) (by simp only [size_setCell]; omega)

end Go.Proofs.Ytklpaannmdbmiaa

namespace Go.Proofs.Ytklpaannmdbmiaa
set_option linter.all false
open Go.RowKit

set_option maxRecDepth 100000 in
theorem cmpPiv_any (v u : Value) (xs ys : List Int) (w : World) (h : Ints w v xs) (h' : Ints w u ys) (hx : xs.length ≤ 1000) (hy : ys.length ≤ 1000) :
    Calls Try.prog 48 #[v, u] w fun e w' => e = .returned (.int .i64 (pivL xs - pivL ys)) ∧ Qt w w' := by
  have h1 := pivot_any v xs w h
  have h2 := fun W (hq : Qt w W) => pivot_any u ys W (h'.qt hq)
  have b1 : -1 ≤ pivL xs ∧ pivL xs ≤ 1000 := by
    rcases pivL_cases xs with ⟨e, _⟩ | ⟨k, e, hk, _⟩ <;> rw [e] <;> omega
  have b2 : -1 ≤ pivL ys ∧ pivL ys ≤ 1000 := by
    rcases pivL_cases ys with ⟨e, _⟩ | ⟨k, e, hk, _⟩ <;> rw [e] <;> omega
  generalize pivL xs = a at h1 b1 ⊢
  generalize pivL ys = b at h2 b2 ⊢
  obtain ⟨p, cap, rfl, _⟩ := h
  obtain ⟨p', cap', rfl, _⟩ := h'
  have H1 := Lib.hid h1
  have H2 := Lib.hid h2
  clear h1 h2
  go_enter Try.func48, Try.ntmps48
  go_wp2_with fail
  refine H1.out.mono ?_
  rintro e w1 ⟨rfl, hq⟩
  have Hq := Lib.hid hq
  clear hq
  go_wp2_with fail
  refine (H2.out _ Hq.out).mono ?_
  rintro e w2 ⟨rfl, hq2⟩
  have Hq2 := Lib.hid (Hq.out.trans hq2)
  clear hq2
  go_wp2_with fail
  go_ret
  exact ⟨rfl, Hq2.out⟩

open Go.Sort Go.Shelf in
theorem sortWorld_at {α : Type} [Inhabited α] (enc : α → Value) {w : World} {blk : Nat} {c : Array Value} {T : TypeId} (h : w.heap[blk]? = some (.cells c T (0, 0))) (m : Nat) (d : Array α) (os : Array Obj) :
    (sortWorld enc w blk 0 m d os).heap[blk]? = some (.cells (putCells enc 0 d c) T (0, 0)) := by
  have hlt : blk < w.heap.size := blk_lt h
  unfold sortWorld
  rw [heap_grow_old _ _ (by rw [size_putRow]; exact hlt)]
  unfold putRow mapBlock
  simp only [Array.getElem?_modify]
  have : (Sort.ahead w m).heap = w.heap := rfl
  rw [this, h]
  simp [onCells]
open Go.Sort Go.Shelf in
theorem sortWorld_other {α : Type} [Inhabited α] (enc : α → Value) {w : World} {blk k : Nat} (hk : k < w.heap.size) (hne : k ≠ blk) (m : Nat) (d : Array α) (os : Array Obj) :
    (sortWorld enc w blk 0 m d os).heap[k]? = w.heap[k]? := by
  unfold sortWorld
  rw [heap_grow_old _ _ (by rw [size_putRow]; exact hk)]
  unfold putRow mapBlock
  simp only [Array.getElem?_modify]
  have : (Sort.ahead w m).heap = w.heap := rfl
  rw [this, if_neg (fun e => hne e.symm)]
open Go.Sort Go.Shelf in
theorem sortWorld_size {α : Type} [Inhabited α] (enc : α → Value) (w : World) (blk m : Nat) (d : Array α) (os : Array Obj) :
    w.heap.size ≤ (sortWorld enc w blk 0 m d os).heap.size := by
  unfold sortWorld
  rw [size_grow, size_putRow]
  exact Nat.le_add_right _ _
open Go.Sort Go.Shelf in
theorem sortWorld_frm {α : Type} [Inhabited α] (enc : α → Value) (w : World) {blk lo hi : Nat} (h1 : lo ≤ blk) (h2 : blk < hi) (m : Nat) (d : Array α) (os : Array Obj) :
    Frm lo hi w (sortWorld enc w blk 0 m d os) :=
  ⟨rfl, rfl, rfl, sortWorld_size _ _ _ _ _ _, fun k hk ho => sortWorld_other enc hk (by omega) m d os⟩

theorem OwnI.at_block {T : TypeId} {w w' : World} {lo hi : Nat} {v : Value} {xs : List Int} (hy : OwnI T w lo hi v xs) (h : ∀ k, v.ownBlock = some k → w'.heap[k]? = w.heap[k]?) : OwnI T w' lo hi v xs :=
  ⟨ownsRow_of_block hy.1 fun k hk => h k hk, hy.2⟩

/-- the rows stand in another order, by their first places -/
def Sorted (rows : List (List Int)) (τ : Nat → Nat) : Prop :=
  (∀ i, i < rows.length → τ i < rows.length) ∧ (∀ i j, i < rows.length → j < rows.length → τ i = τ j → i = j) ∧ (∀ j, j < rows.length → ∃ i, i < rows.length ∧ τ i = j) ∧
  ∀ i j, i < j → j < rows.length → pivL (rows.getD (τ i) []) ≤ pivL (rows.getD (τ j) [])
def reL (rows : List (List Int)) (τ : Nat → Nat) : List (List Int) := (List.range rows.length).map fun i => rows.getD (τ i) []
theorem reL_length (rows : List (List Int)) (τ : Nat → Nat) : (reL rows τ).length = rows.length := by simp [reL]
theorem reL_getD {rows : List (List Int)} {τ : Nat → Nat} {i : Nat} (h : i < rows.length) : (reL rows τ).getD i [] = rows.getD (τ i) [] := by simp [reL, List.getD_eq_getElem?_getD, h]

open Go.Sort Go.Shelf in
theorem swo_piv (P : Nat → Int) : SWO (ltOf fun i j => P i - P j) where
  irrefl x := by simp [ltOf]
  trans x y z h1 h2 := by simp [ltOf] at *; omega
  ntrans x y z h1 h2 := by simp [ltOf] at *; omega

open Go.Sort Go.Shelf in
theorem sortRows_any (v : Value) (rows : List (List Int)) (lo hi : Nat) (w : World) (h : OwnII 24 3 w lo hi v rows) (hn : rows.length ≤ 1000) (hl : ∀ i, i < rows.length → (rows.getD i []).length ≤ 1000) (hhi : hi ≤ w.heap.size) :
    Calls Try.prog 47 #[v, .func (.func 48) #[] #[]] w fun e w' => e = .returned (.tuple #[]) ∧
      ∃ τ, Sorted rows τ ∧ OwnII 24 3 w' lo hi v (reL rows τ) ∧ Frm lo hi w w' := by
  obtain ⟨F, g1, g2, g3⟩ := h
  obtain ⟨p, cap, rfl, hnc, hcm, hp⟩ := g1.shape
  by_cases h0 : rows.length = 0
  · have hrows : rows = [] := List.eq_nil_of_length_eq_zero h0
    subst hrows
    have hcon := AnyF.slices_SortFunc_none (P := Try.prog) (ρ := Try.sortF_ren) { Try.sortF with } p cap (.func (.func 48) #[] #[]) w
    change Calls Try.prog 47 _ _ _ at hcon
    refine hcon.mono ?_
    rintro e w' ⟨rfl, rfl⟩
    exact ⟨rfl, id, ⟨fun i hi => hi, fun i j _ _ e => e, fun j hj => ⟨j, hj, rfl⟩, fun i j _ hj => absurd hj (by simp)⟩, ⟨F, g1, g2, g3⟩, Frm.refl _ _ _⟩
  · obtain ⟨g, rfl, hg1, hg2, hg3⟩ := hp (by omega)
    obtain ⟨G, hrow, hG, _, _, _, _, _⟩ := g1.opened
    have enter : ∀ args w, (callFunc 48 args).run Try.prog w = .ok (.enter 48 args) w := enters_of Try.func48 (by kernel_rfl) rfl
    obtain ⟨enc, henc⟩ : ∃ enc : Nat → Value, enc = fun i => if i < rows.length then F i else .slice none 0 0 := ⟨_, rfl⟩
    obtain ⟨R, hR⟩ : ∃ R : Nat → List Int, R = fun i => if i < rows.length then rows.getD i [] else [] := ⟨_, rfl⟩
    have hRl : ∀ i, (R i).length ≤ 1000 := fun i => by
      rw [hR]
      by_cases e : i < rows.length
      · simp only [e, if_true]; exact hl i e
      · simp [e]
    have hone : OneCell enc := fun i => by
      rw [henc]
      by_cases e : i < rows.length
      · simp only [e, if_true]
        obtain ⟨p1, k1, e1, _⟩ := (g2 i e).shape
        rw [e1]; rfl
      · simp only [e, if_false]; rfl
    have hnb : ∀ i, i < rows.length → ∀ k, (F i).ownBlock = some k → k ≠ g ∧ k < w.heap.size := fun i hi k hk => ⟨fun e => by
      subst e
      exact own_types g1 (g2 i hi) (by decide) rfl hk, (Own.block (g2 i hi) hk).2.2⟩
    have hcmp : CmpLays1 Try.prog 48 #[] enc (fun i j => pivL (R i) - pivL (R j)) g 0 (Array.range rows.length).size w := by
      refine CmpReads.lays fun m os dk _ x y => ?_
      have hI : ∀ i, Ints (sortWorld enc w g 0 m dk os) (enc i) (R i) := fun i => by
        rw [henc, hR]
        by_cases e : i < rows.length
        · simp only [e, if_true]
          exact ((g2 i e).at_block fun k hk => sortWorld_other _ (hnb i e k hk).2 (hnb i e k hk).1 m dk os).ints
        · simp only [e, if_false]
          exact ⟨none, 0, rfl, ⟨Nat.le_refl _, Nat.zero_le _⟩, fun h => absurd h (by simp)⟩
      exact cmpPiv_any (enc x) (enc y) (R x) (R y) _ (hI x) (hI y) (hRl x) (hRl y)
    have hH : Holds enc w g 0 (Array.range rows.length) := fun j hj => by
      rw [Array.size_range] at hj
      have e : (Array.range rows.length)[j]! = j := by rw [getElem!_pos _ j (by simpa using hj)]; simp
      rw [e, Nat.zero_add]
      refine ⟨?_, g1.frozen j⟩
      rw [g1.cell hj, henc]
      simp [hj]
    have hcon := Any.slices_SortFunc Try.sortF enc hone (fun i j => pivL (R i) - pivL (R j)) (swo_piv fun i => pivL (R i)) 48 #[] g 0 cap (Array.range rows.length) w enter hcmp hH hg3 (by rw [Array.size_range]; omega)
    change Calls Try.prog 47 _ _ _ at hcon
    rw [Array.size_range] at hcon
    refine hcon.mono ?_
    rintro e w' ⟨rfl, d', n, os, hp1, hs1, rfl⟩
    have hsz : d'.size = rows.length := by simpa using hp1.1
    have hperm : d'.toList.Perm (List.range rows.length) := by
      have h1 := hp1.2.2
      have e1 : d'.extract 0 rows.length = d' := by rw [← hsz]; simp
      have e2 : (Array.range rows.length).extract 0 rows.length = Array.range rows.length := by
        have := Array.extract_size (xs := Array.range rows.length)
        rwa [Array.size_range] at this
      rw [e1, e2] at h1
      simpa using h1
    have hat : ∀ i (hi : i < rows.length), d'[i]! = d'.toList[i]'(by simpa [hsz] using hi) := fun i hi => by
      rw [getElem!_pos d' i (by omega)]; simp
    have hlt : ∀ i, i < rows.length → d'[i]! < rows.length := fun i hi => by
      have : d'[i]! ∈ d'.toList := by rw [hat i hi]; exact List.getElem_mem _
      simpa using hperm.mem_iff.1 this
    have hRe : ∀ i, i < rows.length → R d'[i]! = rows.getD d'[i]! [] := fun i hi => by rw [hR]; simp only [hlt i hi, if_true]
    have hnd : d'.toList.Nodup := hperm.nodup_iff.2 List.nodup_range
    have hneq : ∀ i j, i < j → j < rows.length → d'[i]! ≠ d'[j]! := fun i j hij hj => by
      rw [hat i (by omega), hat j hj]
      exact (List.pairwise_iff_getElem.1 hnd) i j _ _ hij
    refine ⟨rfl, fun i => d'[i]!, ⟨hlt, fun i j hi hj e => ?_, fun j hj => ?_, fun i j hij hj => ?_⟩, ?_, sortWorld_frm enc w hg1 hg2 n d' os⟩
    · rcases Nat.lt_trichotomy i j with h | h | h
      · exact absurd e (hneq i j h hj)
      · exact h
      · exact absurd e.symm (hneq j i h hi)
    · have : j ∈ d'.toList := hperm.mem_iff.2 (by simpa using hj)
      obtain ⟨i, hi, e⟩ := List.mem_iff_getElem.1 this
      have hi' : i < rows.length := by simpa [hsz] using hi
      exact ⟨i, hi', by rw [← e]; exact hat i hi'⟩
    · have h1 := hs1 i j (Nat.zero_le _) hij hj
      simp only [ltOf, decide_eq_false_iff_not] at h1
      rw [hRe i (by omega), hRe j hj] at h1
      dsimp only
      omega
    · obtain ⟨c, hc1, hc2, hc3⟩ := hrow
      have hrow' : (sortWorld enc w g 0 n d' os).rowIs g 24 cap (fun k => if k < rows.length then F d'[k]! else G k) := by
        refine ⟨_, sortWorld_at enc hc1 n d' os, by simp [putCells, hc2], fun i hi => ?_⟩
        simp only [putCells, Array.getElem?_mapIdx, hc3 i hi, Option.map_some, Nat.zero_le, true_and, Nat.zero_add, Nat.sub_zero, hsz]
        by_cases e : i < rows.length
        · simp only [e, if_true]
          rw [henc]
          simp only [hlt i e, if_true]
        · simp only [e, if_false]
      refine ⟨fun k => F d'[k]!, ?_, fun i hi => ?_, fun i j hij hj k hk => ?_⟩
      · rw [reL_length]
        exact OwnF.mk' hrow' hg1 hg2 hnc hcm fun j hj => by simp only [hj, if_true]
      · rw [reL_length] at hi
        rw [reL_getD hi]
        exact (g2 _ (hlt i hi)).at_block fun k hk => sortWorld_other enc (hnb _ (hlt i hi) k hk).2 (hnb _ (hlt i hi) k hk).1 n d' os
      · rw [reL_length] at hj
        have h1 := hneq i j hij hj
        intro hk2
        rcases Nat.lt_or_gt_of_ne h1 with h2 | h2
        · exact g3 _ _ h2 (hlt j hj) k hk hk2
        · exact g3 _ _ h2 (hlt i (by omega)) k hk2 hk

end Go.Proofs.Ytklpaannmdbmiaa
