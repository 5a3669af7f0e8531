/-
  The step of the program's reduction, as plain law.
-/
import Derived.Test.YtejoapielndnnaaRref
import Derived.Test.YtejoapielndnnaaPivot
namespace Go.Proofs.Ytejoapielndnnaa
set_option linter.all false

/-- the number at row i, column j of a list of rows -/
def mt (out : List (List Int)) (i j : Nat) : Int := (out.getD i []).getD j 0
def RowOk (p : Int) (C : Nat) (r : List Int) : Prop := r.length = C ∧ ∀ j, 0 ≤ r.getD j 0 ∧ r.getD j 0 < p
def RowsOk (p : Int) (C : Nat) (out : List (List Int)) : Prop := ∀ i, i < out.length → RowOk p C (out.getD i [])

theorem mt_snoc_lt {out : List (List Int)} {r : List Int} {i : Nat} (h : i < out.length) : mt (out ++ [r]) i = mt out i := by
  funext j
  simp [mt, List.getD_eq_getElem?_getD, List.getElem?_append_left h]
theorem mt_snoc_at (out : List (List Int)) (r : List Int) : mt (out ++ [r]) out.length = fun j => r.getD j 0 := by
  funext j
  simp [mt, List.getD_eq_getElem?_getD]
theorem getD_snoc_lt {out : List (List Int)} {r : List Int} {i : Nat} (h : i < out.length) : (out ++ [r]).getD i [] = out.getD i [] := by
  simp [List.getD_eq_getElem?_getD, List.getElem?_append_left h]
theorem getD_snoc_at (out : List (List Int)) (r : List Int) : (out ++ [r]).getD out.length [] = r := by simp [List.getD_eq_getElem?_getD]
theorem RowsOk.snoc {p : Int} {C : Nat} {out : List (List Int)} {r : List Int} (h : RowsOk p C out) (hr : RowOk p C r) : RowsOk p C (out ++ [r]) := fun i hi => by
  rw [List.length_append, List.length_singleton] at hi
  by_cases e : i < out.length
  · rw [getD_snoc_lt e]; exact h i e
  · obtain rfl : i = out.length := by omega
    rw [getD_snoc_at]; exact hr
theorem RowOk.small {p : Int} {C : Nat} {r : List Int} (h : RowOk p C r) (hp : p ≤ 7) : Small r := fun x hx => by
  obtain ⟨j, hj, rfl⟩ := List.mem_iff_getElem.1 hx
  have := h.2 j
  rw [List.getD_eq_getElem?_getD, List.getElem?_eq_getElem hj, Option.getD_some] at this
  omega
theorem getD_out {xs : List Int} {j : Nat} (h : xs.length ≤ j) : xs.getD j 0 = 0 := by
  simp [List.getD_eq_getElem?_getD, h]
theorem addRowL_ok {p k : Int} {C : Nat} {xs ys : List Int} (hp : 2 ≤ p) (h : xs.length = C) : RowOk p C (addRowL p k xs ys) := by
  refine ⟨by rw [addRowL_length, h], fun j => ?_⟩
  by_cases hj : j < xs.length
  · rw [addRowL_getD hj]
    exact ⟨Int.emod_nonneg _ (by omega), Int.emod_lt_of_pos _ (by omega)⟩
  · rw [getD_out (by rw [addRowL_length]; omega)]
    omega
theorem scaleL_ok {p k : Int} {C : Nat} {xs : List Int} (hp : 2 ≤ p) (h : xs.length = C) : RowOk p C (scaleL p k xs) := by
  refine ⟨by rw [scaleL_length, h], fun j => ?_⟩
  by_cases hj : j < xs.length
  · rw [scaleL_getD hj]
    exact ⟨Int.emod_nonneg _ (by omega), Int.emod_lt_of_pos _ (by omega)⟩
  · rw [getD_out (by rw [scaleL_length]; omega)]
    omega
theorem addRowL_eqv {p k : Int} {C : Nat} {xs ys : List Int} (h : xs.length = C) : Eqv p C (fun j => (addRowL p k xs ys).getD j 0) (fun j => xs.getD j 0 + k * ys.getD j 0) := fun j hj => by
  dsimp only
  rw [addRowL_getD (by omega)]
  exact Eqv.emod (p := p) (C := C) (fun j => xs.getD j 0 + k * ys.getD j 0) j hj
theorem scaleL_eqv {p k : Int} {C : Nat} {xs : List Int} (h : xs.length = C) : Eqv p C (fun j => (scaleL p k xs).getD j 0) (fun j => k * xs.getD j 0) := fun j hj => by
  dsimp only
  rw [scaleL_getD (by omega)]
  exact Eqv.emod (p := p) (C := C) (fun j => k * xs.getD j 0) j hj

/-- cur is a row r less multiples of the rows of out, with 0 in the first t columns -/
structure El (p : Int) (C : Nat) (out : List (List Int)) (q : Nat → Nat) (r cur : List Int) (t : Nat) : Prop where
  ok : RowOk p C cur
  zero : ∀ i, i < t → cur.getD (q i) 0 = 0
  same : SameSp p C (out.length + 1) (mt (out ++ [r])) (out.length + 1) (mt (out ++ [cur]))

theorem El.step {p : Int} {C : Nat} {out : List (List Int)} {q : Nat → Nat} {r cur : List Int} {t : Nat} (hp : 2 ≤ p) (hr : Red p C out.length (mt out) q) (ht : t < out.length) (h : El p C out q r cur t) :
    El p C out q r (addRowL p (p - cur.getD (q t) 0) cur (out.getD t [])) (t + 1) := by
  refine ⟨addRowL_ok hp h.ok.1, fun i hi => ?_, h.same.trans (SameSp.elim t (by omega) (fun i => if i = out.length then p - cur.getD (q t) 0 else 0) ?_ ?_)⟩
  · have hC := hr.lt i (by omega)
    rw [addRowL_getD (by rw [h.ok.1]; exact hC)]
    have hu := hr.unit t i ht (by omega)
    unfold mt at hu
    rw [hu]
    by_cases e : t = i
    · subst e
      rw [if_pos rfl, Int.mul_one, show cur.getD (q t) 0 + (p - cur.getD (q t) 0) = p by omega, Int.emod_self]
    · rw [if_neg e, Int.mul_zero, h.zero i (by omega)]
      rfl
  · rw [mt_snoc_lt ht, mt_snoc_lt ht]; exact Eqv.refl _ _ _
  · intro i hi hne
    by_cases e : i = out.length
    · subst e
      rw [mt_snoc_at, mt_snoc_at, mt_snoc_lt ht]
      simp only [if_true]
      exact addRowL_eqv h.ok.1
    · simp only [e, if_false]
      rw [mt_snoc_lt (by omega), mt_snoc_lt (by omega)]
      exact .of_eq fun j _ => by omega
theorem El.start {p : Int} {C : Nat} {out : List (List Int)} {q : Nat → Nat} {r : List Int} (h : RowOk p C r) : El p C out q r r 0 := ⟨h, fun i hi => absurd hi (Nat.not_lt_zero _), .refl⟩

/-- nothing is left of the row -/
theorem El.none {p : Int} {C : Nat} {out : List (List Int)} {q : Nat → Nat} {r cur : List Int} {t : Nat} (h : El p C out q r cur t) (h0 : ∀ j, j < cur.length → cur.getD j 0 = 0) :
    SameSp p C (out.length + 1) (mt (out ++ [r])) out.length (mt out) := by
  refine h.same.trans ⟨fun i hi => ?_, fun i hi => ?_⟩
  · by_cases e : i = out.length
    · subst e
      rw [mt_snoc_at]
      exact Sp.zero.eqv (.of_eq fun j hj => by rw [h0 j (by rw [h.ok.1]; exact hj)])
    · rw [mt_snoc_lt (by omega)]; exact .row (by omega)
  · have : Sp p C (out.length + 1) (mt (out ++ [cur])) (mt (out ++ [cur]) i) := .row (by omega)
    rwa [mt_snoc_lt hi] at this

/-- every row less its multiple of s -/
def clearL (p : Int) (K : Nat) (out : List (List Int)) (s : List Int) (t : Nat) : List (List Int) :=
  (List.range out.length).map fun i => if i < t then addRowL p (p - (out.getD i []).getD K 0) (out.getD i []) s else out.getD i []
theorem clearL_length (p : Int) (K : Nat) (out : List (List Int)) (s : List Int) (t : Nat) : (clearL p K out s t).length = out.length := by simp [clearL]
theorem clearL_getD {p : Int} {K : Nat} {out : List (List Int)} {s : List Int} {t i : Nat} (h : i < out.length) :
    (clearL p K out s t).getD i [] = if i < t then addRowL p (p - (out.getD i []).getD K 0) (out.getD i []) s else out.getD i [] := by
  simp [clearL, List.getD_eq_getElem?_getD, h]
theorem clearL_zero (p : Int) (K : Nat) (out : List (List Int)) (s : List Int) : clearL p K out s 0 = out := by
  apply List.ext_getElem (by rw [clearL_length])
  intro i h1 h2
  simp [clearL, List.getD_eq_getElem?_getD, h2]

/-- what is left of the row is scaled, the other rows are cleared at its column, and it is put behind them -/
theorem El.more {p k : Int} {C K : Nat} {out : List (List Int)} {q : Nat → Nat} {r cur : List Int} (hp : 2 ≤ p) (hr : Red p C out.length (mt out) q) (ho : RowsOk p C out) (h : El p C out q r cur out.length)
    (hK : K < C) (hK0 : ∀ j, j < K → cur.getD j 0 = 0) (hKn : cur.getD K 0 ≠ 0) (hk : k * cur.getD K 0 % p = 1) :
    Red p C (out.length + 1) (mt (clearL p K out (scaleL p k cur) out.length ++ [scaleL p k cur])) (fun i => if i < out.length then q i else K) ∧
    RowsOk p C (clearL p K out (scaleL p k cur) out.length ++ [scaleL p k cur]) ∧
    SameSp p C (out.length + 1) (mt (out ++ [r])) (out.length + 1) (mt (clearL p K out (scaleL p k cur) out.length ++ [scaleL p k cur])) := by
  have hs : RowOk p C (scaleL p k cur) := scaleL_ok hp h.ok.1
  have hsg : ∀ j, j < C → (scaleL p k cur).getD j 0 = (k * cur.getD j 0) % p := fun j hj => scaleL_getD (by rw [h.ok.1]; exact hj)
  have hsz : ∀ i, i < out.length → (scaleL p k cur).getD (q i) 0 = 0 := fun i hi => by rw [hsg _ (hr.lt i hi), h.zero i hi, Int.mul_zero]; rfl
  have hs0 : ∀ j, j < K → (scaleL p k cur).getD j 0 = 0 := fun j hj => by rw [hsg _ (by omega), hK0 j hj, Int.mul_zero]; rfl
  have hs1 : (scaleL p k cur).getD K 0 = 1 := by rw [hsg _ hK, hk]
  have heqv := scaleL_eqv (p := p) (k := k) h.ok.1
  generalize scaleL p k cur = s at *
  have hl : (clearL p K out s out.length).length = out.length := clearL_length _ _ _ _ _
  have hrow : ∀ i, i < out.length → (clearL p K out s out.length ++ [s]).getD i [] = addRowL p (p - (out.getD i []).getD K 0) (out.getD i []) s := fun i hi => by
    rw [getD_snoc_lt (by rw [hl]; exact hi), clearL_getD hi, if_pos hi]
  have hlast : (clearL p K out s out.length ++ [s]).getD out.length [] = s := by
    have := getD_snoc_at (clearL p K out s out.length) s
    rwa [hl] at this
  have hval : ∀ i j, i < out.length → j < C → mt (clearL p K out s out.length ++ [s]) i j = (mt out i j + (p - mt out i K) * s.getD j 0) % p := fun i j hi hj => by
    unfold mt
    rw [hrow i hi, addRowL_getD (by rw [(ho i hi).1]; exact hj)]
  have hvl : ∀ j, mt (clearL p K out s out.length ++ [s]) out.length j = s.getD j 0 := fun j => by unfold mt; rw [hlast]
  have hqK : ∀ i, i < out.length → q i ≠ K := fun i hi e => hKn (by rw [← e]; exact h.zero i hi)
  have hrng : ∀ i j, i < out.length → 0 ≤ mt out i j ∧ mt out i j < p := fun i j hi => (ho i hi).2 j
  refine ⟨⟨fun i hi => ?_, fun i m hi hm => ?_, fun i j hi hj => ?_⟩, ?_, h.same.trans ?_⟩
  · by_cases e : i < out.length
    · simp only [e, if_true]; exact hr.lt i e
    · simp only [e, if_false]; exact hK
  · by_cases e : i < out.length
    · by_cases e2 : m < out.length
      · simp only [e2, if_true]
        rw [hval i _ e (hr.lt m e2), hsz m e2, Int.mul_zero, Int.add_zero, hr.unit i m e e2]
        by_cases e3 : i = m
        · rw [if_pos e3]; exact Int.emod_eq_of_lt (by omega) (by omega)
        · rw [if_neg e3]; rfl
      · simp only [e2, if_false]
        rw [hval i _ e hK, hs1, Int.mul_one, show mt out i K + (p - mt out i K) = p by omega, Int.emod_self, if_neg (by omega)]
    · obtain rfl : i = out.length := by omega
      rw [hvl]
      by_cases e2 : m < out.length
      · simp only [e2, if_true]
        rw [hsz m e2, if_neg (by omega)]
      · simp only [e2, if_false]
        rw [hs1, if_pos (by omega)]
  · by_cases e : i < out.length
    · simp only [e, if_true] at hj
      have hC := hr.lt i e
      rw [hval i j e (by omega), hr.lead i j e hj, Int.zero_add]
      by_cases e2 : j < K
      · rw [hs0 j e2, Int.mul_zero]; rfl
      · have : mt out i K = 0 := hr.lead i K e (by have := hqK i e; omega)
        rw [this, Int.sub_zero, Int.mul_emod_right]
    · obtain rfl : i = out.length := by omega
      simp only [Nat.lt_irrefl, if_false] at hj
      rw [hvl]; exact hs0 j hj
  · refine RowsOk.snoc (fun i hi => ?_) hs
    rw [hl] at hi
    rw [clearL_getD hi, if_pos hi]
    exact addRowL_ok hp (ho i hi).1
  · have h1 : SameSp p C (out.length + 1) (mt (out ++ [cur])) (out.length + 1) (mt (out ++ [s])) := by
      refine SameSp.scale out.length (by omega) k (cur.getD K 0) ?_ ?_ fun i hi hne => ?_
      · have := Int.dvd_self_sub_emod (x := k * cur.getD K 0) (m := p)
        rwa [hk] at this
      · rw [mt_snoc_at, mt_snoc_at]; exact heqv
      · rw [mt_snoc_lt (by omega), mt_snoc_lt (by omega)]; exact .refl _ _ _
    refine h1.trans (SameSp.elim out.length (by omega) (fun i => p - mt out i K) ?_ fun i hi hne => ?_)
    · rw [mt_snoc_at]; exact .of_eq fun j _ => hvl j
    · have hi' : i < out.length := by omega
      intro j hj
      rw [hval i j hi' hj, mt_snoc_lt hi', mt_snoc_at]
      exact Eqv.emod (p := p) (C := C) (fun j => mt out i j + (p - mt out i K) * s.getD j 0) j hj

/-- one row more on both sides -/
theorem SameSp.snoc {p : Int} {C k n : Nat} {M M' M'' : Nat → Nat → Int} (h : SameSp p C k M n M') (hk : Eqv p C (M k) (M'' n)) (hM : ∀ i, i < n → Eqv p C (M'' i) (M' i)) : SameSp p C (k + 1) M (n + 1) M'' := by
  have up : ∀ v, Sp p C n M' v → Sp p C (n + 1) M'' v := fun v hv => hv.trans fun i hi => (Sp.row (show i < n + 1 by omega)).eqv (hM i hi)
  have up2 : ∀ v, Sp p C k M v → Sp p C (k + 1) M v := fun v hv => hv.trans fun i hi => .row (by omega)
  refine ⟨fun i hi => ?_, fun i hi => ?_⟩
  · by_cases e : i < k
    · exact up _ (h.1 i e)
    · obtain rfl : i = k := by omega
      exact (Sp.row (show n < n + 1 by omega)).eqv hk.symm
  · by_cases e : i < n
    · exact (up2 _ (h.2 i e)).eqv (hM i e).symm
    · obtain rfl : i = n := by omega
      exact (Sp.row (show k < k + 1 by omega)).eqv hk

end Go.Proofs.Ytejoapielndnnaa
