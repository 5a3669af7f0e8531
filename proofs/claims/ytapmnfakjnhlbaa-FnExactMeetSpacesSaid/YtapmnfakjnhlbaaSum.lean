/-
  SumSpaces, on both sides.
-/
import Derived.Test.YtapmnfakjnhlbaaTwo
import Derived.Test.YtapmnfakjnhlbaaBoth
namespace Go.Proofs.Ytapmnfakjnhlbaa
set_option linter.all false
open Go.RowKit

/-- a matrix and a bool that are known by a property, or none -/
def PrQ (Q : Mx → Bool → Prop) (x : Mx × Bool) : Prop := Q x.1 x.2 ∨ ((∀ m b, ¬ Q m b) ∧ x = (mxZero, false))
theorem PrQ.spec (Q : Mx → Bool → Prop) : PrQ Q (Classical.epsilon (PrQ Q)) := by
  refine Classical.epsilon_spec (p := PrQ Q) ?_
  by_cases h : ∃ m b, Q m b
  · obtain ⟨m, b, h⟩ := h
    exact ⟨(m, b), .inl h⟩
  · exact ⟨(mxZero, false), .inr ⟨fun m b hq => h ⟨m, b, hq⟩, rfl⟩⟩
theorem PrQ.eps {Q : Mx → Bool → Prop} {m : Mx} {b : Bool} (hone : ∀ m b m' b', Q m b → Q m' b' → m = m' ∧ b = b') (h : Q m b) : m = (Classical.epsilon (PrQ Q)).1 ∧ b = (Classical.epsilon (PrQ Q)).2 := by
  rcases PrQ.spec Q with h2 | ⟨h2, _⟩
  · exact hone _ _ _ _ h h2
  · exact absurd h (h2 m b)

/-- the reduced form of what rows span, as a matrix -/
def RowsIs (P : Int) (C R : Nat) (M0 : Nat → Nat → Int) (m : Mx) : Prop := ∃ (n : Nat) (M : Nat → Nat → Int) (q : Nat → Nat), IsRed P C R M0 n M q ∧ m = ⟨P, n, C, flatM n C M⟩
theorem RowsIs.one {P : Int} {C R : Nat} {M0 : Nat → Nat → Int} {m m' : Mx} (hP : 2 ≤ P) (h : RowsIs P C R M0 m) (h' : RowsIs P C R M0 m') : m = m' := by
  obtain ⟨n, M, q, h1, rfl⟩ := h
  obtain ⟨n', M', q', h1', rfl⟩ := h'
  obtain ⟨e1, _, e3⟩ := h1.one hP h1'
  subst e1
  rw [flatM_congr e3]
theorem RowsIs.len {P : Int} {C R : Nat} {M0 : Nat → Nat → Int} {m : Mx} (hC : C ≤ 14) (h : RowsIs P C R M0 m) : m.D.length ≤ 1000 := by
  obtain ⟨n, M, q, h1, rfl⟩ := h
  have a := asc_bound h1.2.1 h1.1.lt
  have b := Nat.mul_le_mul (Nat.le_trans a hC) hC
  show (flatM n C M).length ≤ 1000
  rw [flatM_length]
  omega
theorem RowsIs.same {P : Int} {C R R' : Nat} {M0 M1 : Nat → Nat → Int} {m : Mx} (h : RowsIs P C R M0 m) (hs : SameSp P C R' M1 R M0) : RowsIs P C R' M1 m := by
  obtain ⟨n, M, q, ⟨h1, h2, h3, h4⟩, rfl⟩ := h
  exact ⟨n, M, q, ⟨h1, h2, h3, hs.trans h4⟩, rfl⟩

/-- what SumSpaces returns -/
def SmIs (P R C : Int) (D : List Int) (P' R' C' : Int) (D' : List Int) (m : Mx) (ok : Bool) : Prop :=
  (TwoIs P R C D P' R' C' D' ∧ ok = true ∧ RowsIs P C.toNat (R.toNat + R'.toNat) (stackM R.toNat (mf C.toNat fun t => D.getD t 0) (mf C.toNat fun t => D'.getD t 0)) m) ∨ (¬ TwoIs P R C D P' R' C' D' ∧ ok = false ∧ m = mxZero)
theorem SmIs.one {P R C : Int} {D : List Int} {P' R' C' : Int} {D' : List Int} (m : Mx) (b : Bool) (m' : Mx) (b' : Bool) (h : SmIs P R C D P' R' C' D' m b) (h' : SmIs P R C D P' R' C' D' m' b') : m = m' ∧ b = b' := by
  rcases h with ⟨t, rfl, h⟩ | ⟨t, rfl, rfl⟩
  · rcases h' with ⟨_, rfl, h'⟩ | ⟨t', _, _⟩
    · obtain ⟨_, _, _, _, _, _, _, _, _, hP, _⟩ := mxOk_facts t.1.1
      exact ⟨h.one hP h', rfl⟩
    · exact absurd t t'
  · rcases h' with ⟨t', _, _⟩ | ⟨_, rfl, rfl⟩
    · exact absurd t' t
    · exact ⟨rfl, rfl⟩
theorem sum_len (P R C : Int) (D : List Int) (P' R' C' : Int) (D' : List Int) : (Classical.epsilon (PrQ (SmIs P R C D P' R' C' D'))).1.D.length ≤ 1000 := by
  rcases PrQ.spec (SmIs P R C D P' R' C' D') with h | ⟨_, h⟩
  · rcases h with ⟨t, _, h⟩ | ⟨_, _, h⟩
    · obtain ⟨r, c, _, rfl, _, _, hc, _⟩ := mxOk_facts t.1.1
      exact h.len (by simp; omega)
    · rw [h]; simp [mxZero]
  · rw [h]; simp [mxZero]

/-- what lies flat, one behind the other -/
theorem both_mf {C R R' : Nat} {D D' : List Int} (hl : D.length = R * C) {i c : Nat} (hi : i < R + R') (hc : c < C) :
    mf C (fun t => (D ++ D').getD t 0) i c = stackM R (mf C fun t => D.getD t 0) (mf C fun t => D'.getD t 0) i c := by
  unfold mf
  by_cases h : i < R
  · rw [stackM_lt h]
    have h1 : i * C + c < R * C := by
      have : (i + 1) * C ≤ R * C := Nat.mul_le_mul_right C h
      rw [Nat.succ_mul] at this
      omega
    simp [List.getD_eq_getElem?_getD, List.getElem?_append_left (show i * C + c < D.length by omega)]
  · rw [stackM_ge h]
    obtain ⟨k, rfl⟩ : ∃ k, i = R + k := ⟨i - R, by omega⟩
    have e : (R + k) * C + c - R * C = (R + k - R) * C + c := by rw [Nat.add_mul, Nat.add_sub_cancel_left]; omega
    simp only [List.getD_eq_getElem?_getD]
    rw [List.getElem?_append_right (by rw [hl, Nat.add_mul]; omega), hl, e]
theorem both_rng {P : Int} {D D' : List Int} (hP : 0 < P) (h : ∀ t, 0 ≤ D.getD t 0 ∧ D.getD t 0 < P) (h' : ∀ t, 0 ≤ D'.getD t 0 ∧ D'.getD t 0 < P) (t : Nat) : 0 ≤ (D ++ D').getD t 0 ∧ (D ++ D').getD t 0 < P := by
  by_cases e : t < D.length
  · rw [List.getD_eq_getElem?_getD, List.getElem?_append_left e, ← List.getD_eq_getElem?_getD]; exact h t
  · rw [List.getD_eq_getElem?_getD, List.getElem?_append_right (by omega), ← List.getD_eq_getElem?_getD]; exact h' _
theorem getD_app_lt {a b : List (List Int)} {i : Nat} (h : i < a.length) : (a ++ b).getD i [] = a.getD i [] := by simp [List.getD_eq_getElem?_getD, List.getElem?_append_left h]
theorem getD_app_ge {a b : List (List Int)} {i : Nat} (h : ¬ i < a.length) : (a ++ b).getD i [] = b.getD (i - a.length) [] := by simp [List.getD_eq_getElem?_getD, List.getElem?_append_right (Nat.le_of_not_lt h)]
/-- rows behind rows -/
theorem rowsOf_join {P : Int} {R R' C : Nat} {D D' : List Int} : SameSp P C (R + R') (stackM R (mf C fun t => D.getD t 0) (mf C fun t => D'.getD t 0)) (rowsOf R C D ++ rowsOf R' C D').length (mt (rowsOf R C D ++ rowsOf R' C D')) := by
  rw [List.length_append, rowsOf_length, rowsOf_length]
  refine SameSp.of_eqv fun i hi => .of_eq fun c hc => ?_
  unfold mt
  by_cases h : i < R
  · rw [stackM_lt h, getD_app_lt (by rw [rowsOf_length]; exact h), rowsOf_getD h, rowAt_getD hc]
    rfl
  · rw [stackM_ge h, getD_app_ge (by rw [rowsOf_length]; exact h), rowsOf_length, rowsOf_getD (by omega), rowAt_getD hc]
    rfl
theorem RowsOk.join {p : Int} {C : Nat} {a b : List (List Int)} (ha : RowsOk p C a) (hb : RowsOk p C b) : RowsOk p C (a ++ b) := fun i hi => by
  by_cases h : i < a.length
  · rw [getD_app_lt h]; exact ha i h
  · rw [List.length_append] at hi
    rw [getD_app_ge h]; exact hb _ (by omega)


end Go.Proofs.Ytapmnfakjnhlbaa
