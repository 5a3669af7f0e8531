/-
  What two spaces have in common: the plain law.
-/
import Derived.Test.YtmnlpkmnbjoicaaSum
import Derived.Test.YtmnlpkmnbjoicaaMakeF
import Derived.Test.YtmnlpkmnbjoicaaCorner
namespace Go.Proofs.Ytmnlpkmnbjoicaa
set_option linter.all false
open Go.RowKit

/-- rows (x, x) of one, and (y, 0) of the other one -/
def mtM (c ra : Nat) (A B : Nat → Nat → Int) : Nat → Nat → Int := stackM ra (fun i j => if j < c then A i j else A i (j - c)) (fun i j => if j < c then B i j else 0)
/-- the rows that begin in the second half -/
def keptL (n c : Nat) (q : Nat → Nat) : List Nat := (List.range n).filter fun i => decide (c ≤ q i)
def keptM (c : Nat) (M : Nat → Nat → Int) (l : List Nat) (t j : Nat) : Int := M (l.getD t 0) (c + j)
/-- what is in common -/
def MtIs (P : Int) (c ra rb : Nat) (A B : Nat → Nat → Int) (m : Mx) : Prop :=
  ∃ n M q, IsRed P (2 * c) (ra + rb) (mtM c ra A B) n M q ∧ RowsIs P c (keptL n c q).length (keptM c M (keptL n c q)) m
theorem keptL_lt {n c t : Nat} {q : Nat → Nat} (h : t < (keptL n c q).length) : (keptL n c q).getD t 0 < n := by
  have : (keptL n c q).getD t 0 ∈ keptL n c q := by
    rw [List.getD_eq_getElem?_getD, List.getElem?_eq_getElem h]; exact List.getElem_mem _
  have := (List.mem_filter.1 this).1
  simpa using this
theorem keptL_congr {n c : Nat} {q q' : Nat → Nat} (h : ∀ i, i < n → q i = q' i) : keptL n c q = keptL n c q' := by
  unfold keptL
  refine List.filter_congr fun i hi => ?_
  rw [h i (by simpa using hi)]
theorem keptL_succ (n c : Nat) (q : Nat → Nat) : keptL (n + 1) c q = keptL n c q ++ (if c ≤ q n then [n] else []) := by
  unfold keptL
  rw [List.range_succ, List.filter_append]
  by_cases h : c ≤ q n <;> simp [h]
theorem keptL_le (n c : Nat) (q : Nat → Nat) : (keptL n c q).length ≤ n := by
  unfold keptL
  have := List.length_filter_le (fun i => decide (c ≤ q i)) (List.range n)
  simpa using this
theorem MtIs.one {P : Int} {c ra rb : Nat} {A B : Nat → Nat → Int} {m m' : Mx} (hP : 2 ≤ P) (h : MtIs P c ra rb A B m) (h' : MtIs P c ra rb A B m') : m = m' := by
  obtain ⟨n, M, q, h1, h2⟩ := h
  obtain ⟨n', M', q', h1', h2'⟩ := h'
  obtain ⟨e1, e2, e3⟩ := h1.one hP h1'
  subst e1
  rw [← keptL_congr e2] at h2'
  refine h2.one hP (h2'.same (SameSp.of_eqv fun t ht => .of_eq fun j hj => ?_))
  unfold keptM
  exact e3 _ _ (keptL_lt ht) (by omega)

/-- what MeetSpaces returns -/
def MeIs (P R C : Int) (D : List Int) (P' R' C' : Int) (D' : List Int) (m : Mx) (ok : Bool) : Prop :=
  (TwoIs P R C D P' R' C' D' ∧ ok = true ∧ MtIs P C.toNat R.toNat R'.toNat (mf C.toNat fun t => D.getD t 0) (mf C.toNat fun t => D'.getD t 0) m) ∨ (¬ TwoIs P R C D P' R' C' D' ∧ ok = false ∧ m = mxZero)
theorem MeIs.one {P R C : Int} {D : List Int} {P' R' C' : Int} {D' : List Int} (m : Mx) (b : Bool) (m' : Mx) (b' : Bool) (h : MeIs P R C D P' R' C' D' m b) (h' : MeIs P R C D P' R' C' D' m' b') : m = m' ∧ b = b' := by
  rcases h with ⟨t, rfl, h⟩ | ⟨t, rfl, rfl⟩
  · rcases h' with ⟨_, rfl, h'⟩ | ⟨t', _, _⟩
    · obtain ⟨_, _, _, _, _, _, _, _, _, hP, _⟩ := mxOk_facts t.1.1
      exact ⟨h.one hP h', rfl⟩
    · exact absurd t t'
  · rcases h' with ⟨t', _, _⟩ | ⟨_, rfl, rfl⟩
    · exact absurd t' t
    · exact ⟨rfl, rfl⟩
theorem meet_len (P R C : Int) (D : List Int) (P' R' C' : Int) (D' : List Int) : (Classical.epsilon (PrQ (MeIs P R C D P' R' C' D'))).1.D.length ≤ 1000 := by
  rcases PrQ.spec (MeIs P R C D P' R' C' D') with h | ⟨_, h⟩
  · rcases h with ⟨t, _, n, M, q, _, h⟩ | ⟨_, _, h⟩
    · obtain ⟨r, c, _, rfl, _, _, hc, _⟩ := mxOk_facts t.1.1
      exact h.len (by simp; omega)
    · rw [h]; simp [mxZero]
  · rw [h]; simp [mxZero]

theorem flat_ltW {n C i c : Nat} (hi : i < n) (hc : c < C) : i * C + c < n * C := by
  have : (i + 1) * C ≤ n * C := Nat.mul_le_mul_right C hi
  rw [Nat.succ_mul] at this
  omega
/-- rows of one width, one behind the other -/
def rowsF (k : Nat) (f : Nat → List Int) : List Int := (List.range k).flatMap f
theorem rowsF_succ (k : Nat) (f : Nat → List Int) : rowsF (k + 1) f = rowsF k f ++ f k := by
  unfold rowsF
  rw [List.range_succ, List.flatMap_append]; simp
theorem rowsF_length {k W : Nat} {f : Nat → List Int} (h : ∀ i, i < k → (f i).length = W) : (rowsF k f).length = k * W := by
  induction k with
  | zero => simp [rowsF]
  | succ k ih => rw [rowsF_succ, List.length_append, ih fun i hi => h i (by omega), h k (by omega), Nat.succ_mul]
theorem rowsF_getD {k W : Nat} {f : Nat → List Int} (h : ∀ i, i < k → (f i).length = W) {i j : Nat} (hi : i < k) (hj : j < W) : (rowsF k f).getD (i * W + j) 0 = (f i).getD j 0 := by
  induction k with
  | zero => omega
  | succ k ih =>
    have hl := rowsF_length (k := k) (fun i hi => h i (by omega))
    rw [rowsF_succ]
    by_cases e : i < k
    · have := flat_ltW e hj
      rw [List.getD_eq_getElem?_getD, List.getElem?_append_left (by omega), ← List.getD_eq_getElem?_getD]
      exact ih (fun i hi => h i (by omega)) e
    · obtain rfl : i = k := by omega
      rw [List.getD_eq_getElem?_getD, List.getElem?_append_right (by omega), ← List.getD_eq_getElem?_getD, hl, Nat.add_sub_cancel_left]

end Go.Proofs.Ytmnlpkmnbjoicaa
