/-
  What two spaces have in common: the reference's, walked.
-/
import Derived.Test.YtmnlpkmnbjoicaaMeetP
import Derived.Test.YtmnlpkmnbjoicaaCommon
import Derived.Deep.RegionLaw
namespace Go.Proofs.Ytmnlpkmnbjoicaa
set_option linter.all false
open Go.RowKit

/-- row i of what is reduced -/
def rr (c ra : Nat) (DA DB : List Int) (i : Nat) : List Int := if i < ra then rowAt c DA i ++ rowAt c DA i else rowAt c DB (i - ra) ++ List.replicate c 0
theorem rr_length {c ra rb : Nat} {DA DB : List Int} (hA : DA.length = ra * c) (hB : DB.length = rb * c) : ∀ i, i < ra + rb → (rr c ra DA DB i).length = 2 * c := fun i hi => by
  unfold rr
  split
  · rw [List.length_append, rowAt_length (by rw [hA]; exact mul_le_of (by assumption))]; omega
  · rw [List.length_append, rowAt_length (by rw [hB]; exact mul_le_of (by omega)), List.length_replicate]; omega
theorem rr_mt {c ra rb i j : Nat} {DA DB : List Int} (hA : DA.length = ra * c) (hB : DB.length = rb * c) (hi : i < ra + rb) (hj : j < 2 * c) :
    (rr c ra DA DB i).getD j 0 = mtM c ra (mf c fun t => DA.getD t 0) (mf c fun t => DB.getD t 0) i j := by
  unfold rr mtM
  by_cases h : i < ra
  · rw [if_pos h, stackM_lt h]
    have hl : (rowAt c DA i).length = c := rowAt_length (by rw [hA]; exact mul_le_of h)
    by_cases e : j < c
    · rw [if_pos e, List.getD_eq_getElem?_getD, List.getElem?_append_left (by omega), ← List.getD_eq_getElem?_getD, rowAt_getD e]; rfl
    · rw [if_neg e, List.getD_eq_getElem?_getD, List.getElem?_append_right (by omega), ← List.getD_eq_getElem?_getD, hl, rowAt_getD (by omega)]; rfl
  · rw [if_neg h, stackM_ge h]
    have hl : (rowAt c DB (i - ra)).length = c := rowAt_length (by rw [hB]; exact mul_le_of (by omega))
    by_cases e : j < c
    · rw [if_pos e, List.getD_eq_getElem?_getD, List.getElem?_append_left (by omega), ← List.getD_eq_getElem?_getD, rowAt_getD e]; rfl
    · rw [if_neg e, List.getD_eq_getElem?_getD, List.getElem?_append_right (by omega), hl]
      simp [List.getElem?_replicate, show j - c < c by omega]
theorem rr_rng {P : Int} {c ra rb : Nat} {DA DB : List Int} (hP : 0 < P) (hA : DA.length = ra * c) (hB : DB.length = rb * c) (ha : ∀ t, 0 ≤ DA.getD t 0 ∧ DA.getD t 0 < P) (hb : ∀ t, 0 ≤ DB.getD t 0 ∧ DB.getD t 0 < P) (t : Nat) :
    0 ≤ (rowsF (ra + rb) (rr c ra DA DB)).getD t 0 ∧ (rowsF (ra + rb) (rr c ra DA DB)).getD t 0 < P := by
  have hl := rowsF_length (rr_length hA hB)
  by_cases e : t < (ra + rb) * (2 * c)
  · have hc : 0 < 2 * c := by
      rcases Nat.eq_zero_or_pos (2 * c) with h | h
      · rw [h] at e; omega
      · exact h
    have h1 : t / (2 * c) < ra + rb := Nat.div_lt_of_lt_mul (by rw [Nat.mul_comm]; exact e)
    have h2 : t % (2 * c) < 2 * c := Nat.mod_lt _ hc
    have h3 : t = t / (2 * c) * (2 * c) + t % (2 * c) := by rw [Nat.mul_comm]; exact (Nat.div_add_mod _ _).symm
    rw [h3, rowsF_getD (rr_length hA hB) h1 h2, rr_mt hA hB h1 h2]
    unfold mtM
    by_cases h : t / (2 * c) < ra
    · rw [stackM_lt h]
      split
      · exact ha _
      · exact ha _
    · rw [stackM_ge h]
      split
      · exact hb _
      · omega
  · rw [getD_out (by rw [hl]; omega)]; omega
/-- a row of a matrix, within what lies flat -/
theorem row_part {w : World} {D : List Int} {bl off cap i c K R : Nat} (h : Ints w (.slice (some ⟨bl, off, none⟩) D.length cap) D) (hD : D.length = R * c) (hK : K = i * c) (hi : i < R) (hcap : D.length ≤ cap) (hm : cap ≤ maxLen) :
    Rd w (.slice (some ⟨bl, off + K, none⟩) c (cap - K)) c (iv (rowAt c D i)) := by
  have hkc := mul_le_of (C := c) hi
  rw [Nat.add_mul, Nat.one_mul, ← hD, ← hK] at hkc
  exact (Rd.part h K c (cap - K) hkc (by omega) (by omega)).congr fun j hj => by rw [iv, iv, rowAt_getD hj, hK]
/-- the second half of row i -/
def rowH (c : Nat) (h : Nat → Int) (i : Nat) : List Int := (List.range c).map fun j => h (i * (2 * c) + c + j)
theorem rowH_length (c : Nat) (h : Nat → Int) (i : Nat) : (rowH c h i).length = c := by simp [rowH]
theorem flatMap_length {W : Nat} {f : Nat → List Int} (hf : ∀ i, (f i).length = W) : ∀ l : List Nat, (l.flatMap f).length = l.length * W
  | [] => by simp
  | a :: l => by rw [List.flatMap_cons, List.length_append, hf, flatMap_length hf l, List.length_cons, Nat.succ_mul]; omega
theorem flatMap_getD {W : Nat} {f : Nat → List Int} (hf : ∀ i, (f i).length = W) : ∀ (l : List Nat) (i j : Nat), i < l.length → j < W → (l.flatMap f).getD (i * W + j) 0 = (f (l.getD i 0)).getD j 0
  | [], i, j, h, _ => by simp at h
  | a :: l, 0, j, _, hj => by
    rw [List.flatMap_cons, Nat.zero_mul, Nat.zero_add, List.getD_eq_getElem?_getD, List.getElem?_append_left (by rw [hf]; exact hj), ← List.getD_eq_getElem?_getD]; rfl
  | a :: l, i + 1, j, h, hj => by
    have ih := flatMap_getD hf l i j (by simpa using h) hj
    rw [List.flatMap_cons, List.getD_eq_getElem?_getD, List.getElem?_append_right (by rw [hf, Nat.succ_mul]; omega), ← List.getD_eq_getElem?_getD, hf, show (i + 1) * W + j - W = i * W + j by rw [Nat.succ_mul]; omega, ih]
    simp [List.getD_eq_getElem?_getD]
theorem OwnF.keepB {T : TypeId} {w w' : World} {lo hi n : Nat} {v : Value} {f : Nat → Value} (h : OwnF w lo hi T v n f) (hb : ∀ k, v.ownBlock = some k → w'.heap[k]? = w.heap[k]?) : OwnF w' lo hi T v n f := by
  obtain ⟨xs, h, hf⟩ := h
  exact ⟨xs, ⟨ownsRow_of_block h.1 hb, h.2⟩, hf⟩
theorem own_two {T : TypeId} {w : World} {lo hi N M : Nat} {v : Value} {xs ys : List Int} (hN : xs.length = N) (h : OwnF w lo hi T v (N + M) (fun j => if j < N then iv xs j else iv ys (j - N))) : OwnF w lo hi T v (N + M) (iv (xs ++ ys)) :=
  h.congr fun j _ => iv_append hN.symm j

end Go.Proofs.Ytmnlpkmnbjoicaa
