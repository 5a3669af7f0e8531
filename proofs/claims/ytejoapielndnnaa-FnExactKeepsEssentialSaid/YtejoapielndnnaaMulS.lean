/-
  The reference's product of matrices.
-/
import Derived.Test.YtejoapielndnnaaHeld
namespace Go.Proofs.Ytejoapielndnnaa
set_option linter.all false
open Go.RowKit

/-- f 0 + .. + f (n-1) -/
def sumTo : Nat → (Nat → Int) → Int
  | 0, _ => 0
  | n + 1, f => sumTo n f + f n

theorem sumTo_bound {f : Nat → Int} {B : Int} : ∀ (n : Nat), (∀ i, i < n → 0 ≤ f i ∧ f i ≤ B) → 0 ≤ sumTo n f ∧ sumTo n f ≤ B * (n : Int)
  | 0, _ => by simp [sumTo]
  | n + 1, h => by
    have h1 := sumTo_bound n (fun i hi => h i (by omega))
    have h2 := h n (by omega)
    have e : B * ((n + 1 : Nat) : Int) = B * (n : Int) + B := by rw [Int.natCast_add, Int.mul_add]; simp
    simp only [sumTo]
    rw [e]
    omega

/-- the number at row i, column j of the product -/
def mulAt (Ca Cb : Nat) (A B : List Int) (i j : Nat) : Int := sumTo Ca fun k => A.getD (i * Ca + k) 0 * B.getD (k * Cb + j) 0
def mulRows (P : Int) (Ra Ca Cb : Nat) (A B : List Int) : List (List Int) := (List.range Ra).map fun i => (List.range Cb).map fun j => mulAt Ca Cb A B i j % P

theorem mulRows_length (P : Int) (Ra Ca Cb : Nat) (A B : List Int) : (mulRows P Ra Ca Cb A B).length = Ra := by simp [mulRows]
theorem mulRows_each (P : Int) (Ra Ca Cb : Nat) (A B : List Int) : ∀ r ∈ mulRows P Ra Ca Cb A B, r.length = Cb := by
  intro r hr
  simp only [mulRows, List.mem_map, List.mem_range] at hr
  obtain ⟨i, hi, rfl⟩ := hr
  simp
theorem mulRows_flat_length (P : Int) (Ra Ca Cb : Nat) (A B : List Int) : (mulRows P Ra Ca Cb A B).flatten.length = Ra * Cb := by
  rw [flat_length (mulRows_each P Ra Ca Cb A B), mulRows_length]
theorem mulRows_flat_getD {P : Int} {Ra Ca Cb : Nat} {A B : List Int} {t : Nat} (h : t < Ra * Cb) : (mulRows P Ra Ca Cb A B).flatten.getD t 0 = mulAt Ca Cb A B (t / Cb) (t % Cb) % P := by
  have hC : 0 < Cb := by
    rcases Nat.eq_zero_or_pos Cb with h0 | h0
    · rw [h0] at h; omega
    · exact h0
  have hd : t / Cb < Ra := Nat.div_lt_of_lt_mul (by rwa [Nat.mul_comm])
  have hm : t % Cb < Cb := Nat.mod_lt _ hC
  rw [flat_getD hC (mulRows_each P Ra Ca Cb A B)]
  simp [mulRows, List.getD_eq_getElem?_getD, hd, hm]

/-- the product, if there is one -/
def mulFits (a b : Mx) : Bool := mxOk a.P a.R a.C a.D && mxOk b.P b.R b.C b.D && decide (a.P = b.P) && decide (a.C = b.R)
def mulMx (a b : Mx) : Mx := if mulFits a b then ⟨a.P, a.R, b.C, (mulRows a.P a.R.toNat a.C.toNat b.C.toNat a.D b.D).flatten⟩ else mxZero

theorem specMatrixOk_b (P R C : Int) (d : Value) (D : List Int) (b : Bool) (hb : mxOk P R C D = b) (w : World) (h : Ints w d D) :
    Calls Try.prog 59 #[.agg #[.int .i64 P, .int .i64 R, .int .i64 C, d]] w fun e w' => e = .returned (.bool b) ∧ Below w.heap.size w w' := hb ▸ specMatrixOk_any P R C d D w h
theorem implMatrixOk_b (P R C : Int) (d : Value) (D : List Int) (b : Bool) (hb : mxOk P R C D = b) (w : World) (h : Ints w d D) :
    Calls Try.prog 63 #[.agg #[.int .i64 P, .int .i64 R, .int .i64 C, d]] w fun e w' => e = .returned (.bool b) ∧ Below w.heap.size w w' := hb ▸ implMatrixOk_any P R C d D w h

theorem mulFits_no1 {a b : Mx} (h : mxOk a.P a.R a.C a.D = false) : mulFits a b = false := by simp [mulFits, h]
theorem mulFits_no2 {a b : Mx} (h : mxOk b.P b.R b.C b.D = false) : mulFits a b = false := by simp [mulFits, h]
theorem mulFits_no3 {a b : Mx} (h : a.P ≠ b.P) : mulFits a b = false := by simp [mulFits, h]
theorem mulFits_no4 {a b : Mx} (h : a.C ≠ b.R) : mulFits a b = false := by simp [mulFits, h]
theorem mulMx_no {a b : Mx} (h : mulFits a b = false) : mulMx a b = mxZero := by simp [mulMx, h]

/-- what a matrix that is right says of its numbers -/
theorem mxOk_facts {P R C : Int} {D : List Int} (h : mxOk P R C D = true) : ∃ r c : Nat, R = r ∧ C = c ∧ r ≤ 7 ∧ 1 ≤ c ∧ c ≤ 7 ∧ D.length = r * c ∧ (∀ x ∈ D, 0 ≤ x ∧ x < P) ∧ 2 ≤ P ∧ P ≤ 7 ∧ primeOk P = true := by
  obtain ⟨h1, ⟨h2, h3⟩, ⟨h4, h5⟩, h6, h7⟩ := of_decide_eq_true h
  obtain ⟨r, rfl⟩ := Int.eq_ofNat_of_zero_le h2
  obtain ⟨c, rfl⟩ := Int.eq_ofNat_of_zero_le (show (0 : Int) ≤ C by omega)
  have := primeOk_range h1
  refine ⟨r, c, rfl, rfl, by omega, by omega, by omega, ?_, h7, this.1, this.2, h1⟩
  rw [← Int.natCast_mul] at h6
  exact Int.ofNat.inj h6

/-- the two boxes of the arguments and the block of the result, as the walks of functions of two matrices meet them -/
def Boxes3 (w : World) (T Tz : TypeId) (a b : Mx) (da db : Value) (wr : World) : Prop :=
  wr.heap[w.heap.size]? = some (.cells #[.int .i64 a.P, .int .i64 a.R, .int .i64 a.C, da] T (0, 0)) ∧
  wr.heap[w.heap.size + 1]? = some (.cells #[.int .i64 b.P, .int .i64 b.R, .int .i64 b.C, db] T (0, 0)) ∧
  wr.heap[w.heap.size + 1 + 1]? = some (.cells #[.int .i64 0, .int .i64 0, .int .i64 0, .slice none 0 0] Tz (0, 0)) ∧ Below w.heap.size w wr

theorem boxes3_start (w : World) (T Tz : TypeId) (a b : Mx) (da db : Value) : Boxes3 w T Tz a b da db
    (((w.alloc (.cells #[.int .i64 a.P, .int .i64 a.R, .int .i64 a.C, da] T)).alloc (.cells #[.int .i64 b.P, .int .i64 b.R, .int .i64 b.C, db] T)).alloc (.cells #[.int .i64 0, .int .i64 0, .int .i64 0, .slice none 0 0] Tz)) := by
  refine ⟨?_, ?_, ?_, below_alloc3 _ _ _ _⟩
  · rw [heap_alloc_low _ _ (by simp; omega), heap_alloc_low _ _ (by simp)]; exact heap_alloc_top _ _
  · rw [heap_alloc_low _ _ (by simp)]; exact heap_alloc_at _ _ (by simp)
  · exact heap_alloc_at _ _ (by simp)
theorem Boxes3.later {w : World} {T Tz : TypeId} {a b : Mx} {da db : Value} {wr wx : World} (h : Boxes3 w T Tz a b da db wr) (hb : Below wr.heap.size wr wx) : Boxes3 w T Tz a b da db wx :=
  ⟨blk_later h.1 hb, blk_later h.2.1 hb, blk_later h.2.2.1 hb, h.2.2.2.trans (hb.mono h.2.2.2.size)⟩

/-- what holds in the loops of the product: the first T numbers of it are laid -/
def MulI (w : World) (M Ti : TypeId) (a b : Mx) (da db : Value) (ra ca cb q g N T : Nat) (wr : World) : Prop :=
  Boxes3 w M M a b da db wr ∧ wr.heap[q]? = some (.cells #[.int .i64 a.P, .int .i64 (ra : Int), .int .i64 (cb : Int), .slice (some ⟨g, 0, none⟩) N N] M (0, 0)) ∧
  wr.rowIs g Ti N (fun t => .int .i64 (if t < T then mulAt ca cb a.D b.D (t / cb) (t % cb) % a.P else 0))

theorem MulI.later {w : World} {M Ti : TypeId} {a b : Mx} {da db : Value} {ra ca cb q g N T : Nat} {wr wx : World} (h : MulI w M Ti a b da db ra ca cb q g N T wr) (hb : Below wr.heap.size wr wx) : MulI w M Ti a b da db ra ca cb q g N T wx :=
  ⟨h.1.later hb, blk_later h.2.1 hb, h.2.2.of_block (hb.block _ h.2.2.lt)⟩
theorem MulI.set {w : World} {M Ti : TypeId} {a b : Mx} {da db : Value} {ra ca cb q g N T i j : Nat} {wr : World} (h : MulI w M Ti a b da db ra ca cb q g N T wr) (hq : q ≠ g) (hg : w.heap.size + 1 + 1 < g) (hj : j < cb) (hT : T = i * cb + j)
    (x : Int) (hx : x = mulAt ca cb a.D b.D i j % a.P) : MulI w M Ti a b da db ra ca cb q g N (T + 1) (wr.setCell ⟨g, T, none⟩ (.int .i64 x)) := by
  obtain ⟨⟨h1, h2, h3, h4⟩, h5, h6⟩ := h
  refine ⟨⟨?_, ?_, ?_, h4.setCell (by show w.heap.size ≤ g; omega) _⟩, ?_, (h6.set T _).congr fun t ht => ?_⟩
  · rw [Below.heap_setCell _ _ _ _ (by show _ ≠ g; omega)]; exact h1
  · rw [Below.heap_setCell _ _ _ _ (by show _ ≠ g; omega)]; exact h2
  · rw [Below.heap_setCell _ _ _ _ (by show _ ≠ g; omega)]; exact h3
  · rw [Below.heap_setCell _ _ _ _ (by show _ ≠ g; omega)]; exact h5
  · obtain ⟨e1, e2⟩ := div_at (k := i) hj
    by_cases e : t = T
    · subst e; simp only [if_true, show t < t + 1 by omega]; rw [hT, e1, e2, hx]
    · simp only [e, if_false]
      by_cases e3 : t < T
      · simp only [e3, if_true, show t < T + 1 by omega]
      · simp only [e3, if_false, show ¬ t < T + 1 by omega]

theorem mulMx_len (a b : Mx) : (mulMx a b).D.length ≤ 1000000 := by
  unfold mulMx
  split
  · rename_i h
    unfold mulFits at h
    simp only [Bool.and_eq_true] at h
    obtain ⟨ra, ca, e1, e2, h1, _, h2, _⟩ := mxOk_facts h.1.1.1
    obtain ⟨rb, cb, e3, e4, h3, _, h4, _⟩ := mxOk_facts h.1.1.2
    show (mulRows _ _ _ _ _ _).flatten.length ≤ _
    rw [mulRows_flat_length, e1, e4]
    have := Nat.mul_le_mul h1 h4
    simp only [Int.toNat_natCast]
    omega
  · simp [mxZero]

end Go.Proofs.Ytejoapielndnnaa
