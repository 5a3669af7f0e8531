/-
  The dimension of what first rows of two matrices have in common, as a property; a list that is known by a property.
  PositionOf, on both sides.
  RelativePosition, on both sides.
  The normal form of a flag: the reference's, walked.
  The normal form of a flag: the program's, walked.
  NormalFlag and FlagPerm, on both sides.
  Positions of flags with the same members: plain law.
-/
import Derived.Test.YtpfefjdefopccaaJ8
import Derived.Test.YtpfefjdefopccaaJ6
import Derived.Test.YtpfefjdefopccaaJ4
import Derived.Test.YtpfefjdefopccaaJ7
namespace Go.Proofs.Ytpfefjdefopccaa
set_option linter.all false
open Go.RowKit

/-- a list that is known by a property, or none -/
def LsQ (Q : List Int → Prop) (l : List Int) : Prop := Q l ∨ ((∀ m, ¬ Q m) ∧ l = [])
theorem LsQ.spec (Q : List Int → Prop) : LsQ Q (Classical.epsilon (LsQ Q)) := by
  refine Classical.epsilon_spec (p := LsQ Q) ?_
  by_cases h : ∃ m, Q m
  · obtain ⟨m, h⟩ := h
    exact ⟨m, .inl h⟩
  · exact ⟨[], .inr ⟨fun m hq => h ⟨m, hq⟩, rfl⟩⟩
theorem LsQ.eps {Q : List Int → Prop} {m : List Int} (hone : ∀ m m', Q m → Q m' → m = m') (h : Q m) : m = Classical.epsilon (LsQ Q) := by
  rcases LsQ.spec Q with h2 | ⟨h2, _⟩
  · exact hone _ _ h h2
  · exact absurd h (h2 m)
theorem LsQ.len {Q : List Int → Prop} {n : Nat} (h : ∀ m, Q m → m.length ≤ n) : (Classical.epsilon (LsQ Q)).length ≤ n := by
  rcases LsQ.spec Q with h2 | ⟨_, h2⟩
  · exact h _ h2
  · rw [h2]; exact Nat.zero_le _

/-- eight cells that are read, where what changed lies from B on -/
theorem keep8B {w W W' : World} {B b1 b2 o0 o1 o2 o3 o4 o5 o6 o7 : Nat} {v0 v1 v2 v3 v4 v5 v6 v7 : Value} (hb : Below B W W') (hB1 : b1 < B) (hB2 : b2 < B) (hw : w.heap.size ≤ B)
    (h : (W.cell? ⟨b1, o0, none⟩ = some v0 ∧ W.cell? ⟨b1, o1, none⟩ = some v1 ∧ W.cell? ⟨b1, o2, none⟩ = some v2 ∧ W.cell? ⟨b1, o3, none⟩ = some v3 ∧ W.cell? ⟨b2, o4, none⟩ = some v4 ∧ W.cell? ⟨b2, o5, none⟩ = some v5 ∧ W.cell? ⟨b2, o6, none⟩ = some v6 ∧ W.cell? ⟨b2, o7, none⟩ = some v7) ∧ Below w.heap.size w W) :
    (W'.cell? ⟨b1, o0, none⟩ = some v0 ∧ W'.cell? ⟨b1, o1, none⟩ = some v1 ∧ W'.cell? ⟨b1, o2, none⟩ = some v2 ∧ W'.cell? ⟨b1, o3, none⟩ = some v3 ∧ W'.cell? ⟨b2, o4, none⟩ = some v4 ∧ W'.cell? ⟨b2, o5, none⟩ = some v5 ∧ W'.cell? ⟨b2, o6, none⟩ = some v6 ∧ W'.cell? ⟨b2, o7, none⟩ = some v7) ∧ Below w.heap.size w W' := by
  obtain ⟨⟨h0, h1, h2, h3, h4, h5, h6, h7⟩, hB⟩ := h
  have e1 : W'.heap[b1]? = W.heap[b1]? := hb.block _ hB1
  have e2 : W'.heap[b2]? = W.heap[b2]? := hb.block _ hB2
  refine ⟨⟨?_, ?_, ?_, ?_, ?_, ?_, ?_, ?_⟩, hB.trans (hb.mono hw)⟩
  · rw [World.cell?_of_block (w := W) e1]; exact h0
  · rw [World.cell?_of_block (w := W) e1]; exact h1
  · rw [World.cell?_of_block (w := W) e1]; exact h2
  · rw [World.cell?_of_block (w := W) e1]; exact h3
  · rw [World.cell?_of_block (w := W) e2]; exact h4
  · rw [World.cell?_of_block (w := W) e2]; exact h5
  · rw [World.cell?_of_block (w := W) e2]; exact h6
  · rw [World.cell?_of_block (w := W) e2]; exact h7
theorem two_lt {w W : World} {c : Prop} {B : Nat} (hs : B ≤ w.heap.size) {w0 : World} (h : c ∧ Below w0.heap.size w0 W) (hw : Below w.heap.size w W) : B ≤ W.heap.size := Nat.le_trans hs hw.size

/-- the dimension of what the first i rows of one and the first j rows of another one have in common, both being bases -/
def CmIs (P : Int) (C : Nat) (A : Nat → Nat → Int) (i : Nat) (B : Nat → Nat → Int) (j : Nat) (m : Int) : Prop := ∃ k : Nat, HasRank P C (i + j) (stackM i A B) k ∧ m = (i : Int) + (j : Int) - (k : Int)
theorem CmIs.one {P : Int} {C i j : Nat} {A B : Nat → Nat → Int} {m m' : Int} (hP : 2 ≤ P) (h : CmIs P C A i B j m) (h' : CmIs P C A i B j m') : m = m' := by
  obtain ⟨k, h1, rfl⟩ := h
  obtain ⟨k', h1', rfl⟩ := h'
  rw [h1.one hP h1']

theorem take_length_le {α : Type} {l : List α} {n : Nat} (h : n ≤ l.length) : (l.take n).length = n := by rw [List.length_take]; omega
theorem take_getD2 {l : List (List Int)} {n i : Nat} (h : i < n) : (l.take n).getD i [] = l.getD i [] := by simp [List.getD_eq_getElem?_getD, List.getElem?_take, h]
theorem RowsOk.take {p : Int} {C n : Nat} {a : List (List Int)} (ha : RowsOk p C a) : RowsOk p C (a.take n) := fun i hi => by
  rw [List.length_take] at hi
  rw [take_getD2 (by omega)]; exact ha i (by omega)
theorem RdII.take {w : World} {p : Option Addr} {n cap k : Nat} {rows : List (List Int)} (h : RdII w (.slice p n cap) rows) (hk : k ≤ rows.length) : RdII w (.slice p k cap) (rows.take k) := by
  obtain ⟨f, ⟨q, c, e, ⟨h1, h2⟩, h3⟩, h4⟩ := h
  injection e with e1 e2 e3
  subst e1 e3
  refine ⟨f, ⟨p, cap, ?_, ⟨by rw [List.length_take]; omega, h2⟩, fun h0 => ?_⟩, fun i hi => ?_⟩
  · rw [take_length_le hk]
  · rw [take_length_le hk] at h0
    obtain ⟨b, off, rfl, hx⟩ := h3 (by omega)
    exact ⟨b, off, rfl, fun j hj => hx j (by rw [List.length_take] at hj; omega)⟩
  · rw [List.length_take] at hi
    rw [take_getD2 (by omega)]
    exact h4 i (by omega)
theorem rowsOf_take {C R n : Nat} {D : List Int} (h : n ≤ R) : (rowsOf R C D).take n = rowsOf n C D := by
  apply List.ext_getElem
  · rw [List.length_take, rowsOf_length, rowsOf_length]; omega
  · intro i h1 h2
    rw [List.getElem_take]
    simp [rowsOf]
/-- common, of the first rows of two matrices -/
theorem common_b (P : Int) (AR BR C i j : Nat) (u v : Value) (DA DB : List Int) (w : World) (hu : RdII w u (rowsOf i C DA)) (hv : RdII w v (rowsOf j C DB)) (hlA : DA.length = AR * C) (hlB : DB.length = BR * C) (hrA : AR ≤ 7) (hrB : BR ≤ 7) (hC : C ≤ 7) (hi : i ≤ AR) (hj : j ≤ BR)
    (hgA : ∀ t, 0 ≤ DA.getD t 0 ∧ DA.getD t 0 < P) (hgB : ∀ t, 0 ≤ DB.getD t 0 ∧ DB.getD t 0 < P) (hpr : primeOk P = true) :
    Calls Try.prog 21 #[u, v, .int .i64 P] w fun e w' =>
      ∃ m : Int, e = .returned (.int .i64 m) ∧ CmIs P C (mf C fun t => DA.getD t 0) i (mf C fun t => DB.getD t 0) j m ∧ -100 ≤ m ∧ m ≤ 100 ∧ Below w.heap.size w w' := by
  have rA : RowsOk P C (rowsOf i C DA) := by
    have := rowsOf_ok (C := C) (R := AR) hlA hgA
    rw [← rowsOf_take hi]; exact this.take
  have rB : RowsOk P C (rowsOf j C DB) := by
    have := rowsOf_ok (C := C) (R := BR) hlB hgB
    rw [← rowsOf_take hj]; exact this.take
  refine (common_any P C u v _ _ w hu hv rA rB hpr (by rw [rowsOf_length]; omega) (by rw [rowsOf_length]; omega) (by omega)).mono ?_
  rintro e w' ⟨n, rfl, hn, hb⟩
  rw [rowsOf_length, rowsOf_length] at hn ⊢
  have e3 := hn.leC
  refine ⟨_, rfl, ⟨n, hn.same ?_, rfl⟩, by omega, by omega, hb⟩
  have := rowsOf_join (P := P) (R := i) (R' := j) (C := C) (D := DA) (D' := DB)
  rwa [List.length_append, rowsOf_length, rowsOf_length] at this

/-- a space and a flag that lie in one -/
def SfIs (P R C : Int) (D : List Int) (P' R' C' : Int) (D' : List Int) : Prop := IsSp P R C D ∧ IsFl P' R' C' D' ∧ P = P' ∧ C = C'
theorem IsSp.facts {P R C : Int} {D : List Int} (h : IsSp P R C D) : ∃ r c : Nat, R = r ∧ C = c ∧ r ≤ 7 ∧ 1 ≤ c ∧ c ≤ 7 ∧ D.length = r * c ∧ (∀ x ∈ D, 0 ≤ x ∧ x < P) ∧ 2 ≤ P ∧ P ≤ 7 ∧ primeOk P = true ∧ HasRank P c r (mf c fun t => D.getD t 0) r := by
  obtain ⟨h1, h2⟩ := h
  obtain ⟨r, c, rfl, rfl, hr, hc0, hc, hlD, hD, hP2, hP7, hpr⟩ := mxOk_facts h1
  unfold SpIs at h2
  rw [if_pos h1] at h2
  obtain ⟨n, M, q, hr2, _, e⟩ := h2
  injection e with _ e2 _ _
  obtain rfl := Int.ofNat.inj e2
  simp only [Int.toNat_natCast] at hr2
  exact ⟨r, c, rfl, rfl, hr, hc0, hc, hlD, hD, hP2, hP7, hpr, M, q, hr2⟩

end Go.Proofs.Ytpfefjdefopccaa

namespace Go.Proofs.Ytpfefjdefopccaa
set_option linter.all false
open Go.RowKit

/-- what has been found so far -/
def PoUp (P : Int) (C : Nat) (A : Nat → Nat → Int) (R : Nat) (B : Nat → Nat → Int) (l : List Int) : Prop := ∀ j, j < l.length → ∃ a b, CmIs P C A R B (j + 1) a ∧ CmIs P C A R B j b ∧ l.getD j 0 = a - b
/-- what PositionOf returns -/
def PoIs (P R C : Int) (D : List Int) (P' R' C' : Int) (D' : List Int) (l : List Int) : Prop :=
  (SfIs P R C D P' R' C' D' ∧ l.length = C.toNat ∧ PoUp P C.toNat (mf C.toNat fun t => D.getD t 0) R.toNat (mf C.toNat fun t => D'.getD t 0) l) ∨ (¬ SfIs P R C D P' R' C' D' ∧ l = [])
theorem PoIs.one {P R C : Int} {D : List Int} {P' R' C' : Int} {D' : List Int} (l l' : List Int) (h : PoIs P R C D P' R' C' D' l) (h' : PoIs P R C D P' R' C' D' l') : l = l' := by
  rcases h with ⟨t, h1, h2⟩ | ⟨t, rfl⟩
  · rcases h' with ⟨_, h1', h2'⟩ | ⟨t', _⟩
    · obtain ⟨_, _, _, _, _, _, _, _, _, hP, _⟩ := mxOk_facts t.1.1
      refine getD_eq_list (by rw [h1, h1']) fun j hj => ?_
      obtain ⟨a, b, k1, k2, k3⟩ := h2 j (by omega)
      obtain ⟨a', b', k1', k2', k3'⟩ := h2' j (by omega)
      rw [k3, k3', k1.one hP k1', k2.one hP k2']
    · exact absurd t t'
  · rcases h' with ⟨t', _⟩ | ⟨_, rfl⟩
    · exact absurd t' t
    · rfl
theorem PoIs.len {P R C : Int} {D : List Int} {P' R' C' : Int} {D' : List Int} (l : List Int) (h : PoIs P R C D P' R' C' D' l) : l.length ≤ 1000 := by
  rcases h with ⟨t, h1, h2⟩ | ⟨t, rfl⟩
  · obtain ⟨r, c, _, rfl, _, _, hc, _⟩ := mxOk_facts t.1.1
    rw [h1]; simp; omega
  · simp
theorem pos_len (P R C : Int) (D : List Int) (P' R' C' : Int) (D' : List Int) : (Classical.epsilon (LsQ (PoIs P R C D P' R' C' D'))).length ≤ 1000 := LsQ.len PoIs.len
theorem PoUp.snoc {P : Int} {C R j : Nat} {A B : Nat → Nat → Int} {l : List Int} {a b : Int} (h : PoUp P C A R B l) (hl : l.length = j) (h1 : CmIs P C A R B (j + 1) a) (h2 : CmIs P C A R B j b) : PoUp P C A R B (l ++ [a - b]) := fun t ht => by
  rw [List.length_append, List.length_singleton] at ht
  by_cases e : t < l.length
  · rw [show (l ++ [a - b]).getD t 0 = l.getD t 0 by simp [List.getD_eq_getElem?_getD, List.getElem?_append_left e]]
    exact h t e
  · obtain rfl : t = j := by omega
    subst hl
    exact ⟨a, b, h1, h2, by simp [List.getD_eq_getElem?_getD]⟩
theorem RdII.shapeR {w : World} {v : Value} {rows : List (List Int)} {n : Nat} (h : RdII w v rows) (hl : rows.length = n) : ∃ p cap, v = .slice p n cap ∧ n ≤ cap ∧ cap ≤ maxLen := by
  obtain ⟨f, ⟨p, cap, e, ⟨h1, h2⟩, _⟩, _⟩ := h
  subst hl
  exact ⟨p, cap, e, h1, h2⟩


/-- the boxes of two matrices still hold what they held, and nothing that was there has changed -/
def S2 (w : World) (P R1 C1 : Int) (d1 : Value) (P2 R2 C2 : Int) (d2 : Value) (W : World) : Prop :=
  (W.cell? ⟨w.heap.size, 0, none⟩ = some (.int .i64 P) ∧ W.cell? ⟨w.heap.size, 1, none⟩ = some (.int .i64 R1) ∧ W.cell? ⟨w.heap.size, 2, none⟩ = some (.int .i64 C1) ∧ W.cell? ⟨w.heap.size, 3, none⟩ = some d1 ∧
   W.cell? ⟨w.heap.size + 1, 0, none⟩ = some (.int .i64 P2) ∧ W.cell? ⟨w.heap.size + 1, 1, none⟩ = some (.int .i64 R2) ∧ W.cell? ⟨w.heap.size + 1, 2, none⟩ = some (.int .i64 C2) ∧ W.cell? ⟨w.heap.size + 1, 3, none⟩ = some d2) ∧ Below w.heap.size w W
theorem S2.later {w : World} {P R1 C1 : Int} {d1 : Value} {P2 R2 C2 : Int} {d2 : Value} {W W' : World} (h : S2 w P R1 C1 d1 P2 R2 C2 d2 W) (hb : Below W.heap.size W W') : S2 w P R1 C1 d1 P2 R2 C2 d2 W' := keep8 hb h
theorem S2.laterB {w : World} {P R1 C1 : Int} {d1 : Value} {P2 R2 C2 : Int} {d2 : Value} {W W' : World} {B : Nat} (h : S2 w P R1 C1 d1 P2 R2 C2 d2 W) (hb : Below B W W') (hB : w.heap.size + 1 + 1 ≤ B) : S2 w P R1 C1 d1 P2 R2 C2 d2 W' :=
  keep8B hb (by omega) (by omega) (by omega) h
theorem S2.size {w : World} {P R1 C1 : Int} {d1 : Value} {P2 R2 C2 : Int} {d2 : Value} {W : World} (h : S2 w P R1 C1 d1 P2 R2 C2 d2 W) : w.heap.size + 1 + 1 ≤ W.heap.size := by
  have := World.block_lt_of_cell? _ _ h.1.2.2.2.2.1
  exact this
theorem le_alloc {w W : World} {B : Nat} (o : Obj) (h : B ≤ w.heap.size) (hb : Below w.heap.size w W) : B ≤ (W.alloc o).heap.size := by
  have := hb.size
  simp only [size_alloc]
  omega
theorem S2.of_blk {w : World} {P R1 C1 : Int} {d1 : Value} {P2 R2 C2 : Int} {d2 : Value} {W : World} {T : TypeId} (h1 : W.heap[w.heap.size]? = some (.cells #[.int .i64 P, .int .i64 R1, .int .i64 C1, d1] T (0, 0)))
    (h2 : W.heap[w.heap.size + 1]? = some (.cells #[.int .i64 P2, .int .i64 R2, .int .i64 C2, d2] T (0, 0))) (hB : Below w.heap.size w W) : S2 w P R1 C1 d1 P2 R2 C2 d2 W := by
  obtain ⟨a0, a1, a2, a3, _, _⟩ := blk4 h1
  obtain ⟨b0, b1, b2, b3, _, _⟩ := blk4 h2
  exact ⟨⟨a0, a1, a2, a3, b0, b1, b2, b3⟩, hB⟩


end Go.Proofs.Ytpfefjdefopccaa

namespace Go.Proofs.Ytpfefjdefopccaa
set_option linter.all false
open Go.RowKit

/-- two flags that lie in one -/
def FfIs (P R C : Int) (D : List Int) (P' R' C' : Int) (D' : List Int) : Prop := IsFl P R C D ∧ IsFl P' R' C' D' ∧ P = P' ∧ C = C'
/-- the column at which row i of one comes in -/
def RpAt (P : Int) (C : Nat) (A B : Nat → Nat → Int) (i : Nat) (x : Int) : Prop :=
  ∃ j : Nat, x = j ∧ j < C ∧ (∃ a b, CmIs P C A (i + 1) B (j + 1) a ∧ CmIs P C A i B (j + 1) b ∧ a ≠ b) ∧ ∀ k, k < j → ∀ a b, CmIs P C A (i + 1) B (k + 1) a → CmIs P C A i B (k + 1) b → a = b
theorem CmIs.ex {P : Int} {C i j : Nat} {A B : Nat → Nat → Int} (hp : primeOk P = true) (ha : ∀ t c, t < i → c < C → 0 ≤ A t c ∧ A t c < P) (hb : ∀ t c, t < j → c < C → 0 ≤ B t c ∧ B t c < P) : ∃ m, CmIs P C A i B j m := by
  obtain ⟨f, _, h, _⟩ := ranks_ex hp (i + j) (stackM_rng ha hb)
  exact ⟨_, f (i + j), h _ (Nat.le_refl _), rfl⟩
theorem RpAt.one {P : Int} {C i : Nat} {A B : Nat → Nat → Int} {x x' : Int} (h : RpAt P C A B i x) (h' : RpAt P C A B i x') : x = x' := by
  obtain ⟨j, rfl, hj, ⟨a, b, h1, h2, h3⟩, h4⟩ := h
  obtain ⟨j', rfl, hj', ⟨a', b', h1', h2', h3'⟩, h4'⟩ := h'
  rcases Nat.lt_trichotomy j j' with h | h | h
  · exact absurd (h4' j h a b h1 h2) h3
  · rw [h]
  · exact absurd (h4 j' h a' b' h1' h2') h3'
/-- a row more: the dimension is the same or one more -/
theorem CmIs.step {P : Int} {C i j : Nat} {A B : Nat → Nat → Int} {a b : Int} (hp : primeOk P = true) (ha : ∀ c, c < C → 0 ≤ A i c ∧ A i c < P) (h : CmIs P C A (i + 1) B j a) (h' : CmIs P C A i B j b) : a = b ∨ a = b + 1 := by
  obtain ⟨k, h1, rfl⟩ := h
  obtain ⟨k', h1', rfl⟩ := h'
  rcases stack_step hp ha h1' h1 with e | e
  · right; omega
  · left; omega
theorem HasRank.stackB {P : Int} {C : Nat} {A B : Nat → Nat → Int} (hp : primeOk P = true) (ha : ∀ t c, c < C → 0 ≤ A t c ∧ A t c < P) (hb : ∀ t c, c < C → 0 ≤ B t c ∧ B t c < P) (h : HasRank P C C B C) :
    ∀ i k, HasRank P C (i + C) (stackM i A B) k → C ≤ k
  | 0, k, hk => by
    have h2 : HasRank P C C B k := by
      rw [Nat.zero_add] at hk
      exact hk.congr fun t c _ _ => by rw [stackM_ge (Nat.not_lt_zero _)]; rfl
    exact Nat.le_of_eq (h.one (primeOk_range hp).1 h2)
  | i + 1, k, hk => by
    obtain ⟨m, k0, h0, _⟩ := CmIs.ex (i := i) (j := C) hp (fun t c _ hc => ha t c hc) (fun t c _ hc => hb t c hc)
    have := HasRank.stackB hp ha hb h i k0 h0
    rcases stack_step hp (fun c hc => ha i c hc) h0 hk with e | e <;> omega
/-- at the last column the dimensions differ -/
theorem CmIs.last {P : Int} {C i : Nat} {A B : Nat → Nat → Int} {a b : Int} (hp : primeOk P = true) (ha : ∀ t c, c < C → 0 ≤ A t c ∧ A t c < P) (hb : ∀ t c, c < C → 0 ≤ B t c ∧ B t c < P) (h : HasRank P C C B C)
    (h1 : CmIs P C A (i + 1) B C a) (h2 : CmIs P C A i B C b) : a ≠ b := by
  obtain ⟨k, k1, rfl⟩ := h1
  obtain ⟨k', k1', rfl⟩ := h2
  have e1 := HasRank.stackB hp ha hb h _ _ k1
  have e2 := HasRank.stackB hp ha hb h _ _ k1'
  have e3 := k1.leC
  have e4 := k1'.leC
  omega
theorem mf_rng {P : Int} {C : Nat} {D : List Int} (h : ∀ t, 0 ≤ D.getD t 0 ∧ D.getD t 0 < P) : ∀ t c, c < C → 0 ≤ mf C (fun t => D.getD t 0) t c ∧ mf C (fun t => D.getD t 0) t c < P := fun t c _ => h _

def RpUp (P : Int) (C : Nat) (A B : Nat → Nat → Int) (l : List Int) : Prop := ∀ i, i < l.length → RpAt P C A B i (l.getD i 0)
/-- what RelativePosition returns -/
def RpIs (P R C : Int) (D : List Int) (P' R' C' : Int) (D' : List Int) (l : List Int) : Prop :=
  (FfIs P R C D P' R' C' D' ∧ l.length = C.toNat ∧ RpUp P C.toNat (mf C.toNat fun t => D.getD t 0) (mf C.toNat fun t => D'.getD t 0) l) ∨ (¬ FfIs P R C D P' R' C' D' ∧ l = [])
theorem RpIs.one {P R C : Int} {D : List Int} {P' R' C' : Int} {D' : List Int} (l l' : List Int) (h : RpIs P R C D P' R' C' D' l) (h' : RpIs P R C D P' R' C' D' l') : l = l' := by
  rcases h with ⟨t, h1, h2⟩ | ⟨t, rfl⟩
  · rcases h' with ⟨_, h1', h2'⟩ | ⟨t', _⟩
    · exact getD_eq_list (by rw [h1, h1']) fun j hj => (h2 j (by omega)).one (h2' j (by omega))
    · exact absurd t t'
  · rcases h' with ⟨t', _⟩ | ⟨_, rfl⟩
    · exact absurd t' t
    · rfl
theorem RpIs.len {P R C : Int} {D : List Int} {P' R' C' : Int} {D' : List Int} (l : List Int) (h : RpIs P R C D P' R' C' D' l) : l.length ≤ 1000 := by
  rcases h with ⟨t, h1, h2⟩ | ⟨t, rfl⟩
  · obtain ⟨r, c, _, rfl, _, _, hc, _⟩ := mxOk_facts t.1.1
    rw [h1]; simp; omega
  · simp
theorem rel_len (P R C : Int) (D : List Int) (P' R' C' : Int) (D' : List Int) : (Classical.epsilon (LsQ (RpIs P R C D P' R' C' D'))).length ≤ 1000 := LsQ.len RpIs.len
theorem RpUp.snoc {P : Int} {C i : Nat} {A B : Nat → Nat → Int} {l : List Int} {x : Int} (h : RpUp P C A B l) (hl : l.length = i) (h1 : RpAt P C A B i x) : RpUp P C A B (l ++ [x]) := fun t ht => by
  rw [List.length_append, List.length_singleton] at ht
  by_cases e : t < l.length
  · rw [show (l ++ [x]).getD t 0 = l.getD t 0 by simp [List.getD_eq_getElem?_getD, List.getElem?_append_left e]]
    exact h t e
  · obtain rfl : t = i := by omega
    subst hl
    rw [show (l ++ [x]).getD l.length 0 = x by simp [List.getD_eq_getElem?_getD]]
    exact h1


set_option maxRecDepth 100000 in
set_option maxHeartbeats 4000000 in
theorem implRel_no1 (AP AR AC BP BR BC : Int) (dA dB : Value) (DA DB : List Int) (w : World) (hdA : Ints w dA DA) (hdB : Ints w dB DB) (ha : ¬ IsFl AP AR AC DA) :
    Calls Try.prog 6 #[.agg #[.int .i64 AP, .int .i64 AR, .int .i64 AC, dA], .agg #[.int .i64 BP, .int .i64 BR, .int .i64 BC, dB]] w fun e w' => RetI w [] e w' := by
  have Hka := Lib.hid ha
  clear ha
  have HdA := Lib.hid hdA
  obtain ⟨pA, kA, rfl, ⟨_, mA⟩, _⟩ := hdA
  unfold maxLen at mA
  have HdB := Lib.hid hdB
  obtain ⟨pB, kB, rfl, ⟨_, mB⟩, _⟩ := hdB
  unfold maxLen at mB
  obtain ⟨z0, z1⟩ := boxes_ab w (.cells #[.int .i64 AP, .int .i64 AR, .int .i64 AC, .slice pA DA.length kA] 26) (.cells #[.int .i64 BP, .int .i64 BR, .int .i64 BC, .slice pB DB.length kB] 26)
  have ZA1 := Lib.hid z0
  have ZB1 := Lib.hid z1
  clear z0 z1
  have HB1 := Lib.hid (below_alloc2 w (.cells #[.int .i64 AP, .int .i64 AR, .int .i64 AC, .slice pA DA.length kA] 26) (.cells #[.int .i64 BP, .int .i64 BR, .int .i64 BC, .slice pB DB.length kB] 26))
  go_enter Try.func6, Try.ntmps6
  go_wp2_with fail
  have hs1 : ((w.alloc (.cells #[.int .i64 AP, .int .i64 AR, .int .i64 AC, .slice pA DA.length kA] 26)).alloc (.cells #[.int .i64 BP, .int .i64 BR, .int .i64 BC, .slice pB DB.length kB] 26)).heap.size = w.heap.size + 1 + 1 := by simp
  generalize (w.alloc (.cells #[.int .i64 AP, .int .i64 AR, .int .i64 AC, .slice pA DA.length kA] 26)).alloc (.cells #[.int .i64 BP, .int .i64 BR, .int .i64 BC, .slice pB DB.length kB] 26) = w1 at *
  obtain ⟨cA0, cA1, cA2, cA3, cAf, cAz⟩ := blk4 ZA1.out
  go_wp2_with fail
  refine (implFlag_no _ _ _ _ _ Hka.out _ (HdA.out.below HB1.out)).mono ?_
  rintro e w2 ⟨rfl, hb⟩
  have hs2 := hb.size
  have HB2 := Lib.hid (HB1.out.trans (hb.mono HB1.out.size))
  have ZA2 := Lib.hid (blk_later ZA1.out hb)
  have ZB2 := Lib.hid (blk_later ZB1.out hb)
  clear hb ZA1 ZB1
  clear cA0 cA1 cA2 cA3 cAf cAz
  go_wp2_with fail
  go_ret
  refine ⟨_, rfl, ⟨World.ownsRow_nil _ _ _ _, fun k hk => by simp [Value.ownBlock] at hk⟩, HB2.out⟩

set_option maxRecDepth 100000 in
set_option maxHeartbeats 4000000 in
theorem implRel_no2 (AP AR AC BP BR BC : Int) (dA dB : Value) (DA DB : List Int) (w : World) (hdA : Ints w dA DA) (hdB : Ints w dB DB) (ha : IsFl AP AR AC DA) (hb : ¬ IsFl BP BR BC DB) :
    Calls Try.prog 6 #[.agg #[.int .i64 AP, .int .i64 AR, .int .i64 AC, dA], .agg #[.int .i64 BP, .int .i64 BR, .int .i64 BC, dB]] w fun e w' => RetI w [] e w' := by
  have Hka := Lib.hid ha
  have Hkb := Lib.hid hb
  clear ha hb
  have HdA := Lib.hid hdA
  obtain ⟨pA, kA, rfl, ⟨_, mA⟩, _⟩ := hdA
  unfold maxLen at mA
  have HdB := Lib.hid hdB
  obtain ⟨pB, kB, rfl, ⟨_, mB⟩, _⟩ := hdB
  unfold maxLen at mB
  obtain ⟨z0, z1⟩ := boxes_ab w (.cells #[.int .i64 AP, .int .i64 AR, .int .i64 AC, .slice pA DA.length kA] 26) (.cells #[.int .i64 BP, .int .i64 BR, .int .i64 BC, .slice pB DB.length kB] 26)
  have ZA1 := Lib.hid z0
  have ZB1 := Lib.hid z1
  clear z0 z1
  have HB1 := Lib.hid (below_alloc2 w (.cells #[.int .i64 AP, .int .i64 AR, .int .i64 AC, .slice pA DA.length kA] 26) (.cells #[.int .i64 BP, .int .i64 BR, .int .i64 BC, .slice pB DB.length kB] 26))
  go_enter Try.func6, Try.ntmps6
  go_wp2_with fail
  have hs1 : ((w.alloc (.cells #[.int .i64 AP, .int .i64 AR, .int .i64 AC, .slice pA DA.length kA] 26)).alloc (.cells #[.int .i64 BP, .int .i64 BR, .int .i64 BC, .slice pB DB.length kB] 26)).heap.size = w.heap.size + 1 + 1 := by simp
  generalize (w.alloc (.cells #[.int .i64 AP, .int .i64 AR, .int .i64 AC, .slice pA DA.length kA] 26)).alloc (.cells #[.int .i64 BP, .int .i64 BR, .int .i64 BC, .slice pB DB.length kB] 26) = w1 at *
  obtain ⟨cA0, cA1, cA2, cA3, cAf, cAz⟩ := blk4 ZA1.out
  go_wp2_with fail
  refine (implFlag_yes _ _ _ _ _ Hka.out _ (HdA.out.below HB1.out)).mono ?_
  rintro e w2 ⟨rfl, hb⟩
  have hs2 := hb.size
  have HB2 := Lib.hid (HB1.out.trans (hb.mono HB1.out.size))
  have ZA2 := Lib.hid (blk_later ZA1.out hb)
  have ZB2 := Lib.hid (blk_later ZB1.out hb)
  clear hb ZA1 ZB1
  clear cA0 cA1 cA2 cA3 cAf cAz
  obtain ⟨cB0, cB1, cB2, cB3, cBf, cBz⟩ := blk4 ZB2.out
  go_wp2_with fail
  refine (implFlag_no _ _ _ _ _ Hkb.out _ (HdB.out.below HB2.out)).mono ?_
  rintro e w3 ⟨rfl, hb⟩
  have hs3 := hb.size
  have HB3 := Lib.hid (HB2.out.trans (hb.mono HB2.out.size))
  have ZA3 := Lib.hid (blk_later ZA2.out hb)
  have ZB3 := Lib.hid (blk_later ZB2.out hb)
  clear hb ZA2 ZB2
  clear cB0 cB1 cB2 cB3 cBf cBz
  go_wp2_with fail
  go_ret
  refine ⟨_, rfl, ⟨World.ownsRow_nil _ _ _ _, fun k hk => by simp [Value.ownBlock] at hk⟩, HB3.out⟩

set_option maxRecDepth 100000 in
set_option maxHeartbeats 4000000 in
theorem implRel_no3 (AP AR AC BP BR BC : Int) (dA dB : Value) (DA DB : List Int) (w : World) (hdA : Ints w dA DA) (hdB : Ints w dB DB) (ha : IsFl AP AR AC DA) (hb : IsFl BP BR BC DB) (hf : fitOk AP AC BP BC = false) :
    Calls Try.prog 6 #[.agg #[.int .i64 AP, .int .i64 AR, .int .i64 AC, dA], .agg #[.int .i64 BP, .int .i64 BR, .int .i64 BC, dB]] w fun e w' => RetI w [] e w' := by
  have Hka := Lib.hid ha
  have Hkb := Lib.hid hb
  clear ha hb
  have Hf := Lib.hid hf
  clear hf
  have HdA := Lib.hid hdA
  obtain ⟨pA, kA, rfl, ⟨_, mA⟩, _⟩ := hdA
  unfold maxLen at mA
  have HdB := Lib.hid hdB
  obtain ⟨pB, kB, rfl, ⟨_, mB⟩, _⟩ := hdB
  unfold maxLen at mB
  obtain ⟨z0, z1⟩ := boxes_ab w (.cells #[.int .i64 AP, .int .i64 AR, .int .i64 AC, .slice pA DA.length kA] 26) (.cells #[.int .i64 BP, .int .i64 BR, .int .i64 BC, .slice pB DB.length kB] 26)
  have ZA1 := Lib.hid z0
  have ZB1 := Lib.hid z1
  clear z0 z1
  have HB1 := Lib.hid (below_alloc2 w (.cells #[.int .i64 AP, .int .i64 AR, .int .i64 AC, .slice pA DA.length kA] 26) (.cells #[.int .i64 BP, .int .i64 BR, .int .i64 BC, .slice pB DB.length kB] 26))
  go_enter Try.func6, Try.ntmps6
  go_wp2_with fail
  have hs1 : ((w.alloc (.cells #[.int .i64 AP, .int .i64 AR, .int .i64 AC, .slice pA DA.length kA] 26)).alloc (.cells #[.int .i64 BP, .int .i64 BR, .int .i64 BC, .slice pB DB.length kB] 26)).heap.size = w.heap.size + 1 + 1 := by simp
  generalize (w.alloc (.cells #[.int .i64 AP, .int .i64 AR, .int .i64 AC, .slice pA DA.length kA] 26)).alloc (.cells #[.int .i64 BP, .int .i64 BR, .int .i64 BC, .slice pB DB.length kB] 26) = w1 at *
  obtain ⟨cA0, cA1, cA2, cA3, cAf, cAz⟩ := blk4 ZA1.out
  go_wp2_with fail
  refine (implFlag_yes _ _ _ _ _ Hka.out _ (HdA.out.below HB1.out)).mono ?_
  rintro e w2 ⟨rfl, hb⟩
  have hs2 := hb.size
  have HB2 := Lib.hid (HB1.out.trans (hb.mono HB1.out.size))
  have ZA2 := Lib.hid (blk_later ZA1.out hb)
  have ZB2 := Lib.hid (blk_later ZB1.out hb)
  clear hb ZA1 ZB1
  clear cA0 cA1 cA2 cA3 cAf cAz
  obtain ⟨cB0, cB1, cB2, cB3, cBf, cBz⟩ := blk4 ZB2.out
  go_wp2_with fail
  refine (implFlag_yes _ _ _ _ _ Hkb.out _ (HdB.out.below HB2.out)).mono ?_
  rintro e w3 ⟨rfl, hb⟩
  have hs3 := hb.size
  have HB3 := Lib.hid (HB2.out.trans (hb.mono HB2.out.size))
  have ZA3 := Lib.hid (blk_later ZA2.out hb)
  have ZB3 := Lib.hid (blk_later ZB2.out hb)
  clear hb ZA2 ZB2
  clear cB0 cB1 cB2 cB3 cBf cBz
  obtain ⟨cA0, cA1, cA2, cA3, cAf, cAz⟩ := blk4 ZA3.out
  obtain ⟨cB0, cB1, cB2, cB3, cBf, cBz⟩ := blk4 ZB3.out
  go_wp2_with fail
  refine (fitTogether_any _ _ _ _ _ _ _ _ DA DB _ (HdA.out.below HB3.out) (HdB.out.below HB3.out)).mono ?_
  rintro e w4 ⟨rfl, hb⟩
  have hs4 := hb.size
  have HB4 := Lib.hid (HB3.out.trans (hb.mono HB3.out.size))
  have ZA4 := Lib.hid (blk_later ZA3.out hb)
  have ZB4 := Lib.hid (blk_later ZB3.out hb)
  clear hb ZA3 ZB3
  clear cA0 cA1 cA2 cA3 cAf cAz cB0 cB1 cB2 cB3 cBf cBz
  rw [Hf.out]
  go_wp2_with fail
  go_ret
  refine ⟨_, rfl, ⟨World.ownsRow_nil _ _ _ _, fun k hk => by simp [Value.ownBlock] at hk⟩, HB4.out⟩

set_option maxRecDepth 100000 in
set_option maxHeartbeats 16000000 in
theorem implRel_yes (AP AR AC BP BR BC : Int) (dA dB : Value) (DA DB : List Int) (w : World) (hdA : Ints w dA DA) (hdB : Ints w dB DB) (h : FfIs AP AR AC DA BP BR BC DB) :
    Calls Try.prog 6 #[.agg #[.int .i64 AP, .int .i64 AR, .int .i64 AC, dA], .agg #[.int .i64 BP, .int .i64 BR, .int .i64 BC, dB]] w fun e w' => ∃ l, RetI w l e w' ∧ l.length = AC.toNat ∧ RpUp AP AC.toNat (mf AC.toNat fun t => DA.getD t 0) (mf AC.toNat fun t => DB.getD t 0) l := by
  obtain ⟨hs, hf, hPe, hCe⟩ := h
  subst hPe hCe
  obtain ⟨c, rfl, rfl, hc0, hc, hlA, hDA, hP2, hP7, hpr, hkA⟩ := hs.facts
  obtain ⟨n, rfl, e2, _, _, hlB, hDB, _, _, _, hkB⟩ := hf.facts
  obtain rfl := Int.ofNat.inj e2
  clear e2
  have Hka := Lib.hid hs
  have Hkb := Lib.hid hf
  have HgA := Lib.hid (fun t => getD_range hDA (by omega) t)
  have HgB := Lib.hid (fun t => getD_range hDB (by omega) t)
  have HlA := Lib.hid hlA
  have HlB := Lib.hid hlB
  have Hpr := Lib.hid hpr
  have HkA := Lib.hid hkA
  have HkB := Lib.hid hkB
  clear hs hf hlA hlB hDA hDB hpr hkA hkB
  have Hf := Lib.hid (show fitOk AP c AP c = true by simp [fitOk])
  simp only [Int.toNat_natCast]
  have HdA := Lib.hid hdA
  obtain ⟨pA, kA, rfl, ⟨_, mA⟩, _⟩ := hdA
  unfold maxLen at mA
  have HdB := Lib.hid hdB
  obtain ⟨pB, kB, rfl, ⟨_, mB⟩, _⟩ := hdB
  unfold maxLen at mB
  obtain ⟨z0, z1⟩ := boxes_ab w (.cells #[.int .i64 AP, .int .i64 (c : Int), .int .i64 (c : Int), .slice pA DA.length kA] 26) (.cells #[.int .i64 AP, .int .i64 (c : Int), .int .i64 (c : Int), .slice pB DB.length kB] 26)
  have ZA1 := Lib.hid z0
  have ZB1 := Lib.hid z1
  clear z0 z1
  have HB1 := Lib.hid (below_alloc2 w (.cells #[.int .i64 AP, .int .i64 (c : Int), .int .i64 (c : Int), .slice pA DA.length kA] 26) (.cells #[.int .i64 AP, .int .i64 (c : Int), .int .i64 (c : Int), .slice pB DB.length kB] 26))
  go_enter Try.func6, Try.ntmps6
  go_wp2_with fail
  have hs1 : ((w.alloc (.cells #[.int .i64 AP, .int .i64 (c : Int), .int .i64 (c : Int), .slice pA DA.length kA] 26)).alloc (.cells #[.int .i64 AP, .int .i64 (c : Int), .int .i64 (c : Int), .slice pB DB.length kB] 26)).heap.size = w.heap.size + 1 + 1 := by simp
  generalize (w.alloc (.cells #[.int .i64 AP, .int .i64 (c : Int), .int .i64 (c : Int), .slice pA DA.length kA] 26)).alloc (.cells #[.int .i64 AP, .int .i64 (c : Int), .int .i64 (c : Int), .slice pB DB.length kB] 26) = w1 at *
  obtain ⟨cA0, cA1, cA2, cA3, cAf, cAz⟩ := blk4 ZA1.out
  go_wp2_with fail
  refine (implFlag_yes _ _ _ _ _ Hka.out _ (HdA.out.below HB1.out)).mono ?_
  rintro e w2 ⟨rfl, hb⟩
  have hs2 := hb.size
  have HB2 := Lib.hid (HB1.out.trans (hb.mono HB1.out.size))
  have ZA2 := Lib.hid (blk_later ZA1.out hb)
  have ZB2 := Lib.hid (blk_later ZB1.out hb)
  clear hb ZA1 ZB1
  clear cA0 cA1 cA2 cA3 cAf cAz
  obtain ⟨cB0, cB1, cB2, cB3, cBf, cBz⟩ := blk4 ZB2.out
  go_wp2_with fail
  refine (implFlag_yes _ _ _ _ _ Hkb.out _ (HdB.out.below HB2.out)).mono ?_
  rintro e w3 ⟨rfl, hb⟩
  have hs3 := hb.size
  have HB3 := Lib.hid (HB2.out.trans (hb.mono HB2.out.size))
  have ZA3 := Lib.hid (blk_later ZA2.out hb)
  have ZB3 := Lib.hid (blk_later ZB2.out hb)
  clear hb ZA2 ZB2
  clear cB0 cB1 cB2 cB3 cBf cBz
  obtain ⟨cA0, cA1, cA2, cA3, cAf, cAz⟩ := blk4 ZA3.out
  obtain ⟨cB0, cB1, cB2, cB3, cBf, cBz⟩ := blk4 ZB3.out
  go_wp2_with fail
  refine (fitTogether_any _ _ _ _ _ _ _ _ DA DB _ (HdA.out.below HB3.out) (HdB.out.below HB3.out)).mono ?_
  rintro e w4 ⟨rfl, hb⟩
  have hs4 := hb.size
  have HB4 := Lib.hid (HB3.out.trans (hb.mono HB3.out.size))
  have ZA4 := Lib.hid (blk_later ZA3.out hb)
  have ZB4 := Lib.hid (blk_later ZB3.out hb)
  clear hb ZA3 ZB3
  clear cA0 cA1 cA2 cA3 cAf cAz cB0 cB1 cB2 cB3 cBf cBz
  rw [Hf.out]
  have HS0 : Hid (S2 w AP (c : Int) (c : Int) (.slice pA DA.length kA) AP (c : Int) (c : Int) (.slice pB DB.length kB) w4) := Lib.hid (S2.of_blk ZA4.out ZB4.out HB4.out)
  clear ZA4 ZB4
  go_wp2_with fail
  obtain ⟨⟨cA0, cA1, cA2, cA3, cB0, cB1, cB2, cB3⟩, hBw⟩ := HS0.out
  go_region_held3 (fun w' => (w'.cell? ⟨w.heap.size, 0, none⟩ = some (.int .i64 AP) ∧ w'.cell? ⟨w.heap.size, 1, none⟩ = some (.int .i64 (c : Int)) ∧ w'.cell? ⟨w.heap.size, 2, none⟩ = some (.int .i64 (c : Int)) ∧ w'.cell? ⟨w.heap.size, 3, none⟩ = some (.slice pA DA.length kA) ∧ w'.cell? ⟨w.heap.size + 1, 0, none⟩ = some (.int .i64 AP) ∧ w'.cell? ⟨w.heap.size + 1, 1, none⟩ = some (.int .i64 (c : Int)) ∧ w'.cell? ⟨w.heap.size + 1, 2, none⟩ = some (.int .i64 (c : Int)) ∧ w'.cell? ⟨w.heap.size + 1, 3, none⟩ = some (.slice pB DB.length kB)) ∧ Below w.heap.size w w')
    (first | exact ⟨⟨cA0, cA1, cA2, cA3, cB0, cB1, cB2, cB3⟩, hBw.drew⟩ | exact keep8 hb1 (by assumption))
    (first
      | (go_at_call_of 20 (Value.slice pA DA.length kA); refine (lines_any AP c c _ DA _ (held_ints HdA.out (by assumption)) (by omega) (by omega) hc0 HlA.out).mono ?_; rintro e w' ⟨u, rfl, ho, hb1⟩; have hrA := ho.rd; clear ho; obtain ⟨qA, gA, rfl, hgA1, hgA2⟩ := hrA.shapeR (rowsOf_length _ _ _))
      | (go_at_call_of 20 (Value.slice pB DB.length kB); refine (lines_any AP c c _ DB _ (held_ints HdB.out (by assumption)) (by omega) (by omega) hc0 HlB.out).mono ?_; rintro e w' ⟨u, rfl, ho, hb1⟩; have hrB := ho.rd; clear ho; obtain ⟨qB, gB, rfl, hgB1, hgB2⟩ := hrB.shapeR (rowsOf_length _ _ _); have hrA := (RdII.below hrA (by first | exact Below.refl _ _ | exact (Below.refl _ _).drew)).below hb1))
  have hS1 : S2 w AP (c : Int) (c : Int) (.slice pA DA.length kA) AP (c : Int) (c : Int) (.slice pB DB.length kB) _ := (by assumption)
  obtain ⟨wk, rfl⟩ : ∃ x : World, x = w' := ⟨_, rfl⟩
  unfold maxLen at hgA2 hgB2
  have HRA := Lib.hid hrA
  have HRB := Lib.hid hrB
  have HS1 := Lib.hid hS1
  clear hrA hrB hS1 hb1 cA0 cA1 cA2 cA3 cB0 cB1 cB2 cB3 hBw
  obtain ⟨⟨cA0, cA1, cA2, cA3, cB0, cB1, cB2, cB3⟩, hBw⟩ := HS1.out
  go_wp2_with fail
  clear cA0 cA1 cA2 cA3 cB0 cB1 cB2 cB3 hBw
  go_loopg [7, 8, 31] c (fun g s5 s8 s31 wr => ∃ (i : Nat) (l : List Int), i ≤ c ∧ g = c - i ∧ s31 = .int .i64 i ∧ Hid (l.length = i) ∧ Hid (S2 w AP (c : Int) (c : Int) (.slice pA DA.length kA) AP (c : Int) (c : Int) (.slice pB DB.length kB) wr) ∧ Hid (OwnI 3 wr (wk.heap.size) wr.heap.size s5 l) ∧ Hid (RpUp AP c (mf c fun t => DA.getD t 0) (mf c fun t => DB.getD t 0) l) ∧ Hid (Below wk.heap.size wk wr))
  case atStart =>
    have hm0 := OwnF.made0 wk 3 (iv [])
    refine ⟨0, [], Nat.zero_le _, rfl, rfl, rfl, HS1.out.later (below_alloc _ _), ?_, fun j hj => absurd hj (Nat.not_lt_zero _), below_alloc _ _⟩
    exact Lib.hid (OwnF.ints (xs := []) (hm0.mono (Nat.le_refl _) (by simp)))
  case round =>
    obtain ⟨i, l, hi, rfl, rfl, hil, hSi, hol, hup, hbk⟩ := hrel
    obtain ⟨wi, rfl⟩ : ∃ x : World, x = wr := ⟨_, rfl⟩
    obtain ⟨p5, k5, rfl, hk5, hk5b⟩ := hol.out.shape
    unfold maxLen at hk5b
    obtain ⟨⟨cA0, cA1, cA2, cA3, cB0, cB1, cB2, cB3⟩, hBw⟩ := hSi.out
    by_cases hic : i < c
    · have hic2 : (i : Int) < (c : Int) := by omega
      have hl5 : l.length ≤ 7 := by have := hil.out; omega
      have Hl1 := Lib.hid (show l.length + 1 ≤ maxLen by unfold maxLen; omega)
      have Hl2 := Lib.hid (show (l.length + 1) * 8 ≤ 140737488355328 by omega)
      go_wp2_with fail
      clear cA0 cA1 cA2 cA3 cB0 cB1 cB2 cB3 hBw
      go_loopg [7, 9, 36] c (fun g s7 s9 s36 wr => ∃ j : Nat, j ≤ c ∧ g = c - j ∧ s36 = .int .i64 j ∧ s7 = .slice p5 l.length k5 ∧ Hid (S2 w AP (c : Int) (c : Int) (.slice pA DA.length kA) AP (c : Int) (c : Int) (.slice pB DB.length kB) wr) ∧ Hid (Below wi.heap.size wi wr) ∧ Hid (∀ k, k < j → ∀ a b, CmIs AP c (mf c fun t => DA.getD t 0) (i + 1) (mf c fun t => DB.getD t 0) (k + 1) a → CmIs AP c (mf c fun t => DA.getD t 0) i (mf c fun t => DB.getD t 0) (k + 1) b → a = b))
      case atStart => exact ⟨0, Nat.zero_le _, rfl, rfl, rfl, hSi.out, Below.refl _ _, fun k hk => absurd hk (Nat.not_lt_zero _)⟩
      case round =>
        obtain ⟨j, hj, rfl, rfl, rfl, hS, hbi, hno⟩ := hrel
        obtain ⟨wj, rfl⟩ : ∃ x : World, x = wr := ⟨_, rfl⟩
        obtain ⟨⟨cA0, cA1, cA2, cA3, cB0, cB1, cB2, cB3⟩, hBw⟩ := hS.out
        by_cases hjc : j < c
        case neg =>
          obtain rfl : j = c := by omega
          exfalso
          obtain ⟨a, ha⟩ := CmIs.ex (i := i + 1) (j := j) (A := mf j fun t => DA.getD t 0) (B := mf j fun t => DB.getD t 0) Hpr.out (fun t x _ hx => mf_rng HgA.out t x hx) (fun t x _ hx => mf_rng HgB.out t x hx)
          obtain ⟨b, hb⟩ := CmIs.ex (i := i) (j := j) (A := mf j fun t => DA.getD t 0) (B := mf j fun t => DB.getD t 0) Hpr.out (fun t x _ hx => mf_rng HgA.out t x hx) (fun t x _ hx => mf_rng HgB.out t x hx)
          have e : j - 1 + 1 = j := by omega
          exact CmIs.last Hpr.out (mf_rng HgA.out) (mf_rng HgB.out) HkB.out ha hb (hno.out (j - 1) (by omega) a b (by rw [e]; exact ha) (by rw [e]; exact hb))
        have HRAj := Lib.hid (HRA.out.below (hbk.out.trans (hbi.out.mono hbk.out.size)))
        have HRBj := Lib.hid (HRB.out.below (hbk.out.trans (hbi.out.mono hbk.out.size)))
        have hj0 : (0 : Int) ≤ (j : Int) + 1 := by omega
        have hj1 : ((j : Int) + 1).toNat = j + 1 := by omega
        have hj2 : j + 1 ≤ gB := by omega
        have hj3 : (j : Int) + 1 ≤ (gB : Int) := by omega
        have hj4 : (j : Int) ≤ (gB : Int) := by omega
        have hj5 : j ≤ gB := by omega
        have hi0 : (0 : Int) ≤ (i : Int) + 1 := by omega
        have hi1 : ((i : Int) + 1).toNat = i + 1 := by omega
        have hi2 : i + 1 ≤ gA := by omega
        have hi3 : (i : Int) + 1 ≤ (gA : Int) := by omega
        have hi4 : (i : Int) ≤ (gA : Int) := by omega
        have hi5 : i ≤ gA := by omega
        have Hw1 := Lib.hid (show IntKind.i64.wrap ((j : Int) + 1) = (j : Int) + 1 from k64 (by omega) (by omega))
        have Hw2 := Lib.hid (show IntKind.i64.wrap ((i : Int) + 1) = (i : Int) + 1 from k64 (by omega) (by omega))
        go_wp2_with fail
        have hw1 := Hw1.out
        have hw2 := Hw2.out
        go_region_held3 (fun w' => (w'.cell? ⟨w.heap.size, 0, none⟩ = some (.int .i64 AP) ∧ w'.cell? ⟨w.heap.size, 1, none⟩ = some (.int .i64 (c : Int)) ∧ w'.cell? ⟨w.heap.size, 2, none⟩ = some (.int .i64 (c : Int)) ∧ w'.cell? ⟨w.heap.size, 3, none⟩ = some (.slice pA DA.length kA) ∧ w'.cell? ⟨w.heap.size + 1, 0, none⟩ = some (.int .i64 AP) ∧ w'.cell? ⟨w.heap.size + 1, 1, none⟩ = some (.int .i64 (c : Int)) ∧ w'.cell? ⟨w.heap.size + 1, 2, none⟩ = some (.int .i64 (c : Int)) ∧ w'.cell? ⟨w.heap.size + 1, 3, none⟩ = some (.slice pB DB.length kB)) ∧ Below w.heap.size w w')
          (first | exact ⟨⟨cA0, cA1, cA2, cA3, cB0, cB1, cB2, cB3⟩, hBw.drew⟩ | exact keep8 hb1 (by assumption))
          (first
            | (go_at_call_of 21 (Value.slice qA i gA); refine (common_b AP c c c (i) (j + 1) _ _ DA DB _ (by rw [← rowsOf_take (R := c) hi]; exact RdII.take (HRAj.out.below (by first | exact hbz | exact hbz.drew | exact Below.refl _ _ | exact (Below.refl _ _).drew)) (by rw [rowsOf_length]; exact hi)) (by rw [← rowsOf_take (R := c) hjc]; exact RdII.take (HRBj.out.below (by first | exact hbz | exact hbz.drew | exact Below.refl _ _ | exact (Below.refl _ _).drew)) (by rw [rowsOf_length]; exact hjc)) HlA.out HlB.out hc hc hc hi hjc HgA.out HgB.out Hpr.out).mono ?_; rintro e w' ⟨mb, rfl, hmb, hmb1, hmb2, hb1⟩; have hbz : Below wj.heap.size wj w' := (by first | exact below_trans hbz hb1 | exact below_trans hbz (below_of_drew hb1) | exact hb1 | exact below_of_drew hb1))
            | (go_at_call 21; refine (common_b AP c c c (i + 1) (j + 1) _ _ DA DB _ (by rw [← rowsOf_take (R := c) hic]; exact RdII.take (HRAj.out.below (by first | exact hbz | exact hbz.drew | exact Below.refl _ _ | exact (Below.refl _ _).drew)) (by rw [rowsOf_length]; exact hic)) (by rw [← rowsOf_take (R := c) hjc]; exact RdII.take (HRBj.out.below (by first | exact hbz | exact hbz.drew | exact Below.refl _ _ | exact (Below.refl _ _).drew)) (by rw [rowsOf_length]; exact hjc)) HlA.out HlB.out hc hc hc hic hjc HgA.out HgB.out Hpr.out).mono ?_; rintro e w' ⟨ma, rfl, hma, hma1, hma2, hb1⟩; have hbz : Below wj.heap.size wj w' := (by first | exact below_trans hbz hb1 | exact below_trans hbz (below_of_drew hb1) | exact hb1 | exact below_of_drew hb1)))
        have hS2 : S2 w AP (c : Int) (c : Int) (.slice pA DA.length kA) AP (c : Int) (c : Int) (.slice pB DB.length kB) _ := (by assumption)
        obtain ⟨wn, rfl⟩ : ∃ x : World, x = w' := ⟨_, rfl⟩
        have HS2 := Lib.hid hS2
        have Hbz := Lib.hid hbz
        have Hma := Lib.hid hma
        have Hmb := Lib.hid hmb
        have hst := CmIs.step Hpr.out (fun x hx => mf_rng HgA.out i x hx) hma hmb
        clear hS2 hbz hb1 hma hmb hw1 hw2 cA0 cA1 cA2 cA3 cB0 cB1 cB2 cB3 hBw
        by_cases hab : ma = mb
        · have hm0 : IntKind.i64.wrap (ma - mb) = 0 := by rw [k64 (by omega) (by omega), hab]; omega
          have heq : (IntKind.i64.wrap (ma - mb) == 1) = false := by rw [hm0]; rfl
          clear hm0
          go_wp2_with fail
          go_roundg (c - (j + 1))
          case measure => omega
          case rel =>
            refine ⟨j + 1, by omega, rfl, by go_num, rfl, HS2.out, hbi.out.trans (Hbz.out.mono hbi.out.size), fun k hk a b ha hb => ?_⟩
            by_cases e : k = j
            · subst e; rw [ha.one (primeOk_range Hpr.out).1 Hma.out, hb.one (primeOk_range Hpr.out).1 Hmb.out]; exact hab
            · exact hno.out k (by omega) a b ha hb
        · have hab1 : ma = mb + 1 := by omega
          have hm1 : IntKind.i64.wrap (ma - mb) = 1 := by rw [k64 (by omega) (by omega), hab1]; omega
          have heq : (IntKind.i64.wrap (ma - mb) == 1) = true := by rw [hm1]; rfl
          clear hm1 hab1
          have hrp : RpAt AP c (mf c fun t => DA.getD t 0) (mf c fun t => DB.getD t 0) i ((j : Nat) : Int) := ⟨j, rfl, hjc, ⟨ma, mb, Hma.out, Hmb.out, hab⟩, hno.out⟩
          have Hup2 := Lib.hid (hup.out.snoc hil.out hrp)
          have Hl3 := Lib.hid (show (l ++ [((j : Nat) : Int)]).length = i + 1 by rw [List.length_append, hil.out]; rfl)
          have Hol := Lib.hid (hol.out.below (hbi.out.trans (Hbz.out.mono hbi.out.size)))
          have hsk : wk.heap.size ≤ wi.heap.size := hbk.out.size
          have hsi : wi.heap.size ≤ wn.heap.size := Nat.le_trans hbi.out.size Hbz.out.size
          have Hb2 := Lib.hid (Below.trans hbk.out ((Below.trans hbi.out (Hbz.out.mono hbi.out.size)).mono hsk))
          clear hrp
          go_wp2_with (at_builtin; go_must (refine wpList_append_F rfl (.tmp 62) (.tmp 64) 24 rfl 3 (.int .i64 0) 8 Try.underlying24 info_int rfl wk.heap.size wi.heap.size _ l.length _ rfl (Hol.out.fn.below (below_alloc _ _)) (by simp; omega) (by simp; omega) _ _ _ rfl (rd_one _ _ _ rfl) (fun j _ => rfl) Hl1.out Hl2.out ?_; intro v' w' ho' hg'))
          have hol2 := OwnI.snoc1 ho'
          have hb3 : Below wk.heap.size wk w' := Hb2.out.trans (((below_alloc wn _).mono (by omega)).trans (grownBy_below hg' (OwnF.blocks (Hol.out.fn)) (Nat.le_refl _) (by simp; omega)))
          have hS3 := HS2.out.laterB (((below_alloc wn _).mono (by omega)).trans (grownBy_below hg' (OwnF.blocks (Hol.out.fn)) (Nat.le_refl _) (by simp; omega))) (S2.size HS1.out)
          go_roundg (c - (i + 1))
          case measure => omega
          case rel => exact ⟨i + 1, l ++ [((j : Nat) : Int)], hic, rfl, by go_num, Hl3.out, hS3, hol2, Hup2.out, hb3⟩
    · obtain rfl : i = c := by omega
      go_wp2_with fail
      go_ret
      have hsz : wk.heap.size ≤ wi.heap.size := hbk.out.size
      have hs0 := S2.size HS1.out
      exact ⟨l, ⟨_, rfl, hol.out.mono (by omega) (Nat.le_refl _), hBw⟩, hil.out, hup.out⟩

theorem implRel_ex (AP AR AC BP BR BC : Int) (dA dB : Value) (DA DB : List Int) (w : World) (hdA : Ints w dA DA) (hdB : Ints w dB DB) :
    Calls Try.prog 6 #[.agg #[.int .i64 AP, .int .i64 AR, .int .i64 AC, dA], .agg #[.int .i64 BP, .int .i64 BR, .int .i64 BC, dB]] w fun e w' => ∃ l, RpIs AP AR AC DA BP BR BC DB l ∧ RetI w l e w' := by
  by_cases h : FfIs AP AR AC DA BP BR BC DB
  · exact (implRel_yes AP AR AC BP BR BC dA dB DA DB w hdA hdB h).mono fun e w' ⟨l, r1, r2⟩ => ⟨l, .inl ⟨h, r2⟩, r1⟩
  rcases Classical.em (IsFl AP AR AC DA) with ha | ha
  · rcases Classical.em (IsFl BP BR BC DB) with hb | hb
    ·
      refine (implRel_no3 AP AR AC BP BR BC dA dB DA DB w hdA hdB ha hb ?_).mono fun e w' r => ⟨_, .inr ⟨h, rfl⟩, r⟩
      cases hf : fitOk AP AC BP BC with
      | false => rfl
      | true =>
        simp [fitOk] at hf
        exact absurd ⟨ha, hb, hf.1, hf.2⟩ h
    · exact (implRel_no2 AP AR AC BP BR BC dA dB DA DB w hdA hdB ha hb).mono fun e w' r => ⟨_, .inr ⟨h, rfl⟩, r⟩
  · exact (implRel_no1 AP AR AC BP BR BC dA dB DA DB w hdA hdB ha).mono fun e w' r => ⟨_, .inr ⟨h, rfl⟩, r⟩
theorem implRel_any (AP AR AC BP BR BC : Int) (dA dB : Value) (DA DB : List Int) (w : World) (hdA : Ints w dA DA) (hdB : Ints w dB DB) :
    Calls Try.prog 6 #[.agg #[.int .i64 AP, .int .i64 AR, .int .i64 AC, dA], .agg #[.int .i64 BP, .int .i64 BR, .int .i64 BC, dB]] w (RetI w (Classical.epsilon (LsQ (RpIs AP AR AC DA BP BR BC DB)))) :=
  (implRel_ex AP AR AC BP BR BC dA dB DA DB w hdA hdB).mono fun e w' ⟨l, h1, h2⟩ => LsQ.eps RpIs.one h1 ▸ h2

end Go.Proofs.Ytpfefjdefopccaa

namespace Go.Proofs.Ytpfefjdefopccaa
set_option linter.all false
open Go.RowKit

/-- what l7Normal returns -/
def RetNm (w : World) (P : Int) (n : Nat) (M0 : Nat → Nat → Int) (e : Ending) (w' : World) : Prop :=
  ∃ (u v : Value) (h : Nat → Int) (qf : Nat → Nat), e = .returned (.tuple #[.agg #[.int .i64 P, .int .i64 (n : Int), .int .i64 (n : Int), u], v]) ∧
    OwnF w' w.heap.size w'.heap.size 3 u (n * n) (fun t => .int .i64 (h t)) ∧ OwnF w' w.heap.size w'.heap.size 3 v n (fun k => .int .i64 (qf k : Int)) ∧ Below w.heap.size w w' ∧ NfUp P n M0 (mf n h) qf n

/-- seven cells that a region reads -/
theorem keep7 {W W' : World} {a0 a1 a2 a3 a4 a5 a6 : Addr} {v0 v1 v2 v3 v4 v5 v6 : Value} (hb : Below W.heap.size W W')
    (h : W.cell? a0 = some v0 ∧ W.cell? a1 = some v1 ∧ W.cell? a2 = some v2 ∧ W.cell? a3 = some v3 ∧ W.cell? a4 = some v4 ∧ W.cell? a5 = some v5 ∧ W.cell? a6 = some v6) :
    W'.cell? a0 = some v0 ∧ W'.cell? a1 = some v1 ∧ W'.cell? a2 = some v2 ∧ W'.cell? a3 = some v3 ∧ W'.cell? a4 = some v4 ∧ W'.cell? a5 = some v5 ∧ W'.cell? a6 = some v6 :=
  ⟨cell_below hb h.1, cell_below hb h.2.1, cell_below hb h.2.2.1, cell_below hb h.2.2.2.1, cell_below hb h.2.2.2.2.1, cell_below hb h.2.2.2.2.2.1, cell_below hb h.2.2.2.2.2.2⟩
theorem nm_fin {w wr : World} {T : TypeId} {P : Int} {n : Nat} {d : Value} {q : Nat} {p p5 : Option Addr} {k k5 N : Nat} {h : Nat → Int} {qf : Nat → Nat} {M0 : Nat → Nat → Int} (hN : N = n * n)
    (hrs : RS w T 3 P n n d q p k N h wr) (hpv : OwnF wr (q + 1) wr.heap.size 3 (.slice p5 n k5) n (fun k => .int .i64 (qf k : Int))) (hL : NfUp P n M0 (mf n h) qf n) :
    RetNm w P n M0 (.returned (.tuple #[.agg #[.int .i64 P, .int .i64 (n : Int), .int .i64 (n : Int), .slice p N k], .slice p5 n k5]))
      ((((wr.setCell ⟨w.heap.size + 1, 0, none⟩ (.int .i64 P)).setCell ⟨w.heap.size + 1, 1, none⟩ (.int .i64 (n : Int))).setCell ⟨w.heap.size + 1, 2, none⟩ (.int .i64 (n : Int))).setCell ⟨w.heap.size + 1, 3, none⟩ (.slice p N k)) := by
  obtain ⟨a1, a2, a3, a4, a5, a6⟩ := hrs
  have hq := blk_lt a3
  refine ⟨_, _, h, qf, rfl, ?_, ?_, below_set4 a5 (by omega) _ _ _ _, hL⟩
  · subst hN
    exact ((((a4.setCell (.inl (by show w.heap.size + 1 < _; omega)) _).setCell (.inl (by show w.heap.size + 1 < _; omega)) _).setCell (.inl (by show w.heap.size + 1 < _; omega)) _).setCell (.inl (by show w.heap.size + 1 < _; omega)) _).mono (by omega) (by simp only [size_setCell]; omega)
  · exact ((((hpv.setCell (.inl (by show w.heap.size + 1 < _; omega)) _).setCell (.inl (by show w.heap.size + 1 < _; omega)) _).setCell (.inl (by show w.heap.size + 1 < _; omega)) _).setCell (.inl (by show w.heap.size + 1 < _; omega)) _).mono (by omega) (by simp only [size_setCell]; omega)

end Go.Proofs.Ytpfefjdefopccaa

namespace Go.Proofs.Ytpfefjdefopccaa
set_option linter.all false
open Go.RowKit

theorem grown_trans {w w1 w2 : World} {o : Option Nat} (h : w.grownBy w1 o) (h2 : w1.grownBy w2 o) : w.grownBy w2 o :=
  ⟨h2.os.trans h.os, h2.tape.trans h.tape, h2.output.trans h.output, Nat.le_trans h.size h2.size, fun k hk hne => (h2.block k (Nat.lt_of_lt_of_le hk h.size) hne).trans (h.block k hk hne)⟩
theorem grown_below {w w1 : World} {o : Option Nat} (h : Below w.heap.size w w1) : w.grownBy w1 o := ⟨h.os, h.tape, h.output, h.size, fun k hk _ => h.block k hk⟩
theorem OwnI.grown {T : TypeId} {w w' : World} {lo hi : Nat} {v : Value} {xs : List Int} {o : Option Nat} (h : OwnI T w lo hi v xs) (hg : w.grownBy w' o) (hne : ∀ k, v.ownBlock = some k → o ≠ some k) : OwnI T w' lo hi v xs :=
  ⟨ownsRow_of_block h.1 fun k hk => hg.block k (Own.block h hk).2.2 fun e => hne k hk e.symm, h.2⟩
theorem OwnF.grown2 {T : TypeId} {w w' : World} {lo hi n : Nat} {v : Value} {f : Nat → Value} {o : Option Nat} (h : OwnF w lo hi T v n f) (hg : w.grownBy w' o) (hne : ∀ k, v.ownBlock = some k → o ≠ some k) : OwnF w' lo hi T v n f := by
  obtain ⟨xs, h, hf⟩ := h
  exact ⟨xs, ⟨ownsRow_of_block h.1 fun k hk => hg.block k (h.block hk).2.2 fun e => hne k hk e.symm, h.2⟩, hf⟩

/-- the rows of a list as a function -/
def xOf (R : Nat → List Int) (k j : Nat) : Int := (R k).getD j 0
theorem NfRow.piv {P : Int} {n t : Nat} {M0 : Nat → Nat → Int} {R : Nat → List Int} {q : Nat → Nat} (h : NfRow P n M0 (xOf R) q t) (hok : RowOk P n (R t)) : pivL (R t) = q t := by
  obtain ⟨b1, b2, b3, v, b4, b5⟩ := h
  refine pivL_at (by rw [hok.1]; exact b1) ?_ fun j hj => ?_
  · have e : (R t).getD (q t) 0 = _ := b5 (q t) b1
    rw [e, b4]; decide
  · have e : (R t).getD j 0 = _ := b5 j (by omega)
    rw [e, b2 j hj, Int.mul_zero]; rfl
theorem pivot_q (v : Value) (xs : List Int) (Q : Nat) (w : World) (h : Ints w v xs) (hq : pivL xs = (Q : Nat)) :
    Calls Try.prog 50 #[v] w fun e w' => e = .returned (.int .i64 (Q : Int)) ∧ Below w.heap.size w w' := by
  rw [← hq]
  exact (pivot_any v xs w h).mono fun e w' ⟨r1, r2⟩ => ⟨r1, r2.below _⟩
theorem cell_grown {w w' : World} {a : Addr} {v : Value} {g : Nat} (hg : w.grownBy w' (some g)) (hne : a.block ≠ g) (h : w.cell? a = some v) : w'.cell? a = some v := by
  rw [World.cell?_of_block (w := w) (hg.block _ (World.block_lt_of_cell? _ _ h) (fun e => hne (Option.some.inj e)))]
  exact h
/-- what NormalFlag returns -/
def NfIs (P R C : Int) (D : List Int) (m : Mx) (ok : Bool) : Prop :=
  (IsFl P R C D ∧ ok = true ∧ ∃ X q, NfUp P C.toNat (mf C.toNat fun t => D.getD t 0) X q C.toNat ∧ m = ⟨P, C, C, flatM C.toNat C.toNat X⟩) ∨ (¬ IsFl P R C D ∧ ok = false ∧ m = mxZero)
theorem NfIs.one {P R C : Int} {D : List Int} (m : Mx) (b : Bool) (m' : Mx) (b' : Bool) (h : NfIs P R C D m b) (h' : NfIs P R C D m' b') : m = m' ∧ b = b' := by
  rcases h with ⟨t, rfl, X, q, h1, rfl⟩ | ⟨t, rfl, rfl⟩
  · rcases h' with ⟨_, rfl, X', q', h1', rfl⟩ | ⟨t', _, _⟩
    · obtain ⟨n, _, rfl, _, _, _, _, hP, _⟩ := t.facts
      have := (NfUp.one hP _ h1 h1').2
      exact ⟨by rw [flatM_congr this], rfl⟩
    · exact absurd t t'
  · rcases h' with ⟨t', _, _⟩ | ⟨_, rfl, rfl⟩
    · exact absurd t' t
    · exact ⟨rfl, rfl⟩
theorem norm_len (P R C : Int) (D : List Int) : (Classical.epsilon (PrQ (NfIs P R C D))).1.D.length ≤ 1000 := by
  rcases PrQ.spec (NfIs P R C D) with h | ⟨_, h⟩
  · rcases h with ⟨t, _, X, q, _, h⟩ | ⟨_, _, h⟩
    · obtain ⟨n, _, rfl, _, hn, _⟩ := t.facts
      rw [h]
      show (flatM _ _ X).length ≤ 1000
      rw [flatM_length]
      simp only [Int.toNat_natCast]
      have := Nat.mul_le_mul hn hn
      omega
    · rw [h]; simp [mxZero]
  · rw [h]; simp [mxZero]

end Go.Proofs.Ytpfefjdefopccaa

namespace Go.Proofs.Ytpfefjdefopccaa
set_option linter.all false
open Go.RowKit

/-- what FlagPerm returns -/
def FpIs (P R C : Int) (D : List Int) (l : List Int) : Prop :=
  (IsFl P R C D ∧ ∃ X q, NfUp P C.toNat (mf C.toNat fun t => D.getD t 0) X q C.toNat ∧ l = (List.range C.toNat).map fun k => (q k : Int)) ∨ (¬ IsFl P R C D ∧ l = [])
theorem FpIs.one {P R C : Int} {D : List Int} (l l' : List Int) (h : FpIs P R C D l) (h' : FpIs P R C D l') : l = l' := by
  rcases h with ⟨t, X, q, h1, rfl⟩ | ⟨t, rfl⟩
  · rcases h' with ⟨_, X', q', h1', rfl⟩ | ⟨t', _⟩
    · obtain ⟨n, _, rfl, _, _, _, _, hP, _⟩ := t.facts
      have := (NfUp.one hP _ h1 h1').1
      refine List.map_congr_left fun k hk => ?_
      rw [this k (by simpa using hk)]
    · exact absurd t t'
  · rcases h' with ⟨t', _⟩ | ⟨_, rfl⟩
    · exact absurd t' t
    · rfl
theorem FpIs.len {P R C : Int} {D : List Int} (l : List Int) (h : FpIs P R C D l) : l.length ≤ 1000 := by
  rcases h with ⟨t, X, q, _, rfl⟩ | ⟨_, rfl⟩
  · obtain ⟨n, _, rfl, _, hn, _⟩ := t.facts
    simp; omega
  · simp
theorem fperm_len (P R C : Int) (D : List Int) : (Classical.epsilon (LsQ (FpIs P R C D))).length ≤ 1000 := LsQ.len FpIs.len
theorem nats_ints {T : TypeId} {w : World} {lo hi n : Nat} {v : Value} {q : Nat → Nat} (h : OwnF w lo hi T v n (fun k => .int .i64 (q k : Int))) : OwnI T w lo hi v ((List.range n).map fun k => (q k : Int)) := by
  refine OwnF.ints ?_
  rw [List.length_map, List.length_range]
  exact h.congr fun k hk => by simp [iv, List.getD_eq_getElem?_getD, hk]


end Go.Proofs.Ytpfefjdefopccaa

namespace Go.Proofs.Ytpfefjdefopccaa
set_option linter.all false
open Go.RowKit

theorem cm_same {P : Int} {n : Nat} {A X : Nat → Nat → Int} (hr : ∀ m, m ≤ n → HasRank P n m A m) (hs : ∀ i, i ≤ n → SameSp P n i A i X) {i j : Nat} (hi : i ≤ n) (hj : j ≤ n) : CmIs P n A i X j ((if i ≤ j then i else j : Nat) : Int) := by
  have h : HasRank P n (i + j) (stackM i A X) (if i ≤ j then j else i) := by
    refine (hr _ (by split <;> omega)).same ⟨fun t ht => ?_, fun t ht => ?_⟩
    · by_cases e : t < i
      · rw [stackM_lt e]; exact Sp.row (by split <;> omega)
      · rw [stackM_ge e]
        exact ((hs j hj).2 (t - i) (by omega)).mono (by split <;> omega)
    · by_cases e : i ≤ j
      · rw [if_pos e] at ht
        refine ((hs j hj).1 t ht).trans fun l hl => ?_
        have := Sp.row (p := P) (C := n) (M := stackM i A X) (n := i + j) (i := i + l) (by omega)
        rwa [stackM_ge (by omega), show i + l - i = l from by omega] at this
      · rw [if_neg e] at ht
        have := Sp.row (p := P) (C := n) (M := stackM i A X) (n := i + j) (i := t) (by omega)
        rwa [stackM_lt ht] at this
  refine ⟨_, h, ?_⟩
  split <;> omega
theorem rp_same {P : Int} {n : Nat} {A X : Nat → Nat → Int} (hP : 2 ≤ P) (hr : ∀ m, m ≤ n → HasRank P n m A m) (hs : ∀ i, i ≤ n → SameSp P n i A i X) {i : Nat} (hi : i < n) : RpAt P n A X i (i : Int) := by
  refine ⟨i, rfl, hi, ⟨_, _, cm_same hr hs (i := i + 1) (j := i + 1) (by omega) (by omega), cm_same hr hs (i := i) (j := i + 1) (by omega) (by omega), ?_⟩, fun k hk a b ha hb => ?_⟩
  · rw [if_pos (Nat.le_refl _), if_pos (by omega)]; omega
  · rw [ha.one hP (cm_same hr hs (i := i + 1) (j := k + 1) (by omega) (by omega)), hb.one hP (cm_same hr hs (i := i) (j := k + 1) (by omega) (by omega)), if_neg (by omega)]
    by_cases e : i ≤ k + 1
    · rw [if_pos e]; omega
    · rw [if_neg e]

/-- the position of two flags with the same members -/
theorem RpIs.same {P : Int} {n : Nat} {D D' : List Int} {l : List Int} (h : IsFl P n n D) (h' : IsFl P n n D') (hs : ∀ i, i ≤ n → SameSp P n i (mf n fun t => D.getD t 0) i (mf n fun t => D'.getD t 0)) (hl : RpIs P n n D P n n D' l) : l = (List.range n).map fun k : Nat => (k : Int) := by
  rcases hl with ⟨_, h1, h2⟩ | ⟨t, _⟩
  · obtain ⟨m, _, e, _, _, hlD, hD, hP, _, hp, hrk⟩ := h.facts
    obtain rfl := Int.ofNat.inj e
    have hrg : ∀ t, 0 ≤ D.getD t 0 ∧ D.getD t 0 < P := fun t => getD_range hD (by omega) t
    have hr : ∀ k, k ≤ n → HasRank P n k (mf n fun t => D.getD t 0) k := fun k hk => hrk.part hp (fun i j _ _ => hrg _) hk
    rw [Int.toNat_natCast] at h1 h2
    refine getD_eq_list (by simp [h1]) fun j hj => ?_
    rw [h1] at hj
    rw [(h2 j (by omega)).one (rp_same hP hr hs hj)]
    simp [List.getD_eq_getElem?_getD, hj]
  · exact absurd ⟨h, h', rfl, rfl⟩ t

/-- a flag's normal form, and the flag's permutation -/
structure NfOf (P : Int) (n : Nat) (D : List Int) (X : Nat → Nat → Int) (q : Nat → Nat) : Prop where
  up : NfUp P n (mf n fun t => D.getD t 0) X q n
theorem NfIs.of {P : Int} {n : Nat} {D : List Int} {m : Mx} {ok : Bool} (hf : IsFl P n n D) (h : NfIs P n n D m ok) : ok = true ∧ ∃ X q, NfOf P n D X q ∧ m = ⟨P, n, n, flatM n n X⟩ := by
  rcases h with ⟨_, e, X, q, h1, h2⟩ | ⟨t, _⟩
  · exact ⟨e, X, q, ⟨by simpa using h1⟩, by simpa using h2⟩
  · exact absurd hf t
theorem FpIs.of {P : Int} {n : Nat} {D : List Int} {l : List Int} (hf : IsFl P n n D) (h : FpIs P n n D l) : ∃ X q, NfOf P n D X q ∧ l = (List.range n).map fun k => (q k : Int) := by
  rcases h with ⟨_, X, q, h1, h2⟩ | ⟨t, _⟩
  · exact ⟨X, q, ⟨by simpa using h1⟩, by simpa using h2⟩
  · exact absurd hf t
theorem NfOf.same {P : Int} {n : Nat} {D : List Int} {X : Nat → Nat → Int} {q : Nat → Nat} (hP : 2 ≤ P) (h : NfOf P n D X q) : ∀ i, i ≤ n → SameSp P n i (mf n fun t => D.getD t 0) i (mf n fun t => (flatM n n X).getD t 0) := fun i hi =>
  (NfUp.same hP i (fun k hk => h.up k (by omega))).trans (SameSp.of_eqv fun k hk => .of_eq fun j hj => (mf_flatM (by omega) hj).symm)
theorem NfOf.rng {P : Int} {n : Nat} {D : List Int} {X : Nat → Nat → Int} {q : Nat → Nat} (hP : 2 ≤ P) (h : NfOf P n D X q) : ∀ x ∈ flatM n n X, 0 ≤ x ∧ x < P := by
  intro x hx
  unfold flatM at hx
  obtain ⟨t, ht, rfl⟩ := List.mem_map.1 hx
  have h1 := List.mem_range.1 ht
  have hn : 0 < n := by rcases Nat.eq_zero_or_pos n with e | e; (subst e; omega); exact e
  exact h.up.rng hP _ _ (Nat.div_lt_of_lt_mul h1) (Nat.mod_lt _ hn)
/-- a normal form is a flag -/
theorem NfOf.fl {P : Int} {n : Nat} {D : List Int} {X : Nat → Nat → Int} {q : Nat → Nat} (hf : IsFl P n n D) (h : NfOf P n D X q) : IsFl P n n (flatM n n X) := by
  obtain ⟨m, _, e, hn0, hn7, hlD, hD, hP, _, hp, hrk⟩ := hf.facts
  obtain rfl := Int.ofNat.inj e
  refine isFl_of hp hn0 hn7 (by simp [flatM]) (h.rng hP) ?_
  exact (hrk.same (h.same hP n (Nat.le_refl _)).symm).indep hp (fun i j hi hj => by rw [mf_flatM hi hj]; exact h.up.rng hP i j hi hj)

end Go.Proofs.Ytpfefjdefopccaa
