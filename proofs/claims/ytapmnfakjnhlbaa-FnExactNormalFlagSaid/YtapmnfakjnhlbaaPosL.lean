/-
  The dimension of what first rows of two matrices have in common, as a property; a list that is known by a property.
-/
import Derived.Test.YtapmnfakjnhlbaaCommon
import Derived.Test.YtapmnfakjnhlbaaFl
namespace Go.Proofs.Ytapmnfakjnhlbaa
set_option linter.all false
open Go.RowKit

/-- a list that is known by a property, or none -/
def LsQ (Q : List Int → Prop) (l : List Int) : Prop := Q l ∨ ((∀ m, ¬ Q m) ∧ l = [])
theorem LsQ.spec (Q : List Int → Prop) : LsQ Q (Classical.epsilon (LsQ Q)) := by
  refine Classical.epsilon_spec (p := LsQ Q) ?_
  by_cases h : ∃ m, Q m
  · obtain ⟨m, h⟩ := h
    exact ⟨m, .inl h⟩
  · exact ⟨[], .inr ⟨fun m hq => h ⟨m, hq⟩, rfl⟩⟩
theorem LsQ.eps {Q : List Int → Prop} {m : List Int} (hone : ∀ m m', Q m → Q m' → m = m') (h : Q m) : m = Classical.epsilon (LsQ Q) := by
  rcases LsQ.spec Q with h2 | ⟨h2, _⟩
  · exact hone _ _ h h2
  · exact absurd h (h2 m)
theorem LsQ.len {Q : List Int → Prop} {n : Nat} (h : ∀ m, Q m → m.length ≤ n) : (Classical.epsilon (LsQ Q)).length ≤ n := by
  rcases LsQ.spec Q with h2 | ⟨_, h2⟩
  · exact h _ h2
  · rw [h2]; exact Nat.zero_le _

/-- eight cells that are read, where what changed lies from B on -/
theorem keep8B {w W W' : World} {B b1 b2 o0 o1 o2 o3 o4 o5 o6 o7 : Nat} {v0 v1 v2 v3 v4 v5 v6 v7 : Value} (hb : Below B W W') (hB1 : b1 < B) (hB2 : b2 < B) (hw : w.heap.size ≤ B)
    (h : (W.cell? ⟨b1, o0, none⟩ = some v0 ∧ W.cell? ⟨b1, o1, none⟩ = some v1 ∧ W.cell? ⟨b1, o2, none⟩ = some v2 ∧ W.cell? ⟨b1, o3, none⟩ = some v3 ∧ W.cell? ⟨b2, o4, none⟩ = some v4 ∧ W.cell? ⟨b2, o5, none⟩ = some v5 ∧ W.cell? ⟨b2, o6, none⟩ = some v6 ∧ W.cell? ⟨b2, o7, none⟩ = some v7) ∧ Below w.heap.size w W) :
    (W'.cell? ⟨b1, o0, none⟩ = some v0 ∧ W'.cell? ⟨b1, o1, none⟩ = some v1 ∧ W'.cell? ⟨b1, o2, none⟩ = some v2 ∧ W'.cell? ⟨b1, o3, none⟩ = some v3 ∧ W'.cell? ⟨b2, o4, none⟩ = some v4 ∧ W'.cell? ⟨b2, o5, none⟩ = some v5 ∧ W'.cell? ⟨b2, o6, none⟩ = some v6 ∧ W'.cell? ⟨b2, o7, none⟩ = some v7) ∧ Below w.heap.size w W' := by
  obtain ⟨⟨h0, h1, h2, h3, h4, h5, h6, h7⟩, hB⟩ := h
  have e1 : W'.heap[b1]? = W.heap[b1]? := hb.block _ hB1
  have e2 : W'.heap[b2]? = W.heap[b2]? := hb.block _ hB2
  refine ⟨⟨?_, ?_, ?_, ?_, ?_, ?_, ?_, ?_⟩, hB.trans (hb.mono hw)⟩
  · rw [World.cell?_of_block (w := W) e1]; exact h0
  · rw [World.cell?_of_block (w := W) e1]; exact h1
  · rw [World.cell?_of_block (w := W) e1]; exact h2
  · rw [World.cell?_of_block (w := W) e1]; exact h3
  · rw [World.cell?_of_block (w := W) e2]; exact h4
  · rw [World.cell?_of_block (w := W) e2]; exact h5
  · rw [World.cell?_of_block (w := W) e2]; exact h6
  · rw [World.cell?_of_block (w := W) e2]; exact h7
theorem two_lt {w W : World} {c : Prop} {B : Nat} (hs : B ≤ w.heap.size) {w0 : World} (h : c ∧ Below w0.heap.size w0 W) (hw : Below w.heap.size w W) : B ≤ W.heap.size := Nat.le_trans hs hw.size

/-- the dimension of what the first i rows of one and the first j rows of another one have in common, both being bases -/
def CmIs (P : Int) (C : Nat) (A : Nat → Nat → Int) (i : Nat) (B : Nat → Nat → Int) (j : Nat) (m : Int) : Prop := ∃ k : Nat, HasRank P C (i + j) (stackM i A B) k ∧ m = (i : Int) + (j : Int) - (k : Int)
theorem CmIs.one {P : Int} {C i j : Nat} {A B : Nat → Nat → Int} {m m' : Int} (hP : 2 ≤ P) (h : CmIs P C A i B j m) (h' : CmIs P C A i B j m') : m = m' := by
  obtain ⟨k, h1, rfl⟩ := h
  obtain ⟨k', h1', rfl⟩ := h'
  rw [h1.one hP h1']

/-- l7Common, of bases -/
theorem l7Common_b (AP : Int) (AR BR C i j : Nat) (dA dB : Value) (DA DB : List Int) (w : World) (hdA : Ints w dA DA) (hdB : Ints w dB DB) (hlA : DA.length = AR * C) (hlB : DB.length = BR * C) (hrA : AR ≤ 7) (hrB : BR ≤ 7) (hC : C ≤ 7) (hi : i ≤ AR) (hj : j ≤ BR)
    (hgA : ∀ t, 0 ≤ DA.getD t 0 ∧ DA.getD t 0 < AP) (hgB : ∀ t, 0 ≤ DB.getD t 0 ∧ DB.getD t 0 < AP) (hpr : primeOk AP = true)
    (h1 : HasRank AP C AR (mf C fun t => DA.getD t 0) AR) (h2 : HasRank AP C BR (mf C fun t => DB.getD t 0) BR) :
    Calls Try.prog 41 #[.agg #[.int .i64 AP, .int .i64 (AR : Int), .int .i64 (C : Int), dA], .int .i64 (i : Int), .agg #[.int .i64 AP, .int .i64 (BR : Int), .int .i64 (C : Int), dB], .int .i64 (j : Int)] w fun e w' =>
      ∃ m : Int, e = .returned (.int .i64 m) ∧ CmIs AP C (mf C fun t => DA.getD t 0) i (mf C fun t => DB.getD t 0) j m ∧ -100 ≤ m ∧ m ≤ 100 ∧ Below w.heap.size w w' := by
  refine (l7Common_any AP AR BR C i j dA dB DA DB w hdA hdB hlA hlB hrA hrB hC hi hj hgA hgB hpr).mono ?_
  rintro e w' ⟨n1, n2, n3, rfl, r1, r2, r3, hb⟩
  have hP := (primeOk_range hpr).1
  have e1 := r1.one hP (h1.part hpr (fun x y _ _ => hgA _) hi)
  have e2 := r2.one hP (h2.part hpr (fun x y _ _ => hgB _) hj)
  have e3 := r3.leC
  subst e1 e2
  exact ⟨_, rfl, ⟨n3, r3, rfl⟩, by omega, by omega, hb⟩
theorem take_length_le {α : Type} {l : List α} {n : Nat} (h : n ≤ l.length) : (l.take n).length = n := by rw [List.length_take]; omega
theorem take_getD2 {l : List (List Int)} {n i : Nat} (h : i < n) : (l.take n).getD i [] = l.getD i [] := by simp [List.getD_eq_getElem?_getD, List.getElem?_take, h]
theorem RowsOk.take {p : Int} {C n : Nat} {a : List (List Int)} (ha : RowsOk p C a) : RowsOk p C (a.take n) := fun i hi => by
  rw [List.length_take] at hi
  rw [take_getD2 (by omega)]; exact ha i (by omega)
theorem RdII.take {w : World} {p : Option Addr} {n cap k : Nat} {rows : List (List Int)} (h : RdII w (.slice p n cap) rows) (hk : k ≤ rows.length) : RdII w (.slice p k cap) (rows.take k) := by
  obtain ⟨f, ⟨q, c, e, ⟨h1, h2⟩, h3⟩, h4⟩ := h
  injection e with e1 e2 e3
  subst e1 e3
  refine ⟨f, ⟨p, cap, ?_, ⟨by rw [List.length_take]; omega, h2⟩, fun h0 => ?_⟩, fun i hi => ?_⟩
  · rw [take_length_le hk]
  · rw [take_length_le hk] at h0
    obtain ⟨b, off, rfl, hx⟩ := h3 (by omega)
    exact ⟨b, off, rfl, fun j hj => hx j (by rw [List.length_take] at hj; omega)⟩
  · rw [List.length_take] at hi
    rw [take_getD2 (by omega)]
    exact h4 i (by omega)
theorem rowsOf_take {C R n : Nat} {D : List Int} (h : n ≤ R) : (rowsOf R C D).take n = rowsOf n C D := by
  apply List.ext_getElem
  · rw [List.length_take, rowsOf_length, rowsOf_length]; omega
  · intro i h1 h2
    rw [List.getElem_take]
    simp [rowsOf]
/-- common, of the first rows of two matrices -/
theorem common_b (P : Int) (AR BR C i j : Nat) (u v : Value) (DA DB : List Int) (w : World) (hu : RdII w u (rowsOf i C DA)) (hv : RdII w v (rowsOf j C DB)) (hlA : DA.length = AR * C) (hlB : DB.length = BR * C) (hrA : AR ≤ 7) (hrB : BR ≤ 7) (hC : C ≤ 7) (hi : i ≤ AR) (hj : j ≤ BR)
    (hgA : ∀ t, 0 ≤ DA.getD t 0 ∧ DA.getD t 0 < P) (hgB : ∀ t, 0 ≤ DB.getD t 0 ∧ DB.getD t 0 < P) (hpr : primeOk P = true) :
    Calls Try.prog 44 #[u, v, .int .i64 P] w fun e w' =>
      ∃ m : Int, e = .returned (.int .i64 m) ∧ CmIs P C (mf C fun t => DA.getD t 0) i (mf C fun t => DB.getD t 0) j m ∧ -100 ≤ m ∧ m ≤ 100 ∧ Below w.heap.size w w' := by
  have rA : RowsOk P C (rowsOf i C DA) := by
    have := rowsOf_ok (C := C) (R := AR) hlA hgA
    rw [← rowsOf_take hi]; exact this.take
  have rB : RowsOk P C (rowsOf j C DB) := by
    have := rowsOf_ok (C := C) (R := BR) hlB hgB
    rw [← rowsOf_take hj]; exact this.take
  refine (common_any P C u v _ _ w hu hv rA rB hpr (by rw [rowsOf_length]; omega) (by rw [rowsOf_length]; omega) (by omega)).mono ?_
  rintro e w' ⟨n, rfl, hn, hb⟩
  rw [rowsOf_length, rowsOf_length] at hn ⊢
  have e3 := hn.leC
  refine ⟨_, rfl, ⟨n, hn.same ?_, rfl⟩, by omega, by omega, hb⟩
  have := rowsOf_join (P := P) (R := i) (R' := j) (C := C) (D := DA) (D' := DB)
  rwa [List.length_append, rowsOf_length, rowsOf_length] at this

/-- a space and a flag that lie in one -/
def SfIs (P R C : Int) (D : List Int) (P' R' C' : Int) (D' : List Int) : Prop := IsSp P R C D ∧ IsFl P' R' C' D' ∧ P = P' ∧ C = C'
theorem IsSp.facts {P R C : Int} {D : List Int} (h : IsSp P R C D) : ∃ r c : Nat, R = r ∧ C = c ∧ r ≤ 7 ∧ 1 ≤ c ∧ c ≤ 7 ∧ D.length = r * c ∧ (∀ x ∈ D, 0 ≤ x ∧ x < P) ∧ 2 ≤ P ∧ P ≤ 7 ∧ primeOk P = true ∧ HasRank P c r (mf c fun t => D.getD t 0) r := by
  obtain ⟨h1, h2⟩ := h
  obtain ⟨r, c, rfl, rfl, hr, hc0, hc, hlD, hD, hP2, hP7, hpr⟩ := mxOk_facts h1
  unfold SpIs at h2
  rw [if_pos h1] at h2
  obtain ⟨n, M, q, hr2, _, e⟩ := h2
  injection e with _ e2 _ _
  obtain rfl := Int.ofNat.inj e2
  simp only [Int.toNat_natCast] at hr2
  exact ⟨r, c, rfl, rfl, hr, hc0, hc, hlD, hD, hP2, hP7, hpr, M, q, hr2⟩

end Go.Proofs.Ytapmnfakjnhlbaa
