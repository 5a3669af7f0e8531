/-
  SumSpaces, on both sides.
-/
import Derived.Test.YtmnlpkmnbjoicaaTwo
import Derived.Test.YtmnlpkmnbjoicaaBoth
namespace Go.Proofs.Ytmnlpkmnbjoicaa
set_option linter.all false
open Go.RowKit

/-- a matrix and a bool that are known by a property, or none -/
def PrQ (Q : Mx → Bool → Prop) (x : Mx × Bool) : Prop := Q x.1 x.2 ∨ ((∀ m b, ¬ Q m b) ∧ x = (mxZero, false))
theorem PrQ.spec (Q : Mx → Bool → Prop) : PrQ Q (Classical.epsilon (PrQ Q)) := by
  refine Classical.epsilon_spec (p := PrQ Q) ?_
  by_cases h : ∃ m b, Q m b
  · obtain ⟨m, b, h⟩ := h
    exact ⟨(m, b), .inl h⟩
  · exact ⟨(mxZero, false), .inr ⟨fun m b hq => h ⟨m, b, hq⟩, rfl⟩⟩
theorem PrQ.eps {Q : Mx → Bool → Prop} {m : Mx} {b : Bool} (hone : ∀ m b m' b', Q m b → Q m' b' → m = m' ∧ b = b') (h : Q m b) : m = (Classical.epsilon (PrQ Q)).1 ∧ b = (Classical.epsilon (PrQ Q)).2 := by
  rcases PrQ.spec Q with h2 | ⟨h2, _⟩
  · exact hone _ _ _ _ h h2
  · exact absurd h (h2 m b)

/-- the reduced form of what rows span, as a matrix -/
def RowsIs (P : Int) (C R : Nat) (M0 : Nat → Nat → Int) (m : Mx) : Prop := ∃ (n : Nat) (M : Nat → Nat → Int) (q : Nat → Nat), IsRed P C R M0 n M q ∧ m = ⟨P, n, C, flatM n C M⟩
theorem RowsIs.one {P : Int} {C R : Nat} {M0 : Nat → Nat → Int} {m m' : Mx} (hP : 2 ≤ P) (h : RowsIs P C R M0 m) (h' : RowsIs P C R M0 m') : m = m' := by
  obtain ⟨n, M, q, h1, rfl⟩ := h
  obtain ⟨n', M', q', h1', rfl⟩ := h'
  obtain ⟨e1, _, e3⟩ := h1.one hP h1'
  subst e1
  rw [flatM_congr e3]
theorem RowsIs.len {P : Int} {C R : Nat} {M0 : Nat → Nat → Int} {m : Mx} (hC : C ≤ 14) (h : RowsIs P C R M0 m) : m.D.length ≤ 1000 := by
  obtain ⟨n, M, q, h1, rfl⟩ := h
  have a := asc_bound h1.2.1 h1.1.lt
  have b := Nat.mul_le_mul (Nat.le_trans a hC) hC
  show (flatM n C M).length ≤ 1000
  rw [flatM_length]
  omega
theorem RowsIs.same {P : Int} {C R R' : Nat} {M0 M1 : Nat → Nat → Int} {m : Mx} (h : RowsIs P C R M0 m) (hs : SameSp P C R' M1 R M0) : RowsIs P C R' M1 m := by
  obtain ⟨n, M, q, ⟨h1, h2, h3, h4⟩, rfl⟩ := h
  exact ⟨n, M, q, ⟨h1, h2, h3, hs.trans h4⟩, rfl⟩

/-- what SumSpaces returns -/
def SmIs (P R C : Int) (D : List Int) (P' R' C' : Int) (D' : List Int) (m : Mx) (ok : Bool) : Prop :=
  (TwoIs P R C D P' R' C' D' ∧ ok = true ∧ RowsIs P C.toNat (R.toNat + R'.toNat) (stackM R.toNat (mf C.toNat fun t => D.getD t 0) (mf C.toNat fun t => D'.getD t 0)) m) ∨ (¬ TwoIs P R C D P' R' C' D' ∧ ok = false ∧ m = mxZero)
theorem SmIs.one {P R C : Int} {D : List Int} {P' R' C' : Int} {D' : List Int} (m : Mx) (b : Bool) (m' : Mx) (b' : Bool) (h : SmIs P R C D P' R' C' D' m b) (h' : SmIs P R C D P' R' C' D' m' b') : m = m' ∧ b = b' := by
  rcases h with ⟨t, rfl, h⟩ | ⟨t, rfl, rfl⟩
  · rcases h' with ⟨_, rfl, h'⟩ | ⟨t', _, _⟩
    · obtain ⟨_, _, _, _, _, _, _, _, _, hP, _⟩ := mxOk_facts t.1.1
      exact ⟨h.one hP h', rfl⟩
    · exact absurd t t'
  · rcases h' with ⟨t', _, _⟩ | ⟨_, rfl, rfl⟩
    · exact absurd t' t
    · exact ⟨rfl, rfl⟩
theorem sum_len (P R C : Int) (D : List Int) (P' R' C' : Int) (D' : List Int) : (Classical.epsilon (PrQ (SmIs P R C D P' R' C' D'))).1.D.length ≤ 1000 := by
  rcases PrQ.spec (SmIs P R C D P' R' C' D') with h | ⟨_, h⟩
  · rcases h with ⟨t, _, h⟩ | ⟨_, _, h⟩
    · obtain ⟨r, c, _, rfl, _, _, hc, _⟩ := mxOk_facts t.1.1
      exact h.len (by simp; omega)
    · rw [h]; simp [mxZero]
  · rw [h]; simp [mxZero]

/-- what lies flat, one behind the other -/
theorem both_mf {C R R' : Nat} {D D' : List Int} (hl : D.length = R * C) {i c : Nat} (hi : i < R + R') (hc : c < C) :
    mf C (fun t => (D ++ D').getD t 0) i c = stackM R (mf C fun t => D.getD t 0) (mf C fun t => D'.getD t 0) i c := by
  unfold mf
  by_cases h : i < R
  · rw [stackM_lt h]
    have h1 : i * C + c < R * C := by
      have : (i + 1) * C ≤ R * C := Nat.mul_le_mul_right C h
      rw [Nat.succ_mul] at this
      omega
    simp [List.getD_eq_getElem?_getD, List.getElem?_append_left (show i * C + c < D.length by omega)]
  · rw [stackM_ge h]
    obtain ⟨k, rfl⟩ : ∃ k, i = R + k := ⟨i - R, by omega⟩
    have e : (R + k) * C + c - R * C = (R + k - R) * C + c := by rw [Nat.add_mul, Nat.add_sub_cancel_left]; omega
    simp only [List.getD_eq_getElem?_getD]
    rw [List.getElem?_append_right (by rw [hl, Nat.add_mul]; omega), hl, e]
theorem both_rng {P : Int} {D D' : List Int} (hP : 0 < P) (h : ∀ t, 0 ≤ D.getD t 0 ∧ D.getD t 0 < P) (h' : ∀ t, 0 ≤ D'.getD t 0 ∧ D'.getD t 0 < P) (t : Nat) : 0 ≤ (D ++ D').getD t 0 ∧ (D ++ D').getD t 0 < P := by
  by_cases e : t < D.length
  · rw [List.getD_eq_getElem?_getD, List.getElem?_append_left e, ← List.getD_eq_getElem?_getD]; exact h t
  · rw [List.getD_eq_getElem?_getD, List.getElem?_append_right (by omega), ← List.getD_eq_getElem?_getD]; exact h' _
theorem getD_app_lt {a b : List (List Int)} {i : Nat} (h : i < a.length) : (a ++ b).getD i [] = a.getD i [] := by simp [List.getD_eq_getElem?_getD, List.getElem?_append_left h]
theorem getD_app_ge {a b : List (List Int)} {i : Nat} (h : ¬ i < a.length) : (a ++ b).getD i [] = b.getD (i - a.length) [] := by simp [List.getD_eq_getElem?_getD, List.getElem?_append_right (Nat.le_of_not_lt h)]
/-- rows behind rows -/
theorem rowsOf_join {P : Int} {R R' C : Nat} {D D' : List Int} : SameSp P C (R + R') (stackM R (mf C fun t => D.getD t 0) (mf C fun t => D'.getD t 0)) (rowsOf R C D ++ rowsOf R' C D').length (mt (rowsOf R C D ++ rowsOf R' C D')) := by
  rw [List.length_append, rowsOf_length, rowsOf_length]
  refine SameSp.of_eqv fun i hi => .of_eq fun c hc => ?_
  unfold mt
  by_cases h : i < R
  · rw [stackM_lt h, getD_app_lt (by rw [rowsOf_length]; exact h), rowsOf_getD h, rowAt_getD hc]
    rfl
  · rw [stackM_ge h, getD_app_ge (by rw [rowsOf_length]; exact h), rowsOf_length, rowsOf_getD (by omega), rowAt_getD hc]
    rfl
theorem RowsOk.join {p : Int} {C : Nat} {a b : List (List Int)} (ha : RowsOk p C a) (hb : RowsOk p C b) : RowsOk p C (a ++ b) := fun i hi => by
  by_cases h : i < a.length
  · rw [getD_app_lt h]; exact ha i h
  · rw [List.length_append] at hi
    rw [getD_app_ge h]; exact hb _ (by omega)


set_option maxRecDepth 100000 in
set_option maxHeartbeats 4000000 in
theorem implSum_no1 (AP AR AC BP BR BC : Int) (dA dB : Value) (DA DB : List Int) (w : World) (hdA : Ints w dA DA) (hdB : Ints w dB DB) (ha : ¬ IsSp AP AR AC DA) :
    Calls Try.prog 8 #[.agg #[.int .i64 AP, .int .i64 AR, .int .i64 AC, dA], .agg #[.int .i64 BP, .int .i64 BR, .int .i64 BC, dB]] w fun e w' => RetMB w mxZero false e w' := by
  have Hka := Lib.hid ha
  clear ha
  have HdA := Lib.hid hdA
  obtain ⟨pA, kA, rfl, ⟨_, mA⟩, _⟩ := hdA
  unfold maxLen at mA
  have HdB := Lib.hid hdB
  obtain ⟨pB, kB, rfl, ⟨_, mB⟩, _⟩ := hdB
  unfold maxLen at mB
  obtain ⟨z0, z1, z2⟩ := boxes_abz w (.cells #[.int .i64 AP, .int .i64 AR, .int .i64 AC, .slice pA DA.length kA] 26) (.cells #[.int .i64 BP, .int .i64 BR, .int .i64 BC, .slice pB DB.length kB] 26) (.cells #[.int .i64 0, .int .i64 0, .int .i64 0, .slice none 0 0] 26)
  have ZA1 := Lib.hid z0
  have ZB1 := Lib.hid z1
  have ZZ1 := Lib.hid z2
  clear z0 z1 z2
  have HB1 := Lib.hid (below_alloc3 w (.cells #[.int .i64 AP, .int .i64 AR, .int .i64 AC, .slice pA DA.length kA] 26) (.cells #[.int .i64 BP, .int .i64 BR, .int .i64 BC, .slice pB DB.length kB] 26) (.cells #[.int .i64 0, .int .i64 0, .int .i64 0, .slice none 0 0] 26))
  go_enter Try.func8, Try.ntmps8
  go_wp2_with fail
  have hs1 : (((w.alloc (.cells #[.int .i64 AP, .int .i64 AR, .int .i64 AC, .slice pA DA.length kA] 26)).alloc (.cells #[.int .i64 BP, .int .i64 BR, .int .i64 BC, .slice pB DB.length kB] 26)).alloc (.cells #[.int .i64 0, .int .i64 0, .int .i64 0, .slice none 0 0] 26)).heap.size = w.heap.size + 1 + 1 + 1 := by simp
  generalize ((w.alloc (.cells #[.int .i64 AP, .int .i64 AR, .int .i64 AC, .slice pA DA.length kA] 26)).alloc (.cells #[.int .i64 BP, .int .i64 BR, .int .i64 BC, .slice pB DB.length kB] 26)).alloc (.cells #[.int .i64 0, .int .i64 0, .int .i64 0, .slice none 0 0] 26) = w1 at *
  obtain ⟨cA0, cA1, cA2, cA3, cAf, cAz⟩ := blk4 ZA1.out
  go_wp2_with fail
  refine (implIsSpace_no _ _ _ _ _ Hka.out _ (HdA.out.below HB1.out)).mono ?_
  rintro e w2 ⟨rfl, hb⟩
  have hs2 := hb.size
  have HB2 := Lib.hid (HB1.out.trans (hb.mono HB1.out.size))
  have ZA2 := Lib.hid (blk_later ZA1.out hb)
  have ZB2 := Lib.hid (blk_later ZB1.out hb)
  have ZZ2 := Lib.hid (blk_later ZZ1.out hb)
  clear hb ZA1 ZB1 ZZ1
  clear cA0 cA1 cA2 cA3 cAf cAz
  obtain ⟨cZ0, cZ1, cZ2, cZ3, cZf, cZz⟩ := blk4 ZZ2.out
  go_wp2_with fail
  obtain ⟨f0, f1, f2, f3, ff, fz⟩ := blk4 (set4_all ZZ2.out (.int .i64 0) (.int .i64 0) (.int .i64 0) (.slice none 0 0))
  refine bodyPost_ret (v := .tuple #[.agg #[.int .i64 0, .int .i64 0, .int .i64 0, .slice none 0 0], .bool false]) (by simp [results, Try.results8, go_sem, f0, f1, f2, f3, fz]) rfl ⟨_, rfl, ?_, ?_⟩
  · exact ⟨World.ownsRow_nil _ _ _ _, fun k hk => by simp [Value.ownBlock] at hk⟩
  · exact below_set4 HB2.out (by omega) _ _ _ _

set_option maxRecDepth 100000 in
set_option maxHeartbeats 4000000 in
theorem implSum_no2 (AP AR AC BP BR BC : Int) (dA dB : Value) (DA DB : List Int) (w : World) (hdA : Ints w dA DA) (hdB : Ints w dB DB) (ha : IsSp AP AR AC DA) (hb : ¬ IsSp BP BR BC DB) :
    Calls Try.prog 8 #[.agg #[.int .i64 AP, .int .i64 AR, .int .i64 AC, dA], .agg #[.int .i64 BP, .int .i64 BR, .int .i64 BC, dB]] w fun e w' => RetMB w mxZero false e w' := by
  have Hka := Lib.hid ha
  have Hkb := Lib.hid hb
  clear ha hb
  have HdA := Lib.hid hdA
  obtain ⟨pA, kA, rfl, ⟨_, mA⟩, _⟩ := hdA
  unfold maxLen at mA
  have HdB := Lib.hid hdB
  obtain ⟨pB, kB, rfl, ⟨_, mB⟩, _⟩ := hdB
  unfold maxLen at mB
  obtain ⟨z0, z1, z2⟩ := boxes_abz w (.cells #[.int .i64 AP, .int .i64 AR, .int .i64 AC, .slice pA DA.length kA] 26) (.cells #[.int .i64 BP, .int .i64 BR, .int .i64 BC, .slice pB DB.length kB] 26) (.cells #[.int .i64 0, .int .i64 0, .int .i64 0, .slice none 0 0] 26)
  have ZA1 := Lib.hid z0
  have ZB1 := Lib.hid z1
  have ZZ1 := Lib.hid z2
  clear z0 z1 z2
  have HB1 := Lib.hid (below_alloc3 w (.cells #[.int .i64 AP, .int .i64 AR, .int .i64 AC, .slice pA DA.length kA] 26) (.cells #[.int .i64 BP, .int .i64 BR, .int .i64 BC, .slice pB DB.length kB] 26) (.cells #[.int .i64 0, .int .i64 0, .int .i64 0, .slice none 0 0] 26))
  go_enter Try.func8, Try.ntmps8
  go_wp2_with fail
  have hs1 : (((w.alloc (.cells #[.int .i64 AP, .int .i64 AR, .int .i64 AC, .slice pA DA.length kA] 26)).alloc (.cells #[.int .i64 BP, .int .i64 BR, .int .i64 BC, .slice pB DB.length kB] 26)).alloc (.cells #[.int .i64 0, .int .i64 0, .int .i64 0, .slice none 0 0] 26)).heap.size = w.heap.size + 1 + 1 + 1 := by simp
  generalize ((w.alloc (.cells #[.int .i64 AP, .int .i64 AR, .int .i64 AC, .slice pA DA.length kA] 26)).alloc (.cells #[.int .i64 BP, .int .i64 BR, .int .i64 BC, .slice pB DB.length kB] 26)).alloc (.cells #[.int .i64 0, .int .i64 0, .int .i64 0, .slice none 0 0] 26) = w1 at *
  obtain ⟨cA0, cA1, cA2, cA3, cAf, cAz⟩ := blk4 ZA1.out
  go_wp2_with fail
  refine (implIsSpace_yes _ _ _ _ _ Hka.out _ (HdA.out.below HB1.out)).mono ?_
  rintro e w2 ⟨rfl, hb⟩
  have hs2 := hb.size
  have HB2 := Lib.hid (HB1.out.trans (hb.mono HB1.out.size))
  have ZA2 := Lib.hid (blk_later ZA1.out hb)
  have ZB2 := Lib.hid (blk_later ZB1.out hb)
  have ZZ2 := Lib.hid (blk_later ZZ1.out hb)
  clear hb ZA1 ZB1 ZZ1
  clear cA0 cA1 cA2 cA3 cAf cAz
  obtain ⟨cB0, cB1, cB2, cB3, cBf, cBz⟩ := blk4 ZB2.out
  go_wp2_with fail
  refine (implIsSpace_no _ _ _ _ _ Hkb.out _ (HdB.out.below HB2.out)).mono ?_
  rintro e w3 ⟨rfl, hb⟩
  have hs3 := hb.size
  have HB3 := Lib.hid (HB2.out.trans (hb.mono HB2.out.size))
  have ZA3 := Lib.hid (blk_later ZA2.out hb)
  have ZB3 := Lib.hid (blk_later ZB2.out hb)
  have ZZ3 := Lib.hid (blk_later ZZ2.out hb)
  clear hb ZA2 ZB2 ZZ2
  clear cB0 cB1 cB2 cB3 cBf cBz
  obtain ⟨cZ0, cZ1, cZ2, cZ3, cZf, cZz⟩ := blk4 ZZ3.out
  go_wp2_with fail
  obtain ⟨f0, f1, f2, f3, ff, fz⟩ := blk4 (set4_all ZZ3.out (.int .i64 0) (.int .i64 0) (.int .i64 0) (.slice none 0 0))
  refine bodyPost_ret (v := .tuple #[.agg #[.int .i64 0, .int .i64 0, .int .i64 0, .slice none 0 0], .bool false]) (by simp [results, Try.results8, go_sem, f0, f1, f2, f3, fz]) rfl ⟨_, rfl, ?_, ?_⟩
  · exact ⟨World.ownsRow_nil _ _ _ _, fun k hk => by simp [Value.ownBlock] at hk⟩
  · exact below_set4 HB3.out (by omega) _ _ _ _

set_option maxRecDepth 100000 in
set_option maxHeartbeats 4000000 in
theorem implSum_no3 (AP AR AC BP BR BC : Int) (dA dB : Value) (DA DB : List Int) (w : World) (hdA : Ints w dA DA) (hdB : Ints w dB DB) (ha : IsSp AP AR AC DA) (hb : IsSp BP BR BC DB) (hf : fitOk AP AC BP BC = false) :
    Calls Try.prog 8 #[.agg #[.int .i64 AP, .int .i64 AR, .int .i64 AC, dA], .agg #[.int .i64 BP, .int .i64 BR, .int .i64 BC, dB]] w fun e w' => RetMB w mxZero false e w' := by
  have Hka := Lib.hid ha
  have Hkb := Lib.hid hb
  have Hf := Lib.hid hf
  clear ha hb hf
  have HdA := Lib.hid hdA
  obtain ⟨pA, kA, rfl, ⟨_, mA⟩, _⟩ := hdA
  unfold maxLen at mA
  have HdB := Lib.hid hdB
  obtain ⟨pB, kB, rfl, ⟨_, mB⟩, _⟩ := hdB
  unfold maxLen at mB
  obtain ⟨z0, z1, z2⟩ := boxes_abz w (.cells #[.int .i64 AP, .int .i64 AR, .int .i64 AC, .slice pA DA.length kA] 26) (.cells #[.int .i64 BP, .int .i64 BR, .int .i64 BC, .slice pB DB.length kB] 26) (.cells #[.int .i64 0, .int .i64 0, .int .i64 0, .slice none 0 0] 26)
  have ZA1 := Lib.hid z0
  have ZB1 := Lib.hid z1
  have ZZ1 := Lib.hid z2
  clear z0 z1 z2
  have HB1 := Lib.hid (below_alloc3 w (.cells #[.int .i64 AP, .int .i64 AR, .int .i64 AC, .slice pA DA.length kA] 26) (.cells #[.int .i64 BP, .int .i64 BR, .int .i64 BC, .slice pB DB.length kB] 26) (.cells #[.int .i64 0, .int .i64 0, .int .i64 0, .slice none 0 0] 26))
  go_enter Try.func8, Try.ntmps8
  go_wp2_with fail
  have hs1 : (((w.alloc (.cells #[.int .i64 AP, .int .i64 AR, .int .i64 AC, .slice pA DA.length kA] 26)).alloc (.cells #[.int .i64 BP, .int .i64 BR, .int .i64 BC, .slice pB DB.length kB] 26)).alloc (.cells #[.int .i64 0, .int .i64 0, .int .i64 0, .slice none 0 0] 26)).heap.size = w.heap.size + 1 + 1 + 1 := by simp
  generalize ((w.alloc (.cells #[.int .i64 AP, .int .i64 AR, .int .i64 AC, .slice pA DA.length kA] 26)).alloc (.cells #[.int .i64 BP, .int .i64 BR, .int .i64 BC, .slice pB DB.length kB] 26)).alloc (.cells #[.int .i64 0, .int .i64 0, .int .i64 0, .slice none 0 0] 26) = w1 at *
  obtain ⟨cA0, cA1, cA2, cA3, cAf, cAz⟩ := blk4 ZA1.out
  go_wp2_with fail
  refine (implIsSpace_yes _ _ _ _ _ Hka.out _ (HdA.out.below HB1.out)).mono ?_
  rintro e w2 ⟨rfl, hb⟩
  have hs2 := hb.size
  have HB2 := Lib.hid (HB1.out.trans (hb.mono HB1.out.size))
  have ZA2 := Lib.hid (blk_later ZA1.out hb)
  have ZB2 := Lib.hid (blk_later ZB1.out hb)
  have ZZ2 := Lib.hid (blk_later ZZ1.out hb)
  clear hb ZA1 ZB1 ZZ1
  clear cA0 cA1 cA2 cA3 cAf cAz
  obtain ⟨cB0, cB1, cB2, cB3, cBf, cBz⟩ := blk4 ZB2.out
  go_wp2_with fail
  refine (implIsSpace_yes _ _ _ _ _ Hkb.out _ (HdB.out.below HB2.out)).mono ?_
  rintro e w3 ⟨rfl, hb⟩
  have hs3 := hb.size
  have HB3 := Lib.hid (HB2.out.trans (hb.mono HB2.out.size))
  have ZA3 := Lib.hid (blk_later ZA2.out hb)
  have ZB3 := Lib.hid (blk_later ZB2.out hb)
  have ZZ3 := Lib.hid (blk_later ZZ2.out hb)
  clear hb ZA2 ZB2 ZZ2
  clear cB0 cB1 cB2 cB3 cBf cBz
  obtain ⟨cA0, cA1, cA2, cA3, cAf, cAz⟩ := blk4 ZA3.out
  obtain ⟨cB0, cB1, cB2, cB3, cBf, cBz⟩ := blk4 ZB3.out
  go_wp2_with fail
  refine (fitTogether_any _ _ _ _ _ _ _ _ DA DB _ (HdA.out.below HB3.out) (HdB.out.below HB3.out)).mono ?_
  rintro e w4 ⟨rfl, hb⟩
  have hs4 := hb.size
  have HB4 := Lib.hid (HB3.out.trans (hb.mono HB3.out.size))
  have ZA4 := Lib.hid (blk_later ZA3.out hb)
  have ZB4 := Lib.hid (blk_later ZB3.out hb)
  have ZZ4 := Lib.hid (blk_later ZZ3.out hb)
  clear hb ZA3 ZB3 ZZ3
  clear cA0 cA1 cA2 cA3 cAf cAz cB0 cB1 cB2 cB3 cBf cBz
  rw [Hf.out]
  obtain ⟨cZ0, cZ1, cZ2, cZ3, cZf, cZz⟩ := blk4 ZZ4.out
  go_wp2_with fail
  obtain ⟨f0, f1, f2, f3, ff, fz⟩ := blk4 (set4_all ZZ4.out (.int .i64 0) (.int .i64 0) (.int .i64 0) (.slice none 0 0))
  refine bodyPost_ret (v := .tuple #[.agg #[.int .i64 0, .int .i64 0, .int .i64 0, .slice none 0 0], .bool false]) (by simp [results, Try.results8, go_sem, f0, f1, f2, f3, fz]) rfl ⟨_, rfl, ?_, ?_⟩
  · exact ⟨World.ownsRow_nil _ _ _ _, fun k hk => by simp [Value.ownBlock] at hk⟩
  · exact below_set4 HB4.out (by omega) _ _ _ _

set_option maxRecDepth 100000 in
set_option maxHeartbeats 8000000 in
theorem implSum_yes (AP AR AC BP BR BC : Int) (dA dB : Value) (DA DB : List Int) (w : World) (hdA : Ints w dA DA) (hdB : Ints w dB DB) (h : TwoIs AP AR AC DA BP BR BC DB) :
    Calls Try.prog 8 #[.agg #[.int .i64 AP, .int .i64 AR, .int .i64 AC, dA], .agg #[.int .i64 BP, .int .i64 BR, .int .i64 BC, dB]] w fun e w' => ∃ m, RetMB w m true e w' ∧ RowsIs AP AC.toNat (AR.toNat + BR.toNat) (stackM AR.toNat (mf AC.toNat fun t => DA.getD t 0) (mf AC.toNat fun t => DB.getD t 0)) m := by
  have Ht := Lib.hid h
  obtain ⟨⟨ka, sa⟩, ⟨kb, sb⟩, hPe, hCe⟩ := h
  subst hPe hCe
  obtain ⟨ra, c, rfl, rfl, hra, hc0, hc, hlA, hDA, hP2, hP7, hpr⟩ := mxOk_facts ka
  obtain ⟨rb, c2, rfl, hce, hrb, _, _, hlB, hDB, _, _, _⟩ := mxOk_facts kb
  obtain rfl := Int.ofNat.inj hce
  clear hce
  have Hka := Lib.hid (show IsSp AP ra c DA from ⟨ka, sa⟩)
  have Hkb := Lib.hid (show IsSp AP rb c DB from ⟨kb, sb⟩)
  have HgA := Lib.hid (fun t => getD_range hDA (by omega) t)
  have HgB := Lib.hid (fun t => getD_range hDB (by omega) t)
  have HlA := Lib.hid hlA
  have HlB := Lib.hid hlB
  have Hpr := Lib.hid hpr
  have HmA := Lib.hid (Nat.mul_le_mul hra hc)
  have HmB := Lib.hid (Nat.mul_le_mul hrb hc)
  clear ka sa kb sb hlA hlB hDA hDB hpr
  have Hf := Lib.hid (show fitOk AP c AP c = true by simp [fitOk])
  have HdA := Lib.hid hdA
  obtain ⟨pA, kA, rfl, ⟨_, mA⟩, _⟩ := hdA
  unfold maxLen at mA
  have HdB := Lib.hid hdB
  obtain ⟨pB, kB, rfl, ⟨_, mB⟩, _⟩ := hdB
  unfold maxLen at mB
  obtain ⟨z0, z1, z2⟩ := boxes_abz w (.cells #[.int .i64 AP, .int .i64 (ra : Int), .int .i64 (c : Int), .slice pA DA.length kA] 26) (.cells #[.int .i64 AP, .int .i64 (rb : Int), .int .i64 (c : Int), .slice pB DB.length kB] 26) (.cells #[.int .i64 0, .int .i64 0, .int .i64 0, .slice none 0 0] 26)
  have ZA1 := Lib.hid z0
  have ZB1 := Lib.hid z1
  have ZZ1 := Lib.hid z2
  clear z0 z1 z2
  have HB1 := Lib.hid (below_alloc3 w (.cells #[.int .i64 AP, .int .i64 (ra : Int), .int .i64 (c : Int), .slice pA DA.length kA] 26) (.cells #[.int .i64 AP, .int .i64 (rb : Int), .int .i64 (c : Int), .slice pB DB.length kB] 26) (.cells #[.int .i64 0, .int .i64 0, .int .i64 0, .slice none 0 0] 26))
  go_enter Try.func8, Try.ntmps8
  go_wp2_with fail
  have hs1 : (((w.alloc (.cells #[.int .i64 AP, .int .i64 (ra : Int), .int .i64 (c : Int), .slice pA DA.length kA] 26)).alloc (.cells #[.int .i64 AP, .int .i64 (rb : Int), .int .i64 (c : Int), .slice pB DB.length kB] 26)).alloc (.cells #[.int .i64 0, .int .i64 0, .int .i64 0, .slice none 0 0] 26)).heap.size = w.heap.size + 1 + 1 + 1 := by simp
  generalize ((w.alloc (.cells #[.int .i64 AP, .int .i64 (ra : Int), .int .i64 (c : Int), .slice pA DA.length kA] 26)).alloc (.cells #[.int .i64 AP, .int .i64 (rb : Int), .int .i64 (c : Int), .slice pB DB.length kB] 26)).alloc (.cells #[.int .i64 0, .int .i64 0, .int .i64 0, .slice none 0 0] 26) = w1 at *
  obtain ⟨cA0, cA1, cA2, cA3, cAf, cAz⟩ := blk4 ZA1.out
  go_wp2_with fail
  refine (implIsSpace_yes _ _ _ _ _ Hka.out _ (HdA.out.below HB1.out)).mono ?_
  rintro e w2 ⟨rfl, hb⟩
  have hs2 := hb.size
  have HB2 := Lib.hid (HB1.out.trans (hb.mono HB1.out.size))
  have ZA2 := Lib.hid (blk_later ZA1.out hb)
  have ZB2 := Lib.hid (blk_later ZB1.out hb)
  have ZZ2 := Lib.hid (blk_later ZZ1.out hb)
  clear hb ZA1 ZB1 ZZ1
  clear cA0 cA1 cA2 cA3 cAf cAz
  obtain ⟨cB0, cB1, cB2, cB3, cBf, cBz⟩ := blk4 ZB2.out
  go_wp2_with fail
  refine (implIsSpace_yes _ _ _ _ _ Hkb.out _ (HdB.out.below HB2.out)).mono ?_
  rintro e w3 ⟨rfl, hb⟩
  have hs3 := hb.size
  have HB3 := Lib.hid (HB2.out.trans (hb.mono HB2.out.size))
  have ZA3 := Lib.hid (blk_later ZA2.out hb)
  have ZB3 := Lib.hid (blk_later ZB2.out hb)
  have ZZ3 := Lib.hid (blk_later ZZ2.out hb)
  clear hb ZA2 ZB2 ZZ2
  clear cB0 cB1 cB2 cB3 cBf cBz
  obtain ⟨cA0, cA1, cA2, cA3, cAf, cAz⟩ := blk4 ZA3.out
  obtain ⟨cB0, cB1, cB2, cB3, cBf, cBz⟩ := blk4 ZB3.out
  go_wp2_with fail
  refine (fitTogether_any _ _ _ _ _ _ _ _ DA DB _ (HdA.out.below HB3.out) (HdB.out.below HB3.out)).mono ?_
  rintro e w4 ⟨rfl, hb⟩
  have hs4 := hb.size
  have HB4 := Lib.hid (HB3.out.trans (hb.mono HB3.out.size))
  have ZA4 := Lib.hid (blk_later ZA3.out hb)
  have ZB4 := Lib.hid (blk_later ZB3.out hb)
  have ZZ4 := Lib.hid (blk_later ZZ3.out hb)
  clear hb ZA3 ZB3 ZZ3
  clear cA0 cA1 cA2 cA3 cAf cAz cB0 cB1 cB2 cB3 cBf cBz
  rw [Hf.out]
  go_wp2_with fail
  obtain ⟨cA0, cA1, cA2, cA3, cAf, cAz⟩ := blk4 ZA4.out
  obtain ⟨cB0, cB1, cB2, cB3, cBf, cBz⟩ := blk4 ZB4.out
  have hne1 : w.heap.size ≠ w.heap.size + 1 + 1 := by omega
  have hne2 : w.heap.size + 1 ≠ w.heap.size + 1 + 1 := by omega
  have hne3 : w.heap.size ≤ w.heap.size + 1 + 1 := by omega
  go_region_held3 (fun w' => ((w'.cell? ⟨w.heap.size, 0, none⟩ = some (.int .i64 AP) ∧ w'.cell? ⟨w.heap.size, 1, none⟩ = some (.int .i64 (ra : Int)) ∧ w'.cell? ⟨w.heap.size, 2, none⟩ = some (.int .i64 (c : Int)) ∧ w'.cell? ⟨w.heap.size, 3, none⟩ = some (.slice pA DA.length kA) ∧ w'.cell? ⟨w.heap.size + 1, 0, none⟩ = some (.int .i64 AP) ∧ w'.cell? ⟨w.heap.size + 1, 1, none⟩ = some (.int .i64 (rb : Int)) ∧ w'.cell? ⟨w.heap.size + 1, 2, none⟩ = some (.int .i64 (c : Int)) ∧ w'.cell? ⟨w.heap.size + 1, 3, none⟩ = some (.slice pB DB.length kB)) ∧ ∃ y0 y1 y2 y3, w'.heap[w.heap.size + 1 + 1]? = some (.cells #[y0, y1, y2, y3] 26 (0, 0))) ∧ Below w.heap.size w w')
    (first | exact ⟨⟨⟨cA0, cA1, cA2, cA3, cB0, cB1, cB2, cB3⟩, _, _, _, _, ZZ4.out⟩, HB4.out.drew⟩ | exact keep9 hb1 (by assumption) | exact keep9B hbB (by omega) (by omega) (by omega) (by omega) (by assumption) | exact keep9_set hne1 hne2 hne3 _ _ _ _ (by assumption))
    (first
      | (go_at_call_of 34 (Value.slice pA DA.length kA); refine (lines_any AP ra c _ DA _ (held_ints HdA.out (by assumption)) (by omega) (by omega) hc0 HlA.out).mono ?_; rintro e w' ⟨u, rfl, hoA, hb1⟩; obtain ⟨pu, ku, rfl, _, _⟩ := hoA.shape; have hSa := held_lt (by assumption); have hBz : Below w.heap.size w w' := (held_below (by assumption)).trans (hb1.mono (by omega)))
      | (go_at_call_of 34 (Value.slice pB DB.length kB); have hSb := held_lt (by assumption); refine (lines_any AP rb c _ DB _ (held_ints HdB.out (by assumption)) (by omega) (by omega) hc0 HlB.out).mono ?_; rintro e w' ⟨u, rfl, hoB, hb1⟩; obtain ⟨pv, kv, rfl, _, _⟩ := hoB.shape; have hoA2 := (OwnII.below hoA (by first | exact Below.refl _ _ | exact (Below.refl _ _).drew)).below hb1; have hBz : Below w.heap.size w w' := (held_below (by assumption)).trans (hb1.mono (by have := held_lt (by assumption); omega)); have hsm := hb1.size)
      | (refine step_append_II rfl _ _ rfl (w.heap.size + 1 + 1 + 1) _ _ _ _ (rowsOf ra c DA) (rowsOf rb c DB) rfl rfl (OwnII.mono hoA2 hSa (Nat.le_refl _)) hoB hSb hsm (Nat.le_refl _) (by rw [rowsOf_length, rowsOf_length]; omega) ?_; clear hb1; intro v' w' hoJ hbB; obtain ⟨JL, hJL⟩ : ∃ JL, JL = rowsOf ra c DA ++ rowsOf rb c DB := ⟨_, rfl⟩; rw [← hJL] at hoJ; have HJL := Lib.hid hJL; clear hJL; obtain ⟨pj, kj, rfl, _, _⟩ := hoJ.shape; have hBz : Below w.heap.size w w' := (held_below (by assumption)).trans (hbB.mono (by omega)))
      | (go_at_call 33; refine (reduced_any _ JL c AP _ (OwnII.below hoJ (by first | exact Below.refl _ _ | exact (Below.refl _ _).drew)).rd (by rw [HJL.out]; exact RowsOk.join (rowsOf_ok HlA.out HgA.out) (rowsOf_ok HlB.out HgB.out)) Hpr.out (by rw [HJL.out, List.length_append, rowsOf_length, rowsOf_length]; omega) (by omega)).mono ?_; rintro e w' ⟨v, L, q, rfl, hoR, hb1, hR1, hR2, hR3, hR4, hR5⟩; obtain ⟨pv, kv, rfl, hkv1, hkv2⟩ := hoR.shape; have hSr := held_lt (by assumption); have hBz : Below w.heap.size w w' := (held_below (by assumption)).trans (hb1.mono (by omega)); have hfl := span_flat hR1; rw [HJL.out, List.length_append, rowsOf_length, rowsOf_length] at hR5)
      | (go_at_call 32; refine (matrixOf_any AP c _ L _ (OwnII.below hoR (by first | exact Below.refl _ _ | exact (Below.refl _ _).drew)).rd (span_small hR1 hR5 (by omega) (by omega))).mono ?_; rintro e w' ⟨um, rfl, hoM', hb1⟩; have hSm := held_lt (by assumption); have hBz : Below w.heap.size w w' := (held_below (by assumption)).trans (hb1.mono (by omega)); have hoM : OwnI 3 w' (w.heap.size + 1 + 1 + 1) w'.heap.size um L.flatten := OwnI.mono hoM' hSm (Nat.le_refl _); clear hoM'; obtain ⟨FL, hFL⟩ : ∃ FL, FL = L.flatten := ⟨_, rfl⟩; rw [← hFL] at hoM hfl; have HFL := Lib.hid hFL; clear hFL; obtain ⟨pm, km, rfl, _, _⟩ := hoM.shape; obtain ⟨y0, y1, y2, y3, hy⟩ := s9_blk (by assumption); have hy := blk_later hy hb1; obtain ⟨d0, d1, d2, d3, df, dz⟩ := blk4 hy))
  have hred : IsRed AP c (ra + rb) (stackM ra (mf c fun t => DA.getD t 0) (mf c fun t => DB.getD t 0)) L.length (mt L) q := ⟨hR2, hR3, fun i j hi hj => (hR1 i hi).2 j, (by rw [HJL.out] at hR4; exact rowsOf_join.trans hR4)⟩
  have Hred := Lib.hid hred
  have Hz4 := Lib.hid (set4_all hy (.int .i64 AP) (.int .i64 (L.length : Int)) (.int .i64 (c : Int)) (.slice pm FL.length km))
  have HoM := Lib.hid hoM
  have HBz := Lib.hid hBz
  have Hfl := Lib.hid hfl
  clear hy hoM hBz hb1 hbB d0 d1 d2 d3 df hred hR1 hR2 hR3 hR4 hfl hoA hoA2 hoB hoJ hoR
  obtain ⟨f0, f1, f2, f3, ff, fz⟩ := blk4 Hz4.out
  go_wp2_with fail
  refine bodyPost_ret (v := .tuple #[.agg #[.int .i64 AP, .int .i64 (L.length : Int), .int .i64 (c : Int), .slice pm FL.length km], .bool true]) (by simp [results, Try.results8, go_sem, f0, f1, f2, f3, fz]) rfl ⟨⟨AP, L.length, c, FL⟩, ⟨_, rfl, ?_, ?_⟩, ?_⟩
  · exact (own_set4 HoM.out (.inl (by omega)) _ _ _ _).mono (by omega) (by simp only [size_setCell]; omega)
  · exact below_set4 HBz.out (by omega) _ _ _ _
  · simp only [Int.toNat_natCast]
    exact ⟨L.length, mt L, q, Hred.out, by rw [← Hfl.out]⟩

theorem implSum_ex (AP AR AC BP BR BC : Int) (dA dB : Value) (DA DB : List Int) (w : World) (hdA : Ints w dA DA) (hdB : Ints w dB DB) :
    Calls Try.prog 8 #[.agg #[.int .i64 AP, .int .i64 AR, .int .i64 AC, dA], .agg #[.int .i64 BP, .int .i64 BR, .int .i64 BC, dB]] w fun e w' => ∃ m ok, SmIs AP AR AC DA BP BR BC DB m ok ∧ RetMB w m ok e w' := by
  by_cases h : TwoIs AP AR AC DA BP BR BC DB
  · exact (implSum_yes AP AR AC BP BR BC dA dB DA DB w hdA hdB h).mono fun e w' ⟨m, r1, r2⟩ => ⟨m, true, .inl ⟨h, rfl, r2⟩, r1⟩
  · rcases Classical.em (IsSp AP AR AC DA) with ha | ha
    · rcases Classical.em (IsSp BP BR BC DB) with hb | hb
      · refine (implSum_no3 AP AR AC BP BR BC dA dB DA DB w hdA hdB ha hb ?_).mono fun e w' r => ⟨_, _, .inr ⟨h, rfl, rfl⟩, r⟩
        cases hf : fitOk AP AC BP BC with
        | false => rfl
        | true =>
          simp [fitOk] at hf
          exact absurd ⟨ha, hb, hf.1, hf.2⟩ h
      · exact (implSum_no2 AP AR AC BP BR BC dA dB DA DB w hdA hdB ha hb).mono fun e w' r => ⟨_, _, .inr ⟨h, rfl, rfl⟩, r⟩
    · exact (implSum_no1 AP AR AC BP BR BC dA dB DA DB w hdA hdB ha).mono fun e w' r => ⟨_, _, .inr ⟨h, rfl, rfl⟩, r⟩
theorem implSum_any (AP AR AC BP BR BC : Int) (dA dB : Value) (DA DB : List Int) (w : World) (hdA : Ints w dA DA) (hdB : Ints w dB DB) :
    Calls Try.prog 8 #[.agg #[.int .i64 AP, .int .i64 AR, .int .i64 AC, dA], .agg #[.int .i64 BP, .int .i64 BR, .int .i64 BC, dB]] w (RetMB w (Classical.epsilon (PrQ (SmIs AP AR AC DA BP BR BC DB))).1 (Classical.epsilon (PrQ (SmIs AP AR AC DA BP BR BC DB))).2) :=
  (implSum_ex AP AR AC BP BR BC dA dB DA DB w hdA hdB).mono fun e w' ⟨m, ok, h1, h2⟩ => by
    obtain ⟨e1, e2⟩ := PrQ.eps SmIs.one h1
    rw [← e1, ← e2]; exact h2

end Go.Proofs.Ytmnlpkmnbjoicaa
