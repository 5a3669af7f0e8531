/-
  SumSpaces, on both sides.
  append(x, make([]int, m)...) on a slice that the call made: laws over any program.
  l7Corner, CornerRank. (DRAFT)
  What two spaces have in common: the plain law.
-/
import Derived.Test.YtmnlpkmnbjoicaaJ9
import Derived.Test.YtmnlpkmnbjoicaaJ2
import Derived.Test.YtmnlpkmnbjoicaaJ7
namespace Go.Proofs.Ytmnlpkmnbjoicaa
set_option linter.all false
open Go.RowKit

/-- a matrix and a bool that are known by a property, or none -/
def PrQ (Q : Mx → Bool → Prop) (x : Mx × Bool) : Prop := Q x.1 x.2 ∨ ((∀ m b, ¬ Q m b) ∧ x = (mxZero, false))
theorem PrQ.spec (Q : Mx → Bool → Prop) : PrQ Q (Classical.epsilon (PrQ Q)) := by
  refine Classical.epsilon_spec (p := PrQ Q) ?_
  by_cases h : ∃ m b, Q m b
  · obtain ⟨m, b, h⟩ := h
    exact ⟨(m, b), .inl h⟩
  · exact ⟨(mxZero, false), .inr ⟨fun m b hq => h ⟨m, b, hq⟩, rfl⟩⟩
theorem PrQ.eps {Q : Mx → Bool → Prop} {m : Mx} {b : Bool} (hone : ∀ m b m' b', Q m b → Q m' b' → m = m' ∧ b = b') (h : Q m b) : m = (Classical.epsilon (PrQ Q)).1 ∧ b = (Classical.epsilon (PrQ Q)).2 := by
  rcases PrQ.spec Q with h2 | ⟨h2, _⟩
  · exact hone _ _ _ _ h h2
  · exact absurd h (h2 m b)

/-- the reduced form of what rows span, as a matrix -/
def RowsIs (P : Int) (C R : Nat) (M0 : Nat → Nat → Int) (m : Mx) : Prop := ∃ (n : Nat) (M : Nat → Nat → Int) (q : Nat → Nat), IsRed P C R M0 n M q ∧ m = ⟨P, n, C, flatM n C M⟩
theorem RowsIs.one {P : Int} {C R : Nat} {M0 : Nat → Nat → Int} {m m' : Mx} (hP : 2 ≤ P) (h : RowsIs P C R M0 m) (h' : RowsIs P C R M0 m') : m = m' := by
  obtain ⟨n, M, q, h1, rfl⟩ := h
  obtain ⟨n', M', q', h1', rfl⟩ := h'
  obtain ⟨e1, _, e3⟩ := h1.one hP h1'
  subst e1
  rw [flatM_congr e3]
theorem RowsIs.len {P : Int} {C R : Nat} {M0 : Nat → Nat → Int} {m : Mx} (hC : C ≤ 14) (h : RowsIs P C R M0 m) : m.D.length ≤ 1000 := by
  obtain ⟨n, M, q, h1, rfl⟩ := h
  have a := asc_bound h1.2.1 h1.1.lt
  have b := Nat.mul_le_mul (Nat.le_trans a hC) hC
  show (flatM n C M).length ≤ 1000
  rw [flatM_length]
  omega
theorem RowsIs.same {P : Int} {C R R' : Nat} {M0 M1 : Nat → Nat → Int} {m : Mx} (h : RowsIs P C R M0 m) (hs : SameSp P C R' M1 R M0) : RowsIs P C R' M1 m := by
  obtain ⟨n, M, q, ⟨h1, h2, h3, h4⟩, rfl⟩ := h
  exact ⟨n, M, q, ⟨h1, h2, h3, hs.trans h4⟩, rfl⟩

/-- what SumSpaces returns -/
def SmIs (P R C : Int) (D : List Int) (P' R' C' : Int) (D' : List Int) (m : Mx) (ok : Bool) : Prop :=
  (TwoIs P R C D P' R' C' D' ∧ ok = true ∧ RowsIs P C.toNat (R.toNat + R'.toNat) (stackM R.toNat (mf C.toNat fun t => D.getD t 0) (mf C.toNat fun t => D'.getD t 0)) m) ∨ (¬ TwoIs P R C D P' R' C' D' ∧ ok = false ∧ m = mxZero)
theorem SmIs.one {P R C : Int} {D : List Int} {P' R' C' : Int} {D' : List Int} (m : Mx) (b : Bool) (m' : Mx) (b' : Bool) (h : SmIs P R C D P' R' C' D' m b) (h' : SmIs P R C D P' R' C' D' m' b') : m = m' ∧ b = b' := by
  rcases h with ⟨t, rfl, h⟩ | ⟨t, rfl, rfl⟩
  · rcases h' with ⟨_, rfl, h'⟩ | ⟨t', _, _⟩
    · obtain ⟨_, _, _, _, _, _, _, _, _, hP, _⟩ := mxOk_facts t.1.1
      exact ⟨h.one hP h', rfl⟩
    · exact absurd t t'
  · rcases h' with ⟨t', _, _⟩ | ⟨_, rfl, rfl⟩
    · exact absurd t' t
    · exact ⟨rfl, rfl⟩
theorem sum_len (P R C : Int) (D : List Int) (P' R' C' : Int) (D' : List Int) : (Classical.epsilon (PrQ (SmIs P R C D P' R' C' D'))).1.D.length ≤ 1000 := by
  rcases PrQ.spec (SmIs P R C D P' R' C' D') with h | ⟨_, h⟩
  · rcases h with ⟨t, _, h⟩ | ⟨_, _, h⟩
    · obtain ⟨r, c, _, rfl, _, _, hc, _⟩ := mxOk_facts t.1.1
      exact h.len (by simp; omega)
    · rw [h]; simp [mxZero]
  · rw [h]; simp [mxZero]

/-- what lies flat, one behind the other -/
theorem both_mf {C R R' : Nat} {D D' : List Int} (hl : D.length = R * C) {i c : Nat} (hi : i < R + R') (hc : c < C) :
    mf C (fun t => (D ++ D').getD t 0) i c = stackM R (mf C fun t => D.getD t 0) (mf C fun t => D'.getD t 0) i c := by
  unfold mf
  by_cases h : i < R
  · rw [stackM_lt h]
    have h1 : i * C + c < R * C := by
      have : (i + 1) * C ≤ R * C := Nat.mul_le_mul_right C h
      rw [Nat.succ_mul] at this
      omega
    simp [List.getD_eq_getElem?_getD, List.getElem?_append_left (show i * C + c < D.length by omega)]
  · rw [stackM_ge h]
    obtain ⟨k, rfl⟩ : ∃ k, i = R + k := ⟨i - R, by omega⟩
    have e : (R + k) * C + c - R * C = (R + k - R) * C + c := by rw [Nat.add_mul, Nat.add_sub_cancel_left]; omega
    simp only [List.getD_eq_getElem?_getD]
    rw [List.getElem?_append_right (by rw [hl, Nat.add_mul]; omega), hl, e]
theorem both_rng {P : Int} {D D' : List Int} (hP : 0 < P) (h : ∀ t, 0 ≤ D.getD t 0 ∧ D.getD t 0 < P) (h' : ∀ t, 0 ≤ D'.getD t 0 ∧ D'.getD t 0 < P) (t : Nat) : 0 ≤ (D ++ D').getD t 0 ∧ (D ++ D').getD t 0 < P := by
  by_cases e : t < D.length
  · rw [List.getD_eq_getElem?_getD, List.getElem?_append_left e, ← List.getD_eq_getElem?_getD]; exact h t
  · rw [List.getD_eq_getElem?_getD, List.getElem?_append_right (by omega), ← List.getD_eq_getElem?_getD]; exact h' _
theorem getD_app_lt {a b : List (List Int)} {i : Nat} (h : i < a.length) : (a ++ b).getD i [] = a.getD i [] := by simp [List.getD_eq_getElem?_getD, List.getElem?_append_left h]
theorem getD_app_ge {a b : List (List Int)} {i : Nat} (h : ¬ i < a.length) : (a ++ b).getD i [] = b.getD (i - a.length) [] := by simp [List.getD_eq_getElem?_getD, List.getElem?_append_right (Nat.le_of_not_lt h)]
/-- rows behind rows -/
theorem rowsOf_join {P : Int} {R R' C : Nat} {D D' : List Int} : SameSp P C (R + R') (stackM R (mf C fun t => D.getD t 0) (mf C fun t => D'.getD t 0)) (rowsOf R C D ++ rowsOf R' C D').length (mt (rowsOf R C D ++ rowsOf R' C D')) := by
  rw [List.length_append, rowsOf_length, rowsOf_length]
  refine SameSp.of_eqv fun i hi => .of_eq fun c hc => ?_
  unfold mt
  by_cases h : i < R
  · rw [stackM_lt h, getD_app_lt (by rw [rowsOf_length]; exact h), rowsOf_getD h, rowAt_getD hc]
    rfl
  · rw [stackM_ge h, getD_app_ge (by rw [rowsOf_length]; exact h), rowsOf_length, rowsOf_getD (by omega), rowAt_getD hc]
    rfl
theorem RowsOk.join {p : Int} {C : Nat} {a b : List (List Int)} (ha : RowsOk p C a) (hb : RowsOk p C b) : RowsOk p C (a ++ b) := fun i hi => by
  by_cases h : i < a.length
  · rw [getD_app_lt h]; exact ha i h
  · rw [List.length_append] at hi
    rw [getD_app_ge h]; exact hb _ (by omega)


set_option maxRecDepth 100000 in
set_option maxHeartbeats 4000000 in
theorem implSum_no1 (AP AR AC BP BR BC : Int) (dA dB : Value) (DA DB : List Int) (w : World) (hdA : Ints w dA DA) (hdB : Ints w dB DB) (ha : ¬ IsSp AP AR AC DA) :
    Calls Try.prog 8 #[.agg #[.int .i64 AP, .int .i64 AR, .int .i64 AC, dA], .agg #[.int .i64 BP, .int .i64 BR, .int .i64 BC, dB]] w fun e w' => RetMB w mxZero false e w' := by
  have Hka := Lib.hid ha
  clear ha
  have HdA := Lib.hid hdA
  obtain ⟨pA, kA, rfl, ⟨_, mA⟩, _⟩ := hdA
  unfold maxLen at mA
  have HdB := Lib.hid hdB
  obtain ⟨pB, kB, rfl, ⟨_, mB⟩, _⟩ := hdB
  unfold maxLen at mB
  obtain ⟨z0, z1, z2⟩ := boxes_abz w (.cells #[.int .i64 AP, .int .i64 AR, .int .i64 AC, .slice pA DA.length kA] 26) (.cells #[.int .i64 BP, .int .i64 BR, .int .i64 BC, .slice pB DB.length kB] 26) (.cells #[.int .i64 0, .int .i64 0, .int .i64 0, .slice none 0 0] 26)
  have ZA1 := Lib.hid z0
  have ZB1 := Lib.hid z1
  have ZZ1 := Lib.hid z2
  clear z0 z1 z2
  have HB1 := Lib.hid (below_alloc3 w (.cells #[.int .i64 AP, .int .i64 AR, .int .i64 AC, .slice pA DA.length kA] 26) (.cells #[.int .i64 BP, .int .i64 BR, .int .i64 BC, .slice pB DB.length kB] 26) (.cells #[.int .i64 0, .int .i64 0, .int .i64 0, .slice none 0 0] 26))
  go_enter Try.func8, Try.ntmps8
  go_wp2_with fail
  have hs1 : (((w.alloc (.cells #[.int .i64 AP, .int .i64 AR, .int .i64 AC, .slice pA DA.length kA] 26)).alloc (.cells #[.int .i64 BP, .int .i64 BR, .int .i64 BC, .slice pB DB.length kB] 26)).alloc (.cells #[.int .i64 0, .int .i64 0, .int .i64 0, .slice none 0 0] 26)).heap.size = w.heap.size + 1 + 1 + 1 := by simp
  generalize ((w.alloc (.cells #[.int .i64 AP, .int .i64 AR, .int .i64 AC, .slice pA DA.length kA] 26)).alloc (.cells #[.int .i64 BP, .int .i64 BR, .int .i64 BC, .slice pB DB.length kB] 26)).alloc (.cells #[.int .i64 0, .int .i64 0, .int .i64 0, .slice none 0 0] 26) = w1 at *
  obtain ⟨cA0, cA1, cA2, cA3, cAf, cAz⟩ := blk4 ZA1.out
  go_wp2_with fail
  refine (implIsSpace_no _ _ _ _ _ Hka.out _ (HdA.out.below HB1.out)).mono ?_
  rintro e w2 ⟨rfl, hb⟩
  have hs2 := hb.size
  have HB2 := Lib.hid (HB1.out.trans (hb.mono HB1.out.size))
  have ZA2 := Lib.hid (blk_later ZA1.out hb)
  have ZB2 := Lib.hid (blk_later ZB1.out hb)
  have ZZ2 := Lib.hid (blk_later ZZ1.out hb)
  clear hb ZA1 ZB1 ZZ1
  clear cA0 cA1 cA2 cA3 cAf cAz
  obtain ⟨cZ0, cZ1, cZ2, cZ3, cZf, cZz⟩ := blk4 ZZ2.out
  go_wp2_with fail
  obtain ⟨f0, f1, f2, f3, ff, fz⟩ := blk4 (set4_all ZZ2.out (.int .i64 0) (.int .i64 0) (.int .i64 0) (.slice none 0 0))
  refine bodyPost_ret (v := .tuple #[.agg #[.int .i64 0, .int .i64 0, .int .i64 0, .slice none 0 0], .bool false]) (by simp [results, Try.results8, go_sem, f0, f1, f2, f3, fz]) rfl ⟨_, rfl, ?_, ?_⟩
  · exact ⟨World.ownsRow_nil _ _ _ _, fun k hk => by simp [Value.ownBlock] at hk⟩
  · exact below_set4 HB2.out (by omega) _ _ _ _

set_option maxRecDepth 100000 in
set_option maxHeartbeats 4000000 in
theorem implSum_no2 (AP AR AC BP BR BC : Int) (dA dB : Value) (DA DB : List Int) (w : World) (hdA : Ints w dA DA) (hdB : Ints w dB DB) (ha : IsSp AP AR AC DA) (hb : ¬ IsSp BP BR BC DB) :
    Calls Try.prog 8 #[.agg #[.int .i64 AP, .int .i64 AR, .int .i64 AC, dA], .agg #[.int .i64 BP, .int .i64 BR, .int .i64 BC, dB]] w fun e w' => RetMB w mxZero false e w' := by
  have Hka := Lib.hid ha
  have Hkb := Lib.hid hb
  clear ha hb
  have HdA := Lib.hid hdA
  obtain ⟨pA, kA, rfl, ⟨_, mA⟩, _⟩ := hdA
  unfold maxLen at mA
  have HdB := Lib.hid hdB
  obtain ⟨pB, kB, rfl, ⟨_, mB⟩, _⟩ := hdB
  unfold maxLen at mB
  obtain ⟨z0, z1, z2⟩ := boxes_abz w (.cells #[.int .i64 AP, .int .i64 AR, .int .i64 AC, .slice pA DA.length kA] 26) (.cells #[.int .i64 BP, .int .i64 BR, .int .i64 BC, .slice pB DB.length kB] 26) (.cells #[.int .i64 0, .int .i64 0, .int .i64 0, .slice none 0 0] 26)
  have ZA1 := Lib.hid z0
  have ZB1 := Lib.hid z1
  have ZZ1 := Lib.hid z2
  clear z0 z1 z2
  have HB1 := Lib.hid (below_alloc3 w (.cells #[.int .i64 AP, .int .i64 AR, .int .i64 AC, .slice pA DA.length kA] 26) (.cells #[.int .i64 BP, .int .i64 BR, .int .i64 BC, .slice pB DB.length kB] 26) (.cells #[.int .i64 0, .int .i64 0, .int .i64 0, .slice none 0 0] 26))
  go_enter Try.func8, Try.ntmps8
  go_wp2_with fail
  have hs1 : (((w.alloc (.cells #[.int .i64 AP, .int .i64 AR, .int .i64 AC, .slice pA DA.length kA] 26)).alloc (.cells #[.int .i64 BP, .int .i64 BR, .int .i64 BC, .slice pB DB.length kB] 26)).alloc (.cells #[.int .i64 0, .int .i64 0, .int .i64 0, .slice none 0 0] 26)).heap.size = w.heap.size + 1 + 1 + 1 := by simp
  generalize ((w.alloc (.cells #[.int .i64 AP, .int .i64 AR, .int .i64 AC, .slice pA DA.length kA] 26)).alloc (.cells #[.int .i64 BP, .int .i64 BR, .int .i64 BC, .slice pB DB.length kB] 26)).alloc (.cells #[.int .i64 0, .int .i64 0, .int .i64 0, .slice none 0 0] 26) = w1 at *
  obtain ⟨cA0, cA1, cA2, cA3, cAf, cAz⟩ := blk4 ZA1.out
  go_wp2_with fail
  refine (implIsSpace_yes _ _ _ _ _ Hka.out _ (HdA.out.below HB1.out)).mono ?_
  rintro e w2 ⟨rfl, hb⟩
  have hs2 := hb.size
  have HB2 := Lib.hid (HB1.out.trans (hb.mono HB1.out.size))
  have ZA2 := Lib.hid (blk_later ZA1.out hb)
  have ZB2 := Lib.hid (blk_later ZB1.out hb)
  have ZZ2 := Lib.hid (blk_later ZZ1.out hb)
  clear hb ZA1 ZB1 ZZ1
  clear cA0 cA1 cA2 cA3 cAf cAz
  obtain ⟨cB0, cB1, cB2, cB3, cBf, cBz⟩ := blk4 ZB2.out
  go_wp2_with fail
  refine (implIsSpace_no _ _ _ _ _ Hkb.out _ (HdB.out.below HB2.out)).mono ?_
  rintro e w3 ⟨rfl, hb⟩
  have hs3 := hb.size
  have HB3 := Lib.hid (HB2.out.trans (hb.mono HB2.out.size))
  have ZA3 := Lib.hid (blk_later ZA2.out hb)
  have ZB3 := Lib.hid (blk_later ZB2.out hb)
  have ZZ3 := Lib.hid (blk_later ZZ2.out hb)
  clear hb ZA2 ZB2 ZZ2
  clear cB0 cB1 cB2 cB3 cBf cBz
  obtain ⟨cZ0, cZ1, cZ2, cZ3, cZf, cZz⟩ := blk4 ZZ3.out
  go_wp2_with fail
  obtain ⟨f0, f1, f2, f3, ff, fz⟩ := blk4 (set4_all ZZ3.out (.int .i64 0) (.int .i64 0) (.int .i64 0) (.slice none 0 0))
  refine bodyPost_ret (v := .tuple #[.agg #[.int .i64 0, .int .i64 0, .int .i64 0, .slice none 0 0], .bool false]) (by simp [results, Try.results8, go_sem, f0, f1, f2, f3, fz]) rfl ⟨_, rfl, ?_, ?_⟩
  · exact ⟨World.ownsRow_nil _ _ _ _, fun k hk => by simp [Value.ownBlock] at hk⟩
  · exact below_set4 HB3.out (by omega) _ _ _ _

set_option maxRecDepth 100000 in
set_option maxHeartbeats 4000000 in
theorem implSum_no3 (AP AR AC BP BR BC : Int) (dA dB : Value) (DA DB : List Int) (w : World) (hdA : Ints w dA DA) (hdB : Ints w dB DB) (ha : IsSp AP AR AC DA) (hb : IsSp BP BR BC DB) (hf : fitOk AP AC BP BC = false) :
    Calls Try.prog 8 #[.agg #[.int .i64 AP, .int .i64 AR, .int .i64 AC, dA], .agg #[.int .i64 BP, .int .i64 BR, .int .i64 BC, dB]] w fun e w' => RetMB w mxZero false e w' := by
  have Hka := Lib.hid ha
  have Hkb := Lib.hid hb
  have Hf := Lib.hid hf
  clear ha hb hf
  have HdA := Lib.hid hdA
  obtain ⟨pA, kA, rfl, ⟨_, mA⟩, _⟩ := hdA
  unfold maxLen at mA
  have HdB := Lib.hid hdB
  obtain ⟨pB, kB, rfl, ⟨_, mB⟩, _⟩ := hdB
  unfold maxLen at mB
  obtain ⟨z0, z1, z2⟩ := boxes_abz w (.cells #[.int .i64 AP, .int .i64 AR, .int .i64 AC, .slice pA DA.length kA] 26) (.cells #[.int .i64 BP, .int .i64 BR, .int .i64 BC, .slice pB DB.length kB] 26) (.cells #[.int .i64 0, .int .i64 0, .int .i64 0, .slice none 0 0] 26)
  have ZA1 := Lib.hid z0
  have ZB1 := Lib.hid z1
  have ZZ1 := Lib.hid z2
  clear z0 z1 z2
  have HB1 := Lib.hid (below_alloc3 w (.cells #[.int .i64 AP, .int .i64 AR, .int .i64 AC, .slice pA DA.length kA] 26) (.cells #[.int .i64 BP, .int .i64 BR, .int .i64 BC, .slice pB DB.length kB] 26) (.cells #[.int .i64 0, .int .i64 0, .int .i64 0, .slice none 0 0] 26))
  go_enter Try.func8, Try.ntmps8
  go_wp2_with fail
  have hs1 : (((w.alloc (.cells #[.int .i64 AP, .int .i64 AR, .int .i64 AC, .slice pA DA.length kA] 26)).alloc (.cells #[.int .i64 BP, .int .i64 BR, .int .i64 BC, .slice pB DB.length kB] 26)).alloc (.cells #[.int .i64 0, .int .i64 0, .int .i64 0, .slice none 0 0] 26)).heap.size = w.heap.size + 1 + 1 + 1 := by simp
  generalize ((w.alloc (.cells #[.int .i64 AP, .int .i64 AR, .int .i64 AC, .slice pA DA.length kA] 26)).alloc (.cells #[.int .i64 BP, .int .i64 BR, .int .i64 BC, .slice pB DB.length kB] 26)).alloc (.cells #[.int .i64 0, .int .i64 0, .int .i64 0, .slice none 0 0] 26) = w1 at *
  obtain ⟨cA0, cA1, cA2, cA3, cAf, cAz⟩ := blk4 ZA1.out
  go_wp2_with fail
  refine (implIsSpace_yes _ _ _ _ _ Hka.out _ (HdA.out.below HB1.out)).mono ?_
  rintro e w2 ⟨rfl, hb⟩
  have hs2 := hb.size
  have HB2 := Lib.hid (HB1.out.trans (hb.mono HB1.out.size))
  have ZA2 := Lib.hid (blk_later ZA1.out hb)
  have ZB2 := Lib.hid (blk_later ZB1.out hb)
  have ZZ2 := Lib.hid (blk_later ZZ1.out hb)
  clear hb ZA1 ZB1 ZZ1
  clear cA0 cA1 cA2 cA3 cAf cAz
  obtain ⟨cB0, cB1, cB2, cB3, cBf, cBz⟩ := blk4 ZB2.out
  go_wp2_with fail
  refine (implIsSpace_yes _ _ _ _ _ Hkb.out _ (HdB.out.below HB2.out)).mono ?_
  rintro e w3 ⟨rfl, hb⟩
  have hs3 := hb.size
  have HB3 := Lib.hid (HB2.out.trans (hb.mono HB2.out.size))
  have ZA3 := Lib.hid (blk_later ZA2.out hb)
  have ZB3 := Lib.hid (blk_later ZB2.out hb)
  have ZZ3 := Lib.hid (blk_later ZZ2.out hb)
  clear hb ZA2 ZB2 ZZ2
  clear cB0 cB1 cB2 cB3 cBf cBz
  obtain ⟨cA0, cA1, cA2, cA3, cAf, cAz⟩ := blk4 ZA3.out
  obtain ⟨cB0, cB1, cB2, cB3, cBf, cBz⟩ := blk4 ZB3.out
  go_wp2_with fail
  refine (fitTogether_any _ _ _ _ _ _ _ _ DA DB _ (HdA.out.below HB3.out) (HdB.out.below HB3.out)).mono ?_
  rintro e w4 ⟨rfl, hb⟩
  have hs4 := hb.size
  have HB4 := Lib.hid (HB3.out.trans (hb.mono HB3.out.size))
  have ZA4 := Lib.hid (blk_later ZA3.out hb)
  have ZB4 := Lib.hid (blk_later ZB3.out hb)
  have ZZ4 := Lib.hid (blk_later ZZ3.out hb)
  clear hb ZA3 ZB3 ZZ3
  clear cA0 cA1 cA2 cA3 cAf cAz cB0 cB1 cB2 cB3 cBf cBz
  rw [Hf.out]
  obtain ⟨cZ0, cZ1, cZ2, cZ3, cZf, cZz⟩ := blk4 ZZ4.out
  go_wp2_with fail
  obtain ⟨f0, f1, f2, f3, ff, fz⟩ := blk4 (set4_all ZZ4.out (.int .i64 0) (.int .i64 0) (.int .i64 0) (.slice none 0 0))
  refine bodyPost_ret (v := .tuple #[.agg #[.int .i64 0, .int .i64 0, .int .i64 0, .slice none 0 0], .bool false]) (by simp [results, Try.results8, go_sem, f0, f1, f2, f3, fz]) rfl ⟨_, rfl, ?_, ?_⟩
  · exact ⟨World.ownsRow_nil _ _ _ _, fun k hk => by simp [Value.ownBlock] at hk⟩
  · exact below_set4 HB4.out (by omega) _ _ _ _

set_option maxRecDepth 100000 in
set_option maxHeartbeats 8000000 in
theorem implSum_yes (AP AR AC BP BR BC : Int) (dA dB : Value) (DA DB : List Int) (w : World) (hdA : Ints w dA DA) (hdB : Ints w dB DB) (h : TwoIs AP AR AC DA BP BR BC DB) :
    Calls Try.prog 8 #[.agg #[.int .i64 AP, .int .i64 AR, .int .i64 AC, dA], .agg #[.int .i64 BP, .int .i64 BR, .int .i64 BC, dB]] w fun e w' => ∃ m, RetMB w m true e w' ∧ RowsIs AP AC.toNat (AR.toNat + BR.toNat) (stackM AR.toNat (mf AC.toNat fun t => DA.getD t 0) (mf AC.toNat fun t => DB.getD t 0)) m := by
  have Ht := Lib.hid h
  obtain ⟨⟨ka, sa⟩, ⟨kb, sb⟩, hPe, hCe⟩ := h
  subst hPe hCe
  obtain ⟨ra, c, rfl, rfl, hra, hc0, hc, hlA, hDA, hP2, hP7, hpr⟩ := mxOk_facts ka
  obtain ⟨rb, c2, rfl, hce, hrb, _, _, hlB, hDB, _, _, _⟩ := mxOk_facts kb
  obtain rfl := Int.ofNat.inj hce
  clear hce
  have Hka := Lib.hid (show IsSp AP ra c DA from ⟨ka, sa⟩)
  have Hkb := Lib.hid (show IsSp AP rb c DB from ⟨kb, sb⟩)
  have HgA := Lib.hid (fun t => getD_range hDA (by omega) t)
  have HgB := Lib.hid (fun t => getD_range hDB (by omega) t)
  have HlA := Lib.hid hlA
  have HlB := Lib.hid hlB
  have Hpr := Lib.hid hpr
  have HmA := Lib.hid (Nat.mul_le_mul hra hc)
  have HmB := Lib.hid (Nat.mul_le_mul hrb hc)
  clear ka sa kb sb hlA hlB hDA hDB hpr
  have Hf := Lib.hid (show fitOk AP c AP c = true by simp [fitOk])
  have HdA := Lib.hid hdA
  obtain ⟨pA, kA, rfl, ⟨_, mA⟩, _⟩ := hdA
  unfold maxLen at mA
  have HdB := Lib.hid hdB
  obtain ⟨pB, kB, rfl, ⟨_, mB⟩, _⟩ := hdB
  unfold maxLen at mB
  obtain ⟨z0, z1, z2⟩ := boxes_abz w (.cells #[.int .i64 AP, .int .i64 (ra : Int), .int .i64 (c : Int), .slice pA DA.length kA] 26) (.cells #[.int .i64 AP, .int .i64 (rb : Int), .int .i64 (c : Int), .slice pB DB.length kB] 26) (.cells #[.int .i64 0, .int .i64 0, .int .i64 0, .slice none 0 0] 26)
  have ZA1 := Lib.hid z0
  have ZB1 := Lib.hid z1
  have ZZ1 := Lib.hid z2
  clear z0 z1 z2
  have HB1 := Lib.hid (below_alloc3 w (.cells #[.int .i64 AP, .int .i64 (ra : Int), .int .i64 (c : Int), .slice pA DA.length kA] 26) (.cells #[.int .i64 AP, .int .i64 (rb : Int), .int .i64 (c : Int), .slice pB DB.length kB] 26) (.cells #[.int .i64 0, .int .i64 0, .int .i64 0, .slice none 0 0] 26))
  go_enter Try.func8, Try.ntmps8
  go_wp2_with fail
  have hs1 : (((w.alloc (.cells #[.int .i64 AP, .int .i64 (ra : Int), .int .i64 (c : Int), .slice pA DA.length kA] 26)).alloc (.cells #[.int .i64 AP, .int .i64 (rb : Int), .int .i64 (c : Int), .slice pB DB.length kB] 26)).alloc (.cells #[.int .i64 0, .int .i64 0, .int .i64 0, .slice none 0 0] 26)).heap.size = w.heap.size + 1 + 1 + 1 := by simp
  generalize ((w.alloc (.cells #[.int .i64 AP, .int .i64 (ra : Int), .int .i64 (c : Int), .slice pA DA.length kA] 26)).alloc (.cells #[.int .i64 AP, .int .i64 (rb : Int), .int .i64 (c : Int), .slice pB DB.length kB] 26)).alloc (.cells #[.int .i64 0, .int .i64 0, .int .i64 0, .slice none 0 0] 26) = w1 at *
  obtain ⟨cA0, cA1, cA2, cA3, cAf, cAz⟩ := blk4 ZA1.out
  go_wp2_with fail
  refine (implIsSpace_yes _ _ _ _ _ Hka.out _ (HdA.out.below HB1.out)).mono ?_
  rintro e w2 ⟨rfl, hb⟩
  have hs2 := hb.size
  have HB2 := Lib.hid (HB1.out.trans (hb.mono HB1.out.size))
  have ZA2 := Lib.hid (blk_later ZA1.out hb)
  have ZB2 := Lib.hid (blk_later ZB1.out hb)
  have ZZ2 := Lib.hid (blk_later ZZ1.out hb)
  clear hb ZA1 ZB1 ZZ1
  clear cA0 cA1 cA2 cA3 cAf cAz
  obtain ⟨cB0, cB1, cB2, cB3, cBf, cBz⟩ := blk4 ZB2.out
  go_wp2_with fail
  refine (implIsSpace_yes _ _ _ _ _ Hkb.out _ (HdB.out.below HB2.out)).mono ?_
  rintro e w3 ⟨rfl, hb⟩
  have hs3 := hb.size
  have HB3 := Lib.hid (HB2.out.trans (hb.mono HB2.out.size))
  have ZA3 := Lib.hid (blk_later ZA2.out hb)
  have ZB3 := Lib.hid (blk_later ZB2.out hb)
  have ZZ3 := Lib.hid (blk_later ZZ2.out hb)
  clear hb ZA2 ZB2 ZZ2
  clear cB0 cB1 cB2 cB3 cBf cBz
  obtain ⟨cA0, cA1, cA2, cA3, cAf, cAz⟩ := blk4 ZA3.out
  obtain ⟨cB0, cB1, cB2, cB3, cBf, cBz⟩ := blk4 ZB3.out
  go_wp2_with fail
  refine (fitTogether_any _ _ _ _ _ _ _ _ DA DB _ (HdA.out.below HB3.out) (HdB.out.below HB3.out)).mono ?_
  rintro e w4 ⟨rfl, hb⟩
  have hs4 := hb.size
  have HB4 := Lib.hid (HB3.out.trans (hb.mono HB3.out.size))
  have ZA4 := Lib.hid (blk_later ZA3.out hb)
  have ZB4 := Lib.hid (blk_later ZB3.out hb)
  have ZZ4 := Lib.hid (blk_later ZZ3.out hb)
  clear hb ZA3 ZB3 ZZ3
  clear cA0 cA1 cA2 cA3 cAf cAz cB0 cB1 cB2 cB3 cBf cBz
  rw [Hf.out]
  go_wp2_with fail
  obtain ⟨cA0, cA1, cA2, cA3, cAf, cAz⟩ := blk4 ZA4.out
  obtain ⟨cB0, cB1, cB2, cB3, cBf, cBz⟩ := blk4 ZB4.out
  have hne1 : w.heap.size ≠ w.heap.size + 1 + 1 := by omega
  have hne2 : w.heap.size + 1 ≠ w.heap.size + 1 + 1 := by omega
  have hne3 : w.heap.size ≤ w.heap.size + 1 + 1 := by omega
  go_region_held3 (fun w' => ((w'.cell? ⟨w.heap.size, 0, none⟩ = some (.int .i64 AP) ∧ w'.cell? ⟨w.heap.size, 1, none⟩ = some (.int .i64 (ra : Int)) ∧ w'.cell? ⟨w.heap.size, 2, none⟩ = some (.int .i64 (c : Int)) ∧ w'.cell? ⟨w.heap.size, 3, none⟩ = some (.slice pA DA.length kA) ∧ w'.cell? ⟨w.heap.size + 1, 0, none⟩ = some (.int .i64 AP) ∧ w'.cell? ⟨w.heap.size + 1, 1, none⟩ = some (.int .i64 (rb : Int)) ∧ w'.cell? ⟨w.heap.size + 1, 2, none⟩ = some (.int .i64 (c : Int)) ∧ w'.cell? ⟨w.heap.size + 1, 3, none⟩ = some (.slice pB DB.length kB)) ∧ ∃ y0 y1 y2 y3, w'.heap[w.heap.size + 1 + 1]? = some (.cells #[y0, y1, y2, y3] 26 (0, 0))) ∧ Below w.heap.size w w')
    (first | exact ⟨⟨⟨cA0, cA1, cA2, cA3, cB0, cB1, cB2, cB3⟩, _, _, _, _, ZZ4.out⟩, HB4.out.drew⟩ | exact keep9 hb1 (by assumption) | exact keep9B hbB (by omega) (by omega) (by omega) (by omega) (by assumption) | exact keep9_set hne1 hne2 hne3 _ _ _ _ (by assumption))
    (first
      | (go_at_call_of 34 (Value.slice pA DA.length kA); refine (lines_any AP ra c _ DA _ (held_ints HdA.out (by assumption)) (by omega) (by omega) hc0 HlA.out).mono ?_; rintro e w' ⟨u, rfl, hoA, hb1⟩; obtain ⟨pu, ku, rfl, _, _⟩ := hoA.shape; have hSa := held_lt (by assumption); have hBz : Below w.heap.size w w' := (held_below (by assumption)).trans (hb1.mono (by omega)))
      | (go_at_call_of 34 (Value.slice pB DB.length kB); have hSb := held_lt (by assumption); refine (lines_any AP rb c _ DB _ (held_ints HdB.out (by assumption)) (by omega) (by omega) hc0 HlB.out).mono ?_; rintro e w' ⟨u, rfl, hoB, hb1⟩; obtain ⟨pv, kv, rfl, _, _⟩ := hoB.shape; have hoA2 := (OwnII.below hoA (by first | exact Below.refl _ _ | exact (Below.refl _ _).drew)).below hb1; have hBz : Below w.heap.size w w' := (held_below (by assumption)).trans (hb1.mono (by have := held_lt (by assumption); omega)); have hsm := hb1.size)
      | (refine step_append_II rfl _ _ rfl (w.heap.size + 1 + 1 + 1) _ _ _ _ (rowsOf ra c DA) (rowsOf rb c DB) rfl rfl (OwnII.mono hoA2 hSa (Nat.le_refl _)) hoB hSb hsm (Nat.le_refl _) (by rw [rowsOf_length, rowsOf_length]; omega) ?_; clear hb1; intro v' w' hoJ hbB; obtain ⟨JL, hJL⟩ : ∃ JL, JL = rowsOf ra c DA ++ rowsOf rb c DB := ⟨_, rfl⟩; rw [← hJL] at hoJ; have HJL := Lib.hid hJL; clear hJL; obtain ⟨pj, kj, rfl, _, _⟩ := hoJ.shape; have hBz : Below w.heap.size w w' := (held_below (by assumption)).trans (hbB.mono (by omega)))
      | (go_at_call 33; refine (reduced_any _ JL c AP _ (OwnII.below hoJ (by first | exact Below.refl _ _ | exact (Below.refl _ _).drew)).rd (by rw [HJL.out]; exact RowsOk.join (rowsOf_ok HlA.out HgA.out) (rowsOf_ok HlB.out HgB.out)) Hpr.out (by rw [HJL.out, List.length_append, rowsOf_length, rowsOf_length]; omega) (by omega)).mono ?_; rintro e w' ⟨v, L, q, rfl, hoR, hb1, hR1, hR2, hR3, hR4, hR5⟩; obtain ⟨pv, kv, rfl, hkv1, hkv2⟩ := hoR.shape; have hSr := held_lt (by assumption); have hBz : Below w.heap.size w w' := (held_below (by assumption)).trans (hb1.mono (by omega)); have hfl := span_flat hR1; rw [HJL.out, List.length_append, rowsOf_length, rowsOf_length] at hR5)
      | (go_at_call 32; refine (matrixOf_any AP c _ L _ (OwnII.below hoR (by first | exact Below.refl _ _ | exact (Below.refl _ _).drew)).rd (span_small hR1 hR5 (by omega) (by omega))).mono ?_; rintro e w' ⟨um, rfl, hoM', hb1⟩; have hSm := held_lt (by assumption); have hBz : Below w.heap.size w w' := (held_below (by assumption)).trans (hb1.mono (by omega)); have hoM : OwnI 3 w' (w.heap.size + 1 + 1 + 1) w'.heap.size um L.flatten := OwnI.mono hoM' hSm (Nat.le_refl _); clear hoM'; obtain ⟨FL, hFL⟩ : ∃ FL, FL = L.flatten := ⟨_, rfl⟩; rw [← hFL] at hoM hfl; have HFL := Lib.hid hFL; clear hFL; obtain ⟨pm, km, rfl, _, _⟩ := hoM.shape; obtain ⟨y0, y1, y2, y3, hy⟩ := s9_blk (by assumption); have hy := blk_later hy hb1; obtain ⟨d0, d1, d2, d3, df, dz⟩ := blk4 hy))
  have hred : IsRed AP c (ra + rb) (stackM ra (mf c fun t => DA.getD t 0) (mf c fun t => DB.getD t 0)) L.length (mt L) q := ⟨hR2, hR3, fun i j hi hj => (hR1 i hi).2 j, (by rw [HJL.out] at hR4; exact rowsOf_join.trans hR4)⟩
  have Hred := Lib.hid hred
  have Hz4 := Lib.hid (set4_all hy (.int .i64 AP) (.int .i64 (L.length : Int)) (.int .i64 (c : Int)) (.slice pm FL.length km))
  have HoM := Lib.hid hoM
  have HBz := Lib.hid hBz
  have Hfl := Lib.hid hfl
  clear hy hoM hBz hb1 hbB d0 d1 d2 d3 df hred hR1 hR2 hR3 hR4 hfl hoA hoA2 hoB hoJ hoR
  obtain ⟨f0, f1, f2, f3, ff, fz⟩ := blk4 Hz4.out
  go_wp2_with fail
  refine bodyPost_ret (v := .tuple #[.agg #[.int .i64 AP, .int .i64 (L.length : Int), .int .i64 (c : Int), .slice pm FL.length km], .bool true]) (by simp [results, Try.results8, go_sem, f0, f1, f2, f3, fz]) rfl ⟨⟨AP, L.length, c, FL⟩, ⟨_, rfl, ?_, ?_⟩, ?_⟩
  · exact (own_set4 HoM.out (.inl (by omega)) _ _ _ _).mono (by omega) (by simp only [size_setCell]; omega)
  · exact below_set4 HBz.out (by omega) _ _ _ _
  · simp only [Int.toNat_natCast]
    exact ⟨L.length, mt L, q, Hred.out, by rw [← Hfl.out]⟩

theorem implSum_ex (AP AR AC BP BR BC : Int) (dA dB : Value) (DA DB : List Int) (w : World) (hdA : Ints w dA DA) (hdB : Ints w dB DB) :
    Calls Try.prog 8 #[.agg #[.int .i64 AP, .int .i64 AR, .int .i64 AC, dA], .agg #[.int .i64 BP, .int .i64 BR, .int .i64 BC, dB]] w fun e w' => ∃ m ok, SmIs AP AR AC DA BP BR BC DB m ok ∧ RetMB w m ok e w' := by
  by_cases h : TwoIs AP AR AC DA BP BR BC DB
  · exact (implSum_yes AP AR AC BP BR BC dA dB DA DB w hdA hdB h).mono fun e w' ⟨m, r1, r2⟩ => ⟨m, true, .inl ⟨h, rfl, r2⟩, r1⟩
  · rcases Classical.em (IsSp AP AR AC DA) with ha | ha
    · rcases Classical.em (IsSp BP BR BC DB) with hb | hb
      · refine (implSum_no3 AP AR AC BP BR BC dA dB DA DB w hdA hdB ha hb ?_).mono fun e w' r => ⟨_, _, .inr ⟨h, rfl, rfl⟩, r⟩
        cases hf : fitOk AP AC BP BC with
        | false => rfl
        | true =>
          simp [fitOk] at hf
          exact absurd ⟨ha, hb, hf.1, hf.2⟩ h
      · exact (implSum_no2 AP AR AC BP BR BC dA dB DA DB w hdA hdB ha hb).mono fun e w' r => ⟨_, _, .inr ⟨h, rfl, rfl⟩, r⟩
    · exact (implSum_no1 AP AR AC BP BR BC dA dB DA DB w hdA hdB ha).mono fun e w' r => ⟨_, _, .inr ⟨h, rfl, rfl⟩, r⟩
theorem implSum_any (AP AR AC BP BR BC : Int) (dA dB : Value) (DA DB : List Int) (w : World) (hdA : Ints w dA DA) (hdB : Ints w dB DB) :
    Calls Try.prog 8 #[.agg #[.int .i64 AP, .int .i64 AR, .int .i64 AC, dA], .agg #[.int .i64 BP, .int .i64 BR, .int .i64 BC, dB]] w (RetMB w (Classical.epsilon (PrQ (SmIs AP AR AC DA BP BR BC DB))).1 (Classical.epsilon (PrQ (SmIs AP AR AC DA BP BR BC DB))).2) :=
  (implSum_ex AP AR AC BP BR BC dA dB DA DB w hdA hdB).mono fun e w' ⟨m, ok, h1, h2⟩ => by
    obtain ⟨e1, e2⟩ := PrQ.eps SmIs.one h1
    rw [← e1, ← e2]; exact h2

end Go.Proofs.Ytmnlpkmnbjoicaa

namespace Go.Proofs.Ytmnlpkmnbjoicaa
set_option linter.all false
open Go.RowKit

theorem run_append_make_own {P : Program} (w : World) (base : Nat) (t ti ty e : TypeId) (z : Value) (bytes : Nat) (ht : P.underlying t = some (.slice e)) (hti : P.underlying ti = some (.int .i64))
    (hinfo : (P.info? e).map (fun i => (i.zero, i.size, i.bytes)) = some (some z, 1, bytes)) (hzs : z.cells.size = 1) (hz1 : ∀ u ∈ z.cells.toList, u.oneCell' = true) (hb : bytes ≤ 1000) (hb0 : 0 < bytes)
    (v : Value) (n : Nat) (xs : List Value) (hown : w.ownsRow base e 1 v n xs) (m : Nat) (hm0 : 0 < m) (hnm : n + m ≤ 1000000) (hbase : base ≤ w.heap.size) :
    ∃ v' w', (Builtin.append_ #[t, ti] ty #[v, .int .i64 (m : Int)]).run P w = .ok v' w' ∧ w'.ownsRow base e 1 v' (n + m) (xs ++ (Builtin.zeroCells z.cells m).toList) ∧ w.grownBy w' v.ownBlock ∧
      (∀ b, v'.ownBlock = some b → v.ownBlock = some b ∨ w.heap.size ≤ b) := by
  obtain ⟨i, hi, hz, hsz, hby⟩ := info_parts hinfo
  have hlen : (xs ++ (Builtin.zeroCells z.cells m).toList).length = (n + m) * 1 := by
    rw [List.length_append, hown.1, Array.length_toList, size_zeroCells, hzs]; omega
  have hzl : (Builtin.zeroCells z.cells m).toList.length = m := by rw [Array.length_toList, size_zeroCells, hzs]; omega
  have hwr : IntKind.i64.wrap (m : Int) = (m : Int) := k64 (by omega) (by omega)
  have hmb : m * bytes ≤ 1000000 * 1000 := Nat.mul_le_mul (by omega) hb
  have h1 : ¬ ((m : Int) < 0) := by omega
  have hm : m ≠ 0 := by omega
  have h4 : ¬ (281474976710656 < (m : Int) * (i.bytes : Int)) := by
    rw [hby]
    have : ((m * bytes : Nat) : Int) = (m : Int) * (bytes : Int) := Int.natCast_mul _ _
    omega
  rcases hown.2 with ⟨rfl, rfl⟩ | ⟨g, cap, cur, rfl, hbg, hg, hnc, hcm, hcs, htake⟩
  · have hx : xs = [] := List.eq_nil_of_length_eq_zero (by simpa using hown.1)
    subst hx
    have hge := grownCap_ge w m 0 e
    have hle := grownCap_le_maxLen w m 0 e (by unfold maxLen; omega)
    have h3 : ¬ (281474976710656 < Builtin.nextslicecap m 0 * i.bytes) := by rw [nextslicecap_zero (by omega), hby]; omega
    have h5 : ¬ (9223372036854775807 < (m : Int)) := by omega
    refine ⟨.slice (some ⟨w.heap.size, 0, none⟩) m (grownCap w m 0 e), w.drew.alloc (.cells (Builtin.zeroCells z.cells m ++ Builtin.zeroCells z.cells (grownCap w m 0 e - m)) e), ?_, ?_, ?_, fun b hb => .inr ?_⟩
    · simp [Builtin.append_, run_underlying ht, run_underlying hti, sizeOf, typeInfo, zeroValue, hi, hz, hsz, Builtin.firstCells, asInt, asIntOf, hwr, h1, h3, h4, h5, hm, Question.forced, newRow, grownCap, loadCells, loadCellsFrom]
    · rw [Nat.zero_add] at hlen ⊢
      refine ⟨hlen, .inr ⟨w.heap.size, _, _, rfl, hbase, heap_alloc_new w.drew _, hge, hle, ?_, ?_⟩⟩
      · simp only [Array.size_append, size_zeroCells, hzs]; omega
      · simp only [Array.toList_append, List.nil_append]
        rw [List.take_left' (by rw [hzl]; omega)]
    · exact ⟨rfl, rfl, rfl, by simp, fun k hk _ => heap_alloc_old w.drew _ hk⟩
    · simp only [Value.ownBlock, Option.some.injEq] at hb; omega
  · have hnews1 : ∀ u ∈ (Builtin.zeroCells z.cells m).toList, u.oneCell' = true := fun u hu => by
      rw [Array.mem_toList_iff] at hu
      simp only [Builtin.zeroCells, Array.mem_map, Array.mem_range] at hu
      obtain ⟨k, hk, rfl⟩ := hu
      rw [hzs, Nat.mod_one]
      have h0 : 0 < z.cells.size := by omega
      rw [getElem!_pos z.cells 0 h0]
      exact hz1 _ (Array.mem_toList_iff.2 (Array.getElem_mem _))
    by_cases hroom : n + m ≤ cap
    · have hfit : n * 1 + (Builtin.zeroCells z.cells m).toList.length ≤ cur.size := by rw [hzl, hcs]; omega
      have hst := run_storeCells_at P g (n * 1) e (Builtin.zeroCells z.cells m).toList 0 cur w hg (by simpa using hfit) hnews1
      simp only [Nat.add_zero, Nat.mul_one] at hst hfit
      refine ⟨.slice (some ⟨g, 0, none⟩) (n + m) cap, w.setRow g (cur.toList.take n ++ (Builtin.zeroCells z.cells m).toList ++ cur.toList.drop (n + (Builtin.zeroCells z.cells m).toList.length)).toArray, ?_, ?_, ?_, fun b hb => .inl hb⟩
      · simp [Builtin.append_, run_underlying ht, run_underlying hti, sizeOf, typeInfo, zeroValue, hi, hz, hsz, asInt, asIntOf, hwr, h1, h4, hm, hroom, Addr.add_lit, hst]
      · refine ⟨hlen, .inr ⟨g, cap, _, rfl, hbg, setRow_heap w g cur _ e _ hg, hroom, hcm, ?_, ?_⟩⟩
        · simp only [List.size_toArray, List.length_append, List.length_take, List.length_drop, Array.length_toList] at *
          omega
        · rw [Nat.mul_one] at htake
          rw [htake, ← hlen]
          exact List.take_left
      · exact ⟨rfl, rfl, rfl, by simp, fun k _ hk => setRow_other w g k _ (fun e => hk (by simp [Value.ownBlock, e]))⟩
    · have holds : ∀ j u, xs[j]? = some u → w.cell? ((⟨g, 0, none⟩ : Addr).add j) = some u := hown.cells (g := g) rfl
      have hge := grownCap_ge w (n + m) cap e
      have hle := grownCap_le_maxLen w (n + m) cap e (by unfold maxLen; omega)
      have hfo := run_firstCells_some (P := P) w.drew 1 n ⟨g, 0, none⟩ n cap xs hown.1 (by simpa using holds)
      have h3 : ¬ (281474976710656 < Builtin.nextslicecap (n + m) cap * i.bytes) := by
        have := growslice_fits (need := n + m) (old := cap) (bytes := i.bytes) (by omega) (by rw [hby]; have := Nat.mul_le_mul hnm hb; omega)
        omega
      have h5 : ¬ (9223372036854775807 < (n : Int) + (m : Int)) := by omega
      refine ⟨.slice (some ⟨w.heap.size, 0, none⟩) (n + m) (grownCap w (n + m) cap e), w.drew.alloc (.cells (xs.toArray ++ Builtin.zeroCells z.cells m ++ Builtin.zeroCells z.cells (grownCap w (n + m) cap e - (n + m))) e), ?_, ?_, ?_, fun b hb => .inr ?_⟩
      · simp [Builtin.append_, run_underlying ht, run_underlying hti, sizeOf, typeInfo, zeroValue, hi, hz, hsz, asInt, asIntOf, hwr, h1, h3, h4, h5, hm, hroom, Question.forced, hfo, newRow, grownCap]
      · refine ⟨hlen, .inr ⟨w.heap.size, _, _, rfl, hbase, heap_alloc_new w.drew _, hge, hle, ?_, ?_⟩⟩
        · have := hown.1
          simp only [Array.size_append, List.size_toArray, size_zeroCells, hzs]; omega
        · simp only [Array.toList_append, List.append_assoc]
          rw [← List.append_assoc, ← hlen]
          exact List.take_left
      · exact ⟨rfl, rfl, rfl, by simp, fun k hk _ => heap_alloc_old w.drew _ hk⟩
      · simp only [Value.ownBlock, Option.some.injEq] at hb; omega

theorem zeroCells_get {z : Value} (hzs : z.cells.size = 1) {m j : Nat} (hj : j < m) : (Builtin.zeroCells z.cells m).toList[j]? = some (z.cells[0]!) := by
  simp [Builtin.zeroCells, hzs, hj, Nat.mod_one]
/-- .. the content said by the index -/
theorem run_append_make_F {P : Program} (w : World) (t ti ty e : TypeId) (z : Value) (bytes : Nat) (ht : P.underlying t = some (.slice e)) (hti : P.underlying ti = some (.int .i64))
    (hinfo : (P.info? e).map (fun i => (i.zero, i.size, i.bytes)) = some (some z, 1, bytes)) (hzs : z.cells.size = 1) (hz1 : ∀ u ∈ z.cells.toList, u.oneCell' = true) (hb : bytes ≤ 1000) (hb0 : 0 < bytes)
    (lo hi' : Nat) (v : Value) (n : Nat) (f : Nat → Value) (hown : OwnF w lo hi' e v n f) (hlo : lo ≤ w.heap.size) (hhi : hi' ≤ w.heap.size) (m : Nat) (hm0 : 0 < m) (hnm : n + m ≤ 1000000) :
    ∃ v' w', (Builtin.append_ #[t, ti] ty #[v, .int .i64 (m : Int)]).run P w = .ok v' w' ∧ OwnF w' lo w'.heap.size e v' (n + m) (fun j => if j < n then f j else z.cells[0]!) ∧ w.grownBy w' v.ownBlock ∧
      (∀ b, v'.ownBlock = some b → v.ownBlock = some b ∨ w.heap.size ≤ b) := by
  obtain ⟨xs, ho, hf⟩ := hown
  obtain ⟨v', w', hr, h2, h3, h4⟩ := run_append_make_own (P := P) w lo t ti ty e z bytes ht hti hinfo hzs hz1 hb hb0 v n xs ho.1 m hm0 hnm hlo
  refine ⟨v', w', hr, ⟨_, Own.of_row h2, fun j hj => ?_⟩, h3, h4⟩
  have hl : xs.length = n := by have := ho.len; omega
  by_cases h : j < n
  · simp only [h, if_true]
    rw [List.getElem?_append_left (by omega), hf j h]
  · simp only [h, if_false]
    rw [List.getElem?_append_right (by omega), hl]
    exact zeroCells_get hzs (by omega)
theorem wpList_append_make_F {P : Program} {w : World} {ops : Array Oper} {rest : List Oper} {o : Oper} {a : Act} {Q : Exit → Act → World → Prop} (hgd : o.guard = none) (s x : Operand) (t ti : TypeId)
    (ho : o.op = .call { callee := .builtin .append, args := #[s, x], argTypes := #[t, ti] })
    (e : TypeId) (z : Value) (bytes : Nat) (ht : P.underlying t = some (.slice e)) (hti : P.underlying ti = some (.int .i64))
    (hinfo : (P.info? e).map (fun i => (i.zero, i.size, i.bytes)) = some (some z, 1, bytes)) (hzs : z.cells.size = 1) (hz1 : ∀ u ∈ z.cells.toList, u.oneCell' = true) (hb : bytes ≤ 1000) (hb0 : 0 < bytes)
    (lo hi' : Nat) (v : Value) (n : Nat) (f : Nat → Value) (hs : a.eval s = v) (hown : OwnF w lo hi' e v n f) (hlo : lo ≤ w.heap.size) (hhi : hi' ≤ w.heap.size) (m : Nat) (hx : a.eval x = .int .i64 (m : Int)) (hm0 : 0 < m) (hnm : n + m ≤ 1000000)
    (h : ∀ v' w', OwnF w' lo w'.heap.size e v' (n + m) (fun j => if j < n then f j else z.cells[0]!) → w.grownBy w' v.ownBlock → (∀ b, v'.ownBlock = some b → v.ownBlock = some b ∨ w.heap.size ≤ b) → wpList P ops Q rest (a.put o.dst v') w') :
    wpList P ops Q (o :: rest) a w := by
  refine wpList_plain hgd fun K hK' => ?_
  obtain ⟨v', w', hr, h2, h3, h4⟩ := run_append_make_F (P := P) w t ti o.type e z bytes ht hti hinfo hzs hz1 hb hb0 lo hi' v n f hown hlo hhi m hm0 hnm
  unfold Oper.wp
  simp [execOp, ho, resolve, invoke, builtin, hs, hx, hr, Result.andThen]
  exact hK' _ _ (h v' w' h2 h3 h4)
theorem step_append_make_F {P : Program} {w : World} {ops : Array Oper} {o : Oper} {a : Act} {K : Act → World → Prop} {Q : Exit → Act → World → Prop} {E : Prop} (hgd : o.guard = none) (s x : Operand) (t ti : TypeId)
    (ho : o.op = .call { callee := .builtin .append, args := #[s, x], argTypes := #[t, ti] })
    (e : TypeId) (z : Value) (bytes : Nat) (ht : P.underlying t = some (.slice e)) (hti : P.underlying ti = some (.int .i64))
    (hinfo : (P.info? e).map (fun i => (i.zero, i.size, i.bytes)) = some (some z, 1, bytes)) (hzs : z.cells.size = 1) (hz1 : ∀ u ∈ z.cells.toList, u.oneCell' = true) (hb : bytes ≤ 1000) (hb0 : 0 < bytes)
    (lo hi' : Nat) (v : Value) (n : Nat) (f : Nat → Value) (hs : a.eval s = v) (hown : OwnF w lo hi' e v n f) (hlo : lo ≤ w.heap.size) (hhi : hi' ≤ w.heap.size) (m : Nat) (hx : a.eval x = .int .i64 (m : Int)) (hm0 : 0 < m) (hnm : n + m ≤ 1000000)
    (h : ∀ v' w', OwnF w' lo w'.heap.size e v' (n + m) (fun j => if j < n then f j else z.cells[0]!) → w.grownBy w' v.ownBlock → (∀ b, v'.ownBlock = some b → v.ownBlock = some b ∨ w.heap.size ≤ b) → K (a.put o.dst v') w') :
    if Region.wanted o (yielded ops a.tmps) = true then Oper.wp P o a w K Q else E := by
  have hw : Region.wanted o (yielded ops a.tmps) = true := by simp [Region.wanted, hgd]
  rw [if_pos hw]
  obtain ⟨v', w', hr, h2, h3, h4⟩ := run_append_make_F (P := P) w t ti o.type e z bytes ht hti hinfo hzs hz1 hb hb0 lo hi' v n f hown hlo hhi m hm0 hnm
  unfold Oper.wp
  simp [execOp, ho, resolve, invoke, builtin, hs, hx, hr, Result.andThen]
  exact h v' w' h2 h3 h4

end Go.Proofs.Ytmnlpkmnbjoicaa

namespace Go.Proofs.Ytmnlpkmnbjoicaa
set_option linter.all false
open Go.RowKit

/-- the first i rows of a corner of b columns -/
def cornL (c b : Nat) (D : List Int) (i : Nat) : List Int := (List.range (i * b)).map fun t => D.getD ((t / b) * c + t % b) 0
theorem cornL_length (c b : Nat) (D : List Int) (i : Nat) : (cornL c b D i).length = i * b := by simp [cornL]
theorem cornL_getD {c b : Nat} {D : List Int} {i k j : Nat} (hk : k < i) (hj : j < b) : (cornL c b D i).getD (k * b + j) 0 = D.getD (k * c + j) 0 := by
  have h := mul_le_of (C := b) hk
  rw [Nat.add_mul, Nat.one_mul] at h
  obtain ⟨d1, d2⟩ := div_at (k := k) hj
  simp [cornL, List.getD_eq_getElem?_getD, show k * b + j < i * b by omega, d1, d2]

theorem cornL_mono {c b : Nat} {D : List Int} {i t : Nat} (h : t < i * b) : (cornL c b D i).getD t 0 = (cornL c b D (i + 1)).getD t 0 := by
  have h2 : t < (i + 1) * b := by rw [Nat.add_mul]; omega
  simp [cornL, List.getD_eq_getElem?_getD, h, h2]
theorem own_box {w : World} {lo hi : Nat} {Ti T : TypeId} {v : Value} {n b : Nat} {f : Nat → Value} {cs : Array Value} (h : OwnF w lo hi Ti v n f) (hz : w.heap[b]? = some (.cells cs T (0, 0))) (hT : Ti ≠ T) : v.ownBlock ≠ some b := by
  intro hv
  obtain ⟨zs, hz', _⟩ := h
  rcases Own.row hz' with ⟨e1, _⟩ | ⟨g, cap', F, e1, _, _, _, _, hr, _⟩
  · rw [e1] at hv; simp [Value.ownBlock] at hv
  · rw [e1] at hv
    simp only [Value.ownBlock, Option.some.injEq] at hv
    subst hv
    obtain ⟨c, hc, _⟩ := hr
    rw [hz] at hc
    injection hc with hc
    injection hc with _ hc
    exact hT hc.symm

theorem oper_append_F {P : Program} {w : World} {o : Oper} {a : Act} {K : Act → World → Prop} {Q : Exit → Act → World → Prop} (s x : Operand) (t : TypeId)
    (ho : o.op = .call { callee := .builtin .append, args := #[s, x], argTypes := #[t, t] })
    (e : TypeId) (z : Value) (bytes : Nat) (ht : P.underlying t = some (.slice e)) (hinfo : (P.info? e).map (fun i => (i.zero, i.size, i.bytes)) = some (some z, 1, bytes)) (hzs : z.cells.size = 1)
    (lo hi' : Nat) (v : Value) (n : Nat) (f : Nat → Value) (hs : a.eval s = v) (hown : OwnF w lo hi' e v n f) (hlo : lo ≤ w.heap.size) (hhi : hi' ≤ w.heap.size)
    (u : Value) (m : Nat) (g : Nat → Value) (hxu : a.eval x = u) (hx : Rd w u m g) (h1 : ∀ j, j < m → (g j).oneCell' = true) (h63 : n + m ≤ maxLen) (hbytes : (n + m) * bytes ≤ 140737488355328)
    (h : ∀ v' w', OwnF w' lo w'.heap.size e v' (n + m) (fun j => if j < n then f j else g (j - n)) → w.grownBy w' v.ownBlock → K (a.put o.dst v') w') :
    Oper.wp P o a w K Q := by
  obtain ⟨i, hi, hz, hsz, hby⟩ := info_parts hinfo
  obtain ⟨v', w', hr, h2, h3⟩ := run_append_F (P := P) w t o.type e i z bytes ht hi hz hsz hby hzs lo hi' v n f hown hlo hhi u m g hx h1 h63 hbytes
  unfold Oper.wp
  simp [execOp, ho, resolve, invoke, builtin, hs, hxu, hr, Result.andThen]
  exact h v' w' h2 h3

/-- what CornerRank returns -/
def CkIs (P R C : Int) (D : List Int) (a b r : Int) : Prop :=
  if mxOk P R C D = true ∧ (0 ≤ a ∧ a ≤ R) ∧ (0 ≤ b ∧ b ≤ C) then ∃ n : Nat, r = n ∧ HasRank P b.toNat a.toNat (mf C.toNat fun t => D.getD t 0) n else r = -1
theorem CkIs.one {P R C : Int} {D : List Int} {a b r r' : Int} (h : CkIs P R C D a b r) (h' : CkIs P R C D a b r') : r = r' := by
  unfold CkIs at h h'
  by_cases e : mxOk P R C D = true ∧ (0 ≤ a ∧ a ≤ R) ∧ (0 ≤ b ∧ b ≤ C)
  · rw [if_pos e] at h h'
    obtain ⟨n, rfl, h⟩ := h
    obtain ⟨n', rfl, h'⟩ := h'
    obtain ⟨_, _, _, _, _, _, _, _, _, hP, _⟩ := mxOk_facts e.1
    rw [h.one hP h']
  · rw [if_neg e] at h h'
    omega
theorem CkIs.eps {P R C : Int} {D : List Int} {a b r : Int} (h : CkIs P R C D a b r) : r = Classical.epsilon (CkIs P R C D a b) := h.one (Classical.epsilon_spec ⟨r, h⟩)
theorem CkIs.no {P R C : Int} {D : List Int} {a b : Int} (h : ¬ (mxOk P R C D = true ∧ (0 ≤ a ∧ a ≤ R) ∧ (0 ≤ b ∧ b ≤ C))) : CkIs P R C D a b (-1) := by
  unfold CkIs; rw [if_neg h]
theorem CkIs.yes {P : Int} {r c a b n : Nat} {D : List Int} (h : mxOk P r c D = true) (ha : a ≤ r) (hb : b ≤ c) (hn : HasRank P b a (mf c fun t => D.getD t 0) n) : CkIs P r c D a b n := by
  unfold CkIs
  rw [if_pos ⟨h, ⟨by omega, by omega⟩, ⟨by omega, by omega⟩⟩]
  exact ⟨n, rfl, hn⟩

end Go.Proofs.Ytmnlpkmnbjoicaa

namespace Go.Proofs.Ytmnlpkmnbjoicaa
set_option linter.all false
open Go.RowKit

/-- rows (x, x) of one, and (y, 0) of the other one -/
def mtM (c ra : Nat) (A B : Nat → Nat → Int) : Nat → Nat → Int := stackM ra (fun i j => if j < c then A i j else A i (j - c)) (fun i j => if j < c then B i j else 0)
/-- the rows that begin in the second half -/
def keptL (n c : Nat) (q : Nat → Nat) : List Nat := (List.range n).filter fun i => decide (c ≤ q i)
def keptM (c : Nat) (M : Nat → Nat → Int) (l : List Nat) (t j : Nat) : Int := M (l.getD t 0) (c + j)
/-- what is in common -/
def MtIs (P : Int) (c ra rb : Nat) (A B : Nat → Nat → Int) (m : Mx) : Prop :=
  ∃ n M q, IsRed P (2 * c) (ra + rb) (mtM c ra A B) n M q ∧ RowsIs P c (keptL n c q).length (keptM c M (keptL n c q)) m
theorem keptL_lt {n c t : Nat} {q : Nat → Nat} (h : t < (keptL n c q).length) : (keptL n c q).getD t 0 < n := by
  have : (keptL n c q).getD t 0 ∈ keptL n c q := by
    rw [List.getD_eq_getElem?_getD, List.getElem?_eq_getElem h]; exact List.getElem_mem _
  have := (List.mem_filter.1 this).1
  simpa using this
theorem keptL_congr {n c : Nat} {q q' : Nat → Nat} (h : ∀ i, i < n → q i = q' i) : keptL n c q = keptL n c q' := by
  unfold keptL
  refine List.filter_congr fun i hi => ?_
  rw [h i (by simpa using hi)]
theorem keptL_succ (n c : Nat) (q : Nat → Nat) : keptL (n + 1) c q = keptL n c q ++ (if c ≤ q n then [n] else []) := by
  unfold keptL
  rw [List.range_succ, List.filter_append]
  by_cases h : c ≤ q n <;> simp [h]
theorem keptL_le (n c : Nat) (q : Nat → Nat) : (keptL n c q).length ≤ n := by
  unfold keptL
  have := List.length_filter_le (fun i => decide (c ≤ q i)) (List.range n)
  simpa using this
theorem MtIs.one {P : Int} {c ra rb : Nat} {A B : Nat → Nat → Int} {m m' : Mx} (hP : 2 ≤ P) (h : MtIs P c ra rb A B m) (h' : MtIs P c ra rb A B m') : m = m' := by
  obtain ⟨n, M, q, h1, h2⟩ := h
  obtain ⟨n', M', q', h1', h2'⟩ := h'
  obtain ⟨e1, e2, e3⟩ := h1.one hP h1'
  subst e1
  rw [← keptL_congr e2] at h2'
  refine h2.one hP (h2'.same (SameSp.of_eqv fun t ht => .of_eq fun j hj => ?_))
  unfold keptM
  exact e3 _ _ (keptL_lt ht) (by omega)

/-- what MeetSpaces returns -/
def MeIs (P R C : Int) (D : List Int) (P' R' C' : Int) (D' : List Int) (m : Mx) (ok : Bool) : Prop :=
  (TwoIs P R C D P' R' C' D' ∧ ok = true ∧ MtIs P C.toNat R.toNat R'.toNat (mf C.toNat fun t => D.getD t 0) (mf C.toNat fun t => D'.getD t 0) m) ∨ (¬ TwoIs P R C D P' R' C' D' ∧ ok = false ∧ m = mxZero)
theorem MeIs.one {P R C : Int} {D : List Int} {P' R' C' : Int} {D' : List Int} (m : Mx) (b : Bool) (m' : Mx) (b' : Bool) (h : MeIs P R C D P' R' C' D' m b) (h' : MeIs P R C D P' R' C' D' m' b') : m = m' ∧ b = b' := by
  rcases h with ⟨t, rfl, h⟩ | ⟨t, rfl, rfl⟩
  · rcases h' with ⟨_, rfl, h'⟩ | ⟨t', _, _⟩
    · obtain ⟨_, _, _, _, _, _, _, _, _, hP, _⟩ := mxOk_facts t.1.1
      exact ⟨h.one hP h', rfl⟩
    · exact absurd t t'
  · rcases h' with ⟨t', _, _⟩ | ⟨_, rfl, rfl⟩
    · exact absurd t' t
    · exact ⟨rfl, rfl⟩
theorem meet_len (P R C : Int) (D : List Int) (P' R' C' : Int) (D' : List Int) : (Classical.epsilon (PrQ (MeIs P R C D P' R' C' D'))).1.D.length ≤ 1000 := by
  rcases PrQ.spec (MeIs P R C D P' R' C' D') with h | ⟨_, h⟩
  · rcases h with ⟨t, _, n, M, q, _, h⟩ | ⟨_, _, h⟩
    · obtain ⟨r, c, _, rfl, _, _, hc, _⟩ := mxOk_facts t.1.1
      exact h.len (by simp; omega)
    · rw [h]; simp [mxZero]
  · rw [h]; simp [mxZero]

theorem flat_ltW {n C i c : Nat} (hi : i < n) (hc : c < C) : i * C + c < n * C := by
  have : (i + 1) * C ≤ n * C := Nat.mul_le_mul_right C hi
  rw [Nat.succ_mul] at this
  omega
/-- rows of one width, one behind the other -/
def rowsF (k : Nat) (f : Nat → List Int) : List Int := (List.range k).flatMap f
theorem rowsF_succ (k : Nat) (f : Nat → List Int) : rowsF (k + 1) f = rowsF k f ++ f k := by
  unfold rowsF
  rw [List.range_succ, List.flatMap_append]; simp
theorem rowsF_length {k W : Nat} {f : Nat → List Int} (h : ∀ i, i < k → (f i).length = W) : (rowsF k f).length = k * W := by
  induction k with
  | zero => simp [rowsF]
  | succ k ih => rw [rowsF_succ, List.length_append, ih fun i hi => h i (by omega), h k (by omega), Nat.succ_mul]
theorem rowsF_getD {k W : Nat} {f : Nat → List Int} (h : ∀ i, i < k → (f i).length = W) {i j : Nat} (hi : i < k) (hj : j < W) : (rowsF k f).getD (i * W + j) 0 = (f i).getD j 0 := by
  induction k with
  | zero => omega
  | succ k ih =>
    have hl := rowsF_length (k := k) (fun i hi => h i (by omega))
    rw [rowsF_succ]
    by_cases e : i < k
    · have := flat_ltW e hj
      rw [List.getD_eq_getElem?_getD, List.getElem?_append_left (by omega), ← List.getD_eq_getElem?_getD]
      exact ih (fun i hi => h i (by omega)) e
    · obtain rfl : i = k := by omega
      rw [List.getD_eq_getElem?_getD, List.getElem?_append_right (by omega), ← List.getD_eq_getElem?_getD, hl, Nat.add_sub_cancel_left]

end Go.Proofs.Ytmnlpkmnbjoicaa
