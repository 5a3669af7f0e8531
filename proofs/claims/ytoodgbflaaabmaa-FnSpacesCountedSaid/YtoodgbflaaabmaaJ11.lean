/-
  Two spaces: l7Two, fitTogether, l7Both.
  The rows of two matrices, one behind the other: l7Both.
  SumSpaces, on both sides.
  append(x, make([]int, m)...) on a slice that the call made: laws over any program.
  What two spaces have in common: the plain law.
  What MeetSpaces computes is what is in both spaces, and the dimensions add up (plain law; no program in sight).
  The dimensions of the sum and of what is common, and what lies where (plain law; no program in sight).
-/
import Derived.Test.YtoodgbflaaabmaaJ10
import Derived.Test.YtoodgbflaaabmaaJ9
import Derived.Test.YtoodgbflaaabmaaJ4
import Derived.Test.YtoodgbflaaabmaaJ6
import Derived.Test.YtoodgbflaaabmaaJ2
import Derived.Test.YtoodgbflaaabmaaJ8
namespace Go.Proofs.Ytoodgbflaaabmaa
set_option linter.all false
open Go.RowKit

/-- it is a space -/
def IsSp (P R C : Int) (D : List Int) : Prop := mxOk P R C D = true ∧ SpIs P R C D ⟨P, R, C, D⟩
theorem implIsSpace_yes (P R C : Int) (d : Value) (D : List Int) (h : IsSp P R C D) (w : World) (hd : Ints w d D) :
    Calls Try.prog 22 #[.agg #[.int .i64 P, .int .i64 R, .int .i64 C, d]] w fun e w' => e = .returned (.bool true) ∧ Below w.heap.size w w' :=
  (implIsSpace_ex P R C d D w hd).mono fun e w' ⟨r, h1, h2, h3⟩ => ⟨by rw [h1, h2.2 h], h3⟩
theorem implIsSpace_no (P R C : Int) (d : Value) (D : List Int) (h : ¬ IsSp P R C D) (w : World) (hd : Ints w d D) :
    Calls Try.prog 22 #[.agg #[.int .i64 P, .int .i64 R, .int .i64 C, d]] w fun e w' => e = .returned (.bool false) ∧ Below w.heap.size w w' :=
  (implIsSpace_ex P R C d D w hd).mono fun e w' ⟨r, h1, h2, h3⟩ => ⟨by
    cases r with
    | true => exact absurd (h2.1 rfl) h
    | false => exact h1, h3⟩
/-- two spaces that lie in one -/
def TwoIs (P R C : Int) (D : List Int) (P' R' C' : Int) (D' : List Int) : Prop := IsSp P R C D ∧ IsSp P' R' C' D' ∧ P = P' ∧ C = C'
def fitOk (P C P' C' : Int) : Bool := decide (P = P') && decide (C = C')

set_option maxRecDepth 100000 in
set_option maxHeartbeats 2000000 in
theorem fitTogether_any (AP AR AC BP BR BC : Int) (dA dB : Value) (DA DB : List Int) (w : World) (hdA : Ints w dA DA) (hdB : Ints w dB DB) :
    Calls Try.prog 59 #[.agg #[.int .i64 AP, .int .i64 AR, .int .i64 AC, dA], .agg #[.int .i64 BP, .int .i64 BR, .int .i64 BC, dB]] w fun e w' => e = .returned (.bool (fitOk AP AC BP BC)) ∧ Below w.heap.size w w' := by
  by_cases h1 : AP = BP
  case neg =>
    have e1 : (AP == BP) = false := by simpa using h1
    have e0 : fitOk AP AC BP BC = false := by simp [fitOk, h1]
    rw [e0]
    clear h1 e0
    have HdA := Lib.hid hdA
    obtain ⟨pA, kA, rfl, ⟨_, mA⟩, _⟩ := hdA
    unfold maxLen at mA
    have HdB := Lib.hid hdB
    obtain ⟨pB, kB, rfl, ⟨_, mB⟩, _⟩ := hdB
    unfold maxLen at mB
    obtain ⟨z0, z1⟩ := boxes_ab w (.cells #[.int .i64 AP, .int .i64 AR, .int .i64 AC, .slice pA DA.length kA] 34) (.cells #[.int .i64 BP, .int .i64 BR, .int .i64 BC, .slice pB DB.length kB] 34)
    have ZA1 := Lib.hid z0
    have ZB1 := Lib.hid z1
    clear z0 z1
    have HB1 := Lib.hid (below_alloc2 w (.cells #[.int .i64 AP, .int .i64 AR, .int .i64 AC, .slice pA DA.length kA] 34) (.cells #[.int .i64 BP, .int .i64 BR, .int .i64 BC, .slice pB DB.length kB] 34))
    go_enter Try.func59, Try.ntmps59
    go_wp2_with fail
    have hs1 : ((w.alloc (.cells #[.int .i64 AP, .int .i64 AR, .int .i64 AC, .slice pA DA.length kA] 34)).alloc (.cells #[.int .i64 BP, .int .i64 BR, .int .i64 BC, .slice pB DB.length kB] 34)).heap.size = w.heap.size + 1 + 1 := by simp
    generalize (w.alloc (.cells #[.int .i64 AP, .int .i64 AR, .int .i64 AC, .slice pA DA.length kA] 34)).alloc (.cells #[.int .i64 BP, .int .i64 BR, .int .i64 BC, .slice pB DB.length kB] 34) = w1 at *
    obtain ⟨cA0, cA1, cA2, cA3, cAf, cAz⟩ := blk4 ZA1.out
    obtain ⟨cB0, cB1, cB2, cB3, cBf, cBz⟩ := blk4 ZB1.out
    go_wp2_with fail
    go_ret
    exact ⟨rfl, HB1.out⟩
  by_cases h2 : AC = BC
  case neg =>
    have e2 : (AC == BC) = false := by simpa using h2
    have e0 : fitOk AP AC BP BC = false := by simp [fitOk, h2]
    rw [e0]
    clear h2 e0
    subst h1
    have HdA := Lib.hid hdA
    obtain ⟨pA, kA, rfl, ⟨_, mA⟩, _⟩ := hdA
    unfold maxLen at mA
    have HdB := Lib.hid hdB
    obtain ⟨pB, kB, rfl, ⟨_, mB⟩, _⟩ := hdB
    unfold maxLen at mB
    obtain ⟨z0, z1⟩ := boxes_ab w (.cells #[.int .i64 AP, .int .i64 AR, .int .i64 AC, .slice pA DA.length kA] 34) (.cells #[.int .i64 AP, .int .i64 BR, .int .i64 BC, .slice pB DB.length kB] 34)
    have ZA1 := Lib.hid z0
    have ZB1 := Lib.hid z1
    clear z0 z1
    have HB1 := Lib.hid (below_alloc2 w (.cells #[.int .i64 AP, .int .i64 AR, .int .i64 AC, .slice pA DA.length kA] 34) (.cells #[.int .i64 AP, .int .i64 BR, .int .i64 BC, .slice pB DB.length kB] 34))
    go_enter Try.func59, Try.ntmps59
    go_wp2_with fail
    have hs1 : ((w.alloc (.cells #[.int .i64 AP, .int .i64 AR, .int .i64 AC, .slice pA DA.length kA] 34)).alloc (.cells #[.int .i64 AP, .int .i64 BR, .int .i64 BC, .slice pB DB.length kB] 34)).heap.size = w.heap.size + 1 + 1 := by simp
    generalize (w.alloc (.cells #[.int .i64 AP, .int .i64 AR, .int .i64 AC, .slice pA DA.length kA] 34)).alloc (.cells #[.int .i64 AP, .int .i64 BR, .int .i64 BC, .slice pB DB.length kB] 34) = w1 at *
    obtain ⟨cA0, cA1, cA2, cA3, cAf, cAz⟩ := blk4 ZA1.out
    obtain ⟨cB0, cB1, cB2, cB3, cBf, cBz⟩ := blk4 ZB1.out
    go_wp2_with fail
    go_ret
    exact ⟨rfl, HB1.out⟩
  have e0 : fitOk AP AC BP BC = true := by simp [fitOk, h1, h2]
  rw [e0]
  clear e0
  subst h1 h2
  have HdA := Lib.hid hdA
  obtain ⟨pA, kA, rfl, ⟨_, mA⟩, _⟩ := hdA
  unfold maxLen at mA
  have HdB := Lib.hid hdB
  obtain ⟨pB, kB, rfl, ⟨_, mB⟩, _⟩ := hdB
  unfold maxLen at mB
  obtain ⟨z0, z1⟩ := boxes_ab w (.cells #[.int .i64 AP, .int .i64 AR, .int .i64 AC, .slice pA DA.length kA] 34) (.cells #[.int .i64 AP, .int .i64 BR, .int .i64 AC, .slice pB DB.length kB] 34)
  have ZA1 := Lib.hid z0
  have ZB1 := Lib.hid z1
  clear z0 z1
  have HB1 := Lib.hid (below_alloc2 w (.cells #[.int .i64 AP, .int .i64 AR, .int .i64 AC, .slice pA DA.length kA] 34) (.cells #[.int .i64 AP, .int .i64 BR, .int .i64 AC, .slice pB DB.length kB] 34))
  go_enter Try.func59, Try.ntmps59
  go_wp2_with fail
  have hs1 : ((w.alloc (.cells #[.int .i64 AP, .int .i64 AR, .int .i64 AC, .slice pA DA.length kA] 34)).alloc (.cells #[.int .i64 AP, .int .i64 BR, .int .i64 AC, .slice pB DB.length kB] 34)).heap.size = w.heap.size + 1 + 1 := by simp
  generalize (w.alloc (.cells #[.int .i64 AP, .int .i64 AR, .int .i64 AC, .slice pA DA.length kA] 34)).alloc (.cells #[.int .i64 AP, .int .i64 BR, .int .i64 AC, .slice pB DB.length kB] 34) = w1 at *
  obtain ⟨cA0, cA1, cA2, cA3, cAf, cAz⟩ := blk4 ZA1.out
  obtain ⟨cB0, cB1, cB2, cB3, cBf, cBz⟩ := blk4 ZB1.out
  go_wp2_with fail
  go_ret
  exact ⟨rfl, HB1.out⟩

end Go.Proofs.Ytoodgbflaaabmaa

namespace Go.Proofs.Ytoodgbflaaabmaa
set_option linter.all false
open Go.RowKit


end Go.Proofs.Ytoodgbflaaabmaa

namespace Go.Proofs.Ytoodgbflaaabmaa
set_option linter.all false
open Go.RowKit

/-- a matrix and a bool that are known by a property, or none -/
def PrQ (Q : Mx → Bool → Prop) (x : Mx × Bool) : Prop := Q x.1 x.2 ∨ ((∀ m b, ¬ Q m b) ∧ x = (mxZero, false))
theorem PrQ.spec (Q : Mx → Bool → Prop) : PrQ Q (Classical.epsilon (PrQ Q)) := by
  refine Classical.epsilon_spec (p := PrQ Q) ?_
  by_cases h : ∃ m b, Q m b
  · obtain ⟨m, b, h⟩ := h
    exact ⟨(m, b), .inl h⟩
  · exact ⟨(mxZero, false), .inr ⟨fun m b hq => h ⟨m, b, hq⟩, rfl⟩⟩
theorem PrQ.eps {Q : Mx → Bool → Prop} {m : Mx} {b : Bool} (hone : ∀ m b m' b', Q m b → Q m' b' → m = m' ∧ b = b') (h : Q m b) : m = (Classical.epsilon (PrQ Q)).1 ∧ b = (Classical.epsilon (PrQ Q)).2 := by
  rcases PrQ.spec Q with h2 | ⟨h2, _⟩
  · exact hone _ _ _ _ h h2
  · exact absurd h (h2 m b)

/-- the reduced form of what rows span, as a matrix -/
def RowsIs (P : Int) (C R : Nat) (M0 : Nat → Nat → Int) (m : Mx) : Prop := ∃ (n : Nat) (M : Nat → Nat → Int) (q : Nat → Nat), IsRed P C R M0 n M q ∧ m = ⟨P, n, C, flatM n C M⟩
theorem RowsIs.one {P : Int} {C R : Nat} {M0 : Nat → Nat → Int} {m m' : Mx} (hP : 2 ≤ P) (h : RowsIs P C R M0 m) (h' : RowsIs P C R M0 m') : m = m' := by
  obtain ⟨n, M, q, h1, rfl⟩ := h
  obtain ⟨n', M', q', h1', rfl⟩ := h'
  obtain ⟨e1, _, e3⟩ := h1.one hP h1'
  subst e1
  rw [flatM_congr e3]
theorem RowsIs.len {P : Int} {C R : Nat} {M0 : Nat → Nat → Int} {m : Mx} (hC : C ≤ 14) (h : RowsIs P C R M0 m) : m.D.length ≤ 1000 := by
  obtain ⟨n, M, q, h1, rfl⟩ := h
  have a := asc_bound h1.2.1 h1.1.lt
  have b := Nat.mul_le_mul (Nat.le_trans a hC) hC
  show (flatM n C M).length ≤ 1000
  rw [flatM_length]
  omega
theorem RowsIs.same {P : Int} {C R R' : Nat} {M0 M1 : Nat → Nat → Int} {m : Mx} (h : RowsIs P C R M0 m) (hs : SameSp P C R' M1 R M0) : RowsIs P C R' M1 m := by
  obtain ⟨n, M, q, ⟨h1, h2, h3, h4⟩, rfl⟩ := h
  exact ⟨n, M, q, ⟨h1, h2, h3, hs.trans h4⟩, rfl⟩

/-- what SumSpaces returns -/
def SmIs (P R C : Int) (D : List Int) (P' R' C' : Int) (D' : List Int) (m : Mx) (ok : Bool) : Prop :=
  (TwoIs P R C D P' R' C' D' ∧ ok = true ∧ RowsIs P C.toNat (R.toNat + R'.toNat) (stackM R.toNat (mf C.toNat fun t => D.getD t 0) (mf C.toNat fun t => D'.getD t 0)) m) ∨ (¬ TwoIs P R C D P' R' C' D' ∧ ok = false ∧ m = mxZero)
theorem SmIs.one {P R C : Int} {D : List Int} {P' R' C' : Int} {D' : List Int} (m : Mx) (b : Bool) (m' : Mx) (b' : Bool) (h : SmIs P R C D P' R' C' D' m b) (h' : SmIs P R C D P' R' C' D' m' b') : m = m' ∧ b = b' := by
  rcases h with ⟨t, rfl, h⟩ | ⟨t, rfl, rfl⟩
  · rcases h' with ⟨_, rfl, h'⟩ | ⟨t', _, _⟩
    · obtain ⟨_, _, _, _, _, _, _, _, _, hP, _⟩ := mxOk_facts t.1.1
      exact ⟨h.one hP h', rfl⟩
    · exact absurd t t'
  · rcases h' with ⟨t', _, _⟩ | ⟨_, rfl, rfl⟩
    · exact absurd t' t
    · exact ⟨rfl, rfl⟩
theorem sum_len (P R C : Int) (D : List Int) (P' R' C' : Int) (D' : List Int) : (Classical.epsilon (PrQ (SmIs P R C D P' R' C' D'))).1.D.length ≤ 1000 := by
  rcases PrQ.spec (SmIs P R C D P' R' C' D') with h | ⟨_, h⟩
  · rcases h with ⟨t, _, h⟩ | ⟨_, _, h⟩
    · obtain ⟨r, c, _, rfl, _, _, hc, _⟩ := mxOk_facts t.1.1
      exact h.len (by simp; omega)
    · rw [h]; simp [mxZero]
  · rw [h]; simp [mxZero]

/-- what lies flat, one behind the other -/
theorem both_mf {C R R' : Nat} {D D' : List Int} (hl : D.length = R * C) {i c : Nat} (hi : i < R + R') (hc : c < C) :
    mf C (fun t => (D ++ D').getD t 0) i c = stackM R (mf C fun t => D.getD t 0) (mf C fun t => D'.getD t 0) i c := by
  unfold mf
  by_cases h : i < R
  · rw [stackM_lt h]
    have h1 : i * C + c < R * C := by
      have : (i + 1) * C ≤ R * C := Nat.mul_le_mul_right C h
      rw [Nat.succ_mul] at this
      omega
    simp [List.getD_eq_getElem?_getD, List.getElem?_append_left (show i * C + c < D.length by omega)]
  · rw [stackM_ge h]
    obtain ⟨k, rfl⟩ : ∃ k, i = R + k := ⟨i - R, by omega⟩
    have e : (R + k) * C + c - R * C = (R + k - R) * C + c := by rw [Nat.add_mul, Nat.add_sub_cancel_left]; omega
    simp only [List.getD_eq_getElem?_getD]
    rw [List.getElem?_append_right (by rw [hl, Nat.add_mul]; omega), hl, e]
theorem both_rng {P : Int} {D D' : List Int} (hP : 0 < P) (h : ∀ t, 0 ≤ D.getD t 0 ∧ D.getD t 0 < P) (h' : ∀ t, 0 ≤ D'.getD t 0 ∧ D'.getD t 0 < P) (t : Nat) : 0 ≤ (D ++ D').getD t 0 ∧ (D ++ D').getD t 0 < P := by
  by_cases e : t < D.length
  · rw [List.getD_eq_getElem?_getD, List.getElem?_append_left e, ← List.getD_eq_getElem?_getD]; exact h t
  · rw [List.getD_eq_getElem?_getD, List.getElem?_append_right (by omega), ← List.getD_eq_getElem?_getD]; exact h' _
theorem getD_app_lt {a b : List (List Int)} {i : Nat} (h : i < a.length) : (a ++ b).getD i [] = a.getD i [] := by simp [List.getD_eq_getElem?_getD, List.getElem?_append_left h]
theorem getD_app_ge {a b : List (List Int)} {i : Nat} (h : ¬ i < a.length) : (a ++ b).getD i [] = b.getD (i - a.length) [] := by simp [List.getD_eq_getElem?_getD, List.getElem?_append_right (Nat.le_of_not_lt h)]
/-- rows behind rows -/
theorem rowsOf_join {P : Int} {R R' C : Nat} {D D' : List Int} : SameSp P C (R + R') (stackM R (mf C fun t => D.getD t 0) (mf C fun t => D'.getD t 0)) (rowsOf R C D ++ rowsOf R' C D').length (mt (rowsOf R C D ++ rowsOf R' C D')) := by
  rw [List.length_append, rowsOf_length, rowsOf_length]
  refine SameSp.of_eqv fun i hi => .of_eq fun c hc => ?_
  unfold mt
  by_cases h : i < R
  · rw [stackM_lt h, getD_app_lt (by rw [rowsOf_length]; exact h), rowsOf_getD h, rowAt_getD hc]
    rfl
  · rw [stackM_ge h, getD_app_ge (by rw [rowsOf_length]; exact h), rowsOf_length, rowsOf_getD (by omega), rowAt_getD hc]
    rfl
theorem RowsOk.join {p : Int} {C : Nat} {a b : List (List Int)} (ha : RowsOk p C a) (hb : RowsOk p C b) : RowsOk p C (a ++ b) := fun i hi => by
  by_cases h : i < a.length
  · rw [getD_app_lt h]; exact ha i h
  · rw [List.length_append] at hi
    rw [getD_app_ge h]; exact hb _ (by omega)


end Go.Proofs.Ytoodgbflaaabmaa

namespace Go.Proofs.Ytoodgbflaaabmaa
set_option linter.all false
open Go.RowKit

theorem run_append_make_own {P : Program} (w : World) (base : Nat) (t ti ty e : TypeId) (z : Value) (bytes : Nat) (ht : P.underlying t = some (.slice e)) (hti : P.underlying ti = some (.int .i64))
    (hinfo : (P.info? e).map (fun i => (i.zero, i.size, i.bytes)) = some (some z, 1, bytes)) (hzs : z.cells.size = 1) (hz1 : ∀ u ∈ z.cells.toList, u.oneCell' = true) (hb : bytes ≤ 1000) (hb0 : 0 < bytes)
    (v : Value) (n : Nat) (xs : List Value) (hown : w.ownsRow base e 1 v n xs) (m : Nat) (hm0 : 0 < m) (hnm : n + m ≤ 1000000) (hbase : base ≤ w.heap.size) :
    ∃ v' w', (Builtin.append_ #[t, ti] ty #[v, .int .i64 (m : Int)]).run P w = .ok v' w' ∧ w'.ownsRow base e 1 v' (n + m) (xs ++ (Builtin.zeroCells z.cells m).toList) ∧ w.grownBy w' v.ownBlock ∧
      (∀ b, v'.ownBlock = some b → v.ownBlock = some b ∨ w.heap.size ≤ b) := by
  obtain ⟨i, hi, hz, hsz, hby⟩ := info_parts hinfo
  have hlen : (xs ++ (Builtin.zeroCells z.cells m).toList).length = (n + m) * 1 := by
    rw [List.length_append, hown.1, Array.length_toList, size_zeroCells, hzs]; omega
  have hzl : (Builtin.zeroCells z.cells m).toList.length = m := by rw [Array.length_toList, size_zeroCells, hzs]; omega
  have hwr : IntKind.i64.wrap (m : Int) = (m : Int) := k64 (by omega) (by omega)
  have hmb : m * bytes ≤ 1000000 * 1000 := Nat.mul_le_mul (by omega) hb
  have h1 : ¬ ((m : Int) < 0) := by omega
  have hm : m ≠ 0 := by omega
  have h4 : ¬ (281474976710656 < (m : Int) * (i.bytes : Int)) := by
    rw [hby]
    have : ((m * bytes : Nat) : Int) = (m : Int) * (bytes : Int) := Int.natCast_mul _ _
    omega
  rcases hown.2 with ⟨rfl, rfl⟩ | ⟨g, cap, cur, rfl, hbg, hg, hnc, hcm, hcs, htake⟩
  · have hx : xs = [] := List.eq_nil_of_length_eq_zero (by simpa using hown.1)
    subst hx
    have hge := grownCap_ge w m 0 e
    have hle := grownCap_le_maxLen w m 0 e (by unfold maxLen; omega)
    have h3 : ¬ (281474976710656 < Builtin.nextslicecap m 0 * i.bytes) := by rw [nextslicecap_zero (by omega), hby]; omega
    have h5 : ¬ (9223372036854775807 < (m : Int)) := by omega
    refine ⟨.slice (some ⟨w.heap.size, 0, none⟩) m (grownCap w m 0 e), w.drew.alloc (.cells (Builtin.zeroCells z.cells m ++ Builtin.zeroCells z.cells (grownCap w m 0 e - m)) e), ?_, ?_, ?_, fun b hb => .inr ?_⟩
    · simp [Builtin.append_, run_underlying ht, run_underlying hti, sizeOf, typeInfo, zeroValue, hi, hz, hsz, Builtin.firstCells, asInt, asIntOf, hwr, h1, h3, h4, h5, hm, Question.forced, newRow, grownCap, loadCells, loadCellsFrom]
    · rw [Nat.zero_add] at hlen ⊢
      refine ⟨hlen, .inr ⟨w.heap.size, _, _, rfl, hbase, heap_alloc_new w.drew _, hge, hle, ?_, ?_⟩⟩
      · simp only [Array.size_append, size_zeroCells, hzs]; omega
      · simp only [Array.toList_append, List.nil_append]
        rw [List.take_left' (by rw [hzl]; omega)]
    · exact ⟨rfl, rfl, rfl, by simp, fun k hk _ => heap_alloc_old w.drew _ hk⟩
    · simp only [Value.ownBlock, Option.some.injEq] at hb; omega
  · have hnews1 : ∀ u ∈ (Builtin.zeroCells z.cells m).toList, u.oneCell' = true := fun u hu => by
      rw [Array.mem_toList_iff] at hu
      simp only [Builtin.zeroCells, Array.mem_map, Array.mem_range] at hu
      obtain ⟨k, hk, rfl⟩ := hu
      rw [hzs, Nat.mod_one]
      have h0 : 0 < z.cells.size := by omega
      rw [getElem!_pos z.cells 0 h0]
      exact hz1 _ (Array.mem_toList_iff.2 (Array.getElem_mem _))
    by_cases hroom : n + m ≤ cap
    · have hfit : n * 1 + (Builtin.zeroCells z.cells m).toList.length ≤ cur.size := by rw [hzl, hcs]; omega
      have hst := run_storeCells_at P g (n * 1) e (Builtin.zeroCells z.cells m).toList 0 cur w hg (by simpa using hfit) hnews1
      simp only [Nat.add_zero, Nat.mul_one] at hst hfit
      refine ⟨.slice (some ⟨g, 0, none⟩) (n + m) cap, w.setRow g (cur.toList.take n ++ (Builtin.zeroCells z.cells m).toList ++ cur.toList.drop (n + (Builtin.zeroCells z.cells m).toList.length)).toArray, ?_, ?_, ?_, fun b hb => .inl hb⟩
      · simp [Builtin.append_, run_underlying ht, run_underlying hti, sizeOf, typeInfo, zeroValue, hi, hz, hsz, asInt, asIntOf, hwr, h1, h4, hm, hroom, Addr.add_lit, hst]
      · refine ⟨hlen, .inr ⟨g, cap, _, rfl, hbg, setRow_heap w g cur _ e _ hg, hroom, hcm, ?_, ?_⟩⟩
        · simp only [List.size_toArray, List.length_append, List.length_take, List.length_drop, Array.length_toList] at *
          omega
        · rw [Nat.mul_one] at htake
          rw [htake, ← hlen]
          exact List.take_left
      · exact ⟨rfl, rfl, rfl, by simp, fun k _ hk => setRow_other w g k _ (fun e => hk (by simp [Value.ownBlock, e]))⟩
    · have holds : ∀ j u, xs[j]? = some u → w.cell? ((⟨g, 0, none⟩ : Addr).add j) = some u := hown.cells (g := g) rfl
      have hge := grownCap_ge w (n + m) cap e
      have hle := grownCap_le_maxLen w (n + m) cap e (by unfold maxLen; omega)
      have hfo := run_firstCells_some (P := P) w.drew 1 n ⟨g, 0, none⟩ n cap xs hown.1 (by simpa using holds)
      have h3 : ¬ (281474976710656 < Builtin.nextslicecap (n + m) cap * i.bytes) := by
        have := growslice_fits (need := n + m) (old := cap) (bytes := i.bytes) (by omega) (by rw [hby]; have := Nat.mul_le_mul hnm hb; omega)
        omega
      have h5 : ¬ (9223372036854775807 < (n : Int) + (m : Int)) := by omega
      refine ⟨.slice (some ⟨w.heap.size, 0, none⟩) (n + m) (grownCap w (n + m) cap e), w.drew.alloc (.cells (xs.toArray ++ Builtin.zeroCells z.cells m ++ Builtin.zeroCells z.cells (grownCap w (n + m) cap e - (n + m))) e), ?_, ?_, ?_, fun b hb => .inr ?_⟩
      · simp [Builtin.append_, run_underlying ht, run_underlying hti, sizeOf, typeInfo, zeroValue, hi, hz, hsz, asInt, asIntOf, hwr, h1, h3, h4, h5, hm, hroom, Question.forced, hfo, newRow, grownCap]
      · refine ⟨hlen, .inr ⟨w.heap.size, _, _, rfl, hbase, heap_alloc_new w.drew _, hge, hle, ?_, ?_⟩⟩
        · have := hown.1
          simp only [Array.size_append, List.size_toArray, size_zeroCells, hzs]; omega
        · simp only [Array.toList_append, List.append_assoc]
          rw [← List.append_assoc, ← hlen]
          exact List.take_left
      · exact ⟨rfl, rfl, rfl, by simp, fun k hk _ => heap_alloc_old w.drew _ hk⟩
      · simp only [Value.ownBlock, Option.some.injEq] at hb; omega

theorem zeroCells_get {z : Value} (hzs : z.cells.size = 1) {m j : Nat} (hj : j < m) : (Builtin.zeroCells z.cells m).toList[j]? = some (z.cells[0]!) := by
  simp [Builtin.zeroCells, hzs, hj, Nat.mod_one]
/-- .. the content said by the index -/
theorem run_append_make_F {P : Program} (w : World) (t ti ty e : TypeId) (z : Value) (bytes : Nat) (ht : P.underlying t = some (.slice e)) (hti : P.underlying ti = some (.int .i64))
    (hinfo : (P.info? e).map (fun i => (i.zero, i.size, i.bytes)) = some (some z, 1, bytes)) (hzs : z.cells.size = 1) (hz1 : ∀ u ∈ z.cells.toList, u.oneCell' = true) (hb : bytes ≤ 1000) (hb0 : 0 < bytes)
    (lo hi' : Nat) (v : Value) (n : Nat) (f : Nat → Value) (hown : OwnF w lo hi' e v n f) (hlo : lo ≤ w.heap.size) (hhi : hi' ≤ w.heap.size) (m : Nat) (hm0 : 0 < m) (hnm : n + m ≤ 1000000) :
    ∃ v' w', (Builtin.append_ #[t, ti] ty #[v, .int .i64 (m : Int)]).run P w = .ok v' w' ∧ OwnF w' lo w'.heap.size e v' (n + m) (fun j => if j < n then f j else z.cells[0]!) ∧ w.grownBy w' v.ownBlock ∧
      (∀ b, v'.ownBlock = some b → v.ownBlock = some b ∨ w.heap.size ≤ b) := by
  obtain ⟨xs, ho, hf⟩ := hown
  obtain ⟨v', w', hr, h2, h3, h4⟩ := run_append_make_own (P := P) w lo t ti ty e z bytes ht hti hinfo hzs hz1 hb hb0 v n xs ho.1 m hm0 hnm hlo
  refine ⟨v', w', hr, ⟨_, Own.of_row h2, fun j hj => ?_⟩, h3, h4⟩
  have hl : xs.length = n := by have := ho.len; omega
  by_cases h : j < n
  · simp only [h, if_true]
    rw [List.getElem?_append_left (by omega), hf j h]
  · simp only [h, if_false]
    rw [List.getElem?_append_right (by omega), hl]
    exact zeroCells_get hzs (by omega)
theorem wpList_append_make_F {P : Program} {w : World} {ops : Array Oper} {rest : List Oper} {o : Oper} {a : Act} {Q : Exit → Act → World → Prop} (hgd : o.guard = none) (s x : Operand) (t ti : TypeId)
    (ho : o.op = .call { callee := .builtin .append, args := #[s, x], argTypes := #[t, ti] })
    (e : TypeId) (z : Value) (bytes : Nat) (ht : P.underlying t = some (.slice e)) (hti : P.underlying ti = some (.int .i64))
    (hinfo : (P.info? e).map (fun i => (i.zero, i.size, i.bytes)) = some (some z, 1, bytes)) (hzs : z.cells.size = 1) (hz1 : ∀ u ∈ z.cells.toList, u.oneCell' = true) (hb : bytes ≤ 1000) (hb0 : 0 < bytes)
    (lo hi' : Nat) (v : Value) (n : Nat) (f : Nat → Value) (hs : a.eval s = v) (hown : OwnF w lo hi' e v n f) (hlo : lo ≤ w.heap.size) (hhi : hi' ≤ w.heap.size) (m : Nat) (hx : a.eval x = .int .i64 (m : Int)) (hm0 : 0 < m) (hnm : n + m ≤ 1000000)
    (h : ∀ v' w', OwnF w' lo w'.heap.size e v' (n + m) (fun j => if j < n then f j else z.cells[0]!) → w.grownBy w' v.ownBlock → (∀ b, v'.ownBlock = some b → v.ownBlock = some b ∨ w.heap.size ≤ b) → wpList P ops Q rest (a.put o.dst v') w') :
    wpList P ops Q (o :: rest) a w := by
  refine wpList_plain hgd fun K hK' => ?_
  obtain ⟨v', w', hr, h2, h3, h4⟩ := run_append_make_F (P := P) w t ti o.type e z bytes ht hti hinfo hzs hz1 hb hb0 lo hi' v n f hown hlo hhi m hm0 hnm
  unfold Oper.wp
  simp [execOp, ho, resolve, invoke, builtin, hs, hx, hr, Result.andThen]
  exact hK' _ _ (h v' w' h2 h3 h4)
theorem step_append_make_F {P : Program} {w : World} {ops : Array Oper} {o : Oper} {a : Act} {K : Act → World → Prop} {Q : Exit → Act → World → Prop} {E : Prop} (hgd : o.guard = none) (s x : Operand) (t ti : TypeId)
    (ho : o.op = .call { callee := .builtin .append, args := #[s, x], argTypes := #[t, ti] })
    (e : TypeId) (z : Value) (bytes : Nat) (ht : P.underlying t = some (.slice e)) (hti : P.underlying ti = some (.int .i64))
    (hinfo : (P.info? e).map (fun i => (i.zero, i.size, i.bytes)) = some (some z, 1, bytes)) (hzs : z.cells.size = 1) (hz1 : ∀ u ∈ z.cells.toList, u.oneCell' = true) (hb : bytes ≤ 1000) (hb0 : 0 < bytes)
    (lo hi' : Nat) (v : Value) (n : Nat) (f : Nat → Value) (hs : a.eval s = v) (hown : OwnF w lo hi' e v n f) (hlo : lo ≤ w.heap.size) (hhi : hi' ≤ w.heap.size) (m : Nat) (hx : a.eval x = .int .i64 (m : Int)) (hm0 : 0 < m) (hnm : n + m ≤ 1000000)
    (h : ∀ v' w', OwnF w' lo w'.heap.size e v' (n + m) (fun j => if j < n then f j else z.cells[0]!) → w.grownBy w' v.ownBlock → (∀ b, v'.ownBlock = some b → v.ownBlock = some b ∨ w.heap.size ≤ b) → K (a.put o.dst v') w') :
    if Region.wanted o (yielded ops a.tmps) = true then Oper.wp P o a w K Q else E := by
  have hw : Region.wanted o (yielded ops a.tmps) = true := by simp [Region.wanted, hgd]
  rw [if_pos hw]
  obtain ⟨v', w', hr, h2, h3, h4⟩ := run_append_make_F (P := P) w t ti o.type e z bytes ht hti hinfo hzs hz1 hb hb0 lo hi' v n f hown hlo hhi m hm0 hnm
  unfold Oper.wp
  simp [execOp, ho, resolve, invoke, builtin, hs, hx, hr, Result.andThen]
  exact h v' w' h2 h3 h4

end Go.Proofs.Ytoodgbflaaabmaa

namespace Go.Proofs.Ytoodgbflaaabmaa
set_option linter.all false
open Go.RowKit

/-- rows (x, x) of one, and (y, 0) of the other one -/
def mtM (c ra : Nat) (A B : Nat → Nat → Int) : Nat → Nat → Int := stackM ra (fun i j => if j < c then A i j else A i (j - c)) (fun i j => if j < c then B i j else 0)
/-- the rows that begin in the second half -/
def keptL (n c : Nat) (q : Nat → Nat) : List Nat := (List.range n).filter fun i => decide (c ≤ q i)
def keptM (c : Nat) (M : Nat → Nat → Int) (l : List Nat) (t j : Nat) : Int := M (l.getD t 0) (c + j)
/-- what is in common -/
def MtIs (P : Int) (c ra rb : Nat) (A B : Nat → Nat → Int) (m : Mx) : Prop :=
  ∃ n M q, IsRed P (2 * c) (ra + rb) (mtM c ra A B) n M q ∧ RowsIs P c (keptL n c q).length (keptM c M (keptL n c q)) m
theorem keptL_lt {n c t : Nat} {q : Nat → Nat} (h : t < (keptL n c q).length) : (keptL n c q).getD t 0 < n := by
  have : (keptL n c q).getD t 0 ∈ keptL n c q := by
    rw [List.getD_eq_getElem?_getD, List.getElem?_eq_getElem h]; exact List.getElem_mem _
  have := (List.mem_filter.1 this).1
  simpa using this
theorem keptL_congr {n c : Nat} {q q' : Nat → Nat} (h : ∀ i, i < n → q i = q' i) : keptL n c q = keptL n c q' := by
  unfold keptL
  refine List.filter_congr fun i hi => ?_
  rw [h i (by simpa using hi)]
theorem keptL_succ (n c : Nat) (q : Nat → Nat) : keptL (n + 1) c q = keptL n c q ++ (if c ≤ q n then [n] else []) := by
  unfold keptL
  rw [List.range_succ, List.filter_append]
  by_cases h : c ≤ q n <;> simp [h]
theorem keptL_le (n c : Nat) (q : Nat → Nat) : (keptL n c q).length ≤ n := by
  unfold keptL
  have := List.length_filter_le (fun i => decide (c ≤ q i)) (List.range n)
  simpa using this
theorem MtIs.one {P : Int} {c ra rb : Nat} {A B : Nat → Nat → Int} {m m' : Mx} (hP : 2 ≤ P) (h : MtIs P c ra rb A B m) (h' : MtIs P c ra rb A B m') : m = m' := by
  obtain ⟨n, M, q, h1, h2⟩ := h
  obtain ⟨n', M', q', h1', h2'⟩ := h'
  obtain ⟨e1, e2, e3⟩ := h1.one hP h1'
  subst e1
  rw [← keptL_congr e2] at h2'
  refine h2.one hP (h2'.same (SameSp.of_eqv fun t ht => .of_eq fun j hj => ?_))
  unfold keptM
  exact e3 _ _ (keptL_lt ht) (by omega)

/-- what MeetSpaces returns -/
def MeIs (P R C : Int) (D : List Int) (P' R' C' : Int) (D' : List Int) (m : Mx) (ok : Bool) : Prop :=
  (TwoIs P R C D P' R' C' D' ∧ ok = true ∧ MtIs P C.toNat R.toNat R'.toNat (mf C.toNat fun t => D.getD t 0) (mf C.toNat fun t => D'.getD t 0) m) ∨ (¬ TwoIs P R C D P' R' C' D' ∧ ok = false ∧ m = mxZero)
theorem MeIs.one {P R C : Int} {D : List Int} {P' R' C' : Int} {D' : List Int} (m : Mx) (b : Bool) (m' : Mx) (b' : Bool) (h : MeIs P R C D P' R' C' D' m b) (h' : MeIs P R C D P' R' C' D' m' b') : m = m' ∧ b = b' := by
  rcases h with ⟨t, rfl, h⟩ | ⟨t, rfl, rfl⟩
  · rcases h' with ⟨_, rfl, h'⟩ | ⟨t', _, _⟩
    · obtain ⟨_, _, _, _, _, _, _, _, _, hP, _⟩ := mxOk_facts t.1.1
      exact ⟨h.one hP h', rfl⟩
    · exact absurd t t'
  · rcases h' with ⟨t', _, _⟩ | ⟨_, rfl, rfl⟩
    · exact absurd t' t
    · exact ⟨rfl, rfl⟩
theorem meet_len (P R C : Int) (D : List Int) (P' R' C' : Int) (D' : List Int) : (Classical.epsilon (PrQ (MeIs P R C D P' R' C' D'))).1.D.length ≤ 1000 := by
  rcases PrQ.spec (MeIs P R C D P' R' C' D') with h | ⟨_, h⟩
  · rcases h with ⟨t, _, n, M, q, _, h⟩ | ⟨_, _, h⟩
    · obtain ⟨r, c, _, rfl, _, _, hc, _⟩ := mxOk_facts t.1.1
      exact h.len (by simp; omega)
    · rw [h]; simp [mxZero]
  · rw [h]; simp [mxZero]

theorem flat_ltW {n C i c : Nat} (hi : i < n) (hc : c < C) : i * C + c < n * C := by
  have : (i + 1) * C ≤ n * C := Nat.mul_le_mul_right C hi
  rw [Nat.succ_mul] at this
  omega
/-- rows of one width, one behind the other -/
def rowsF (k : Nat) (f : Nat → List Int) : List Int := (List.range k).flatMap f
theorem rowsF_succ (k : Nat) (f : Nat → List Int) : rowsF (k + 1) f = rowsF k f ++ f k := by
  unfold rowsF
  rw [List.range_succ, List.flatMap_append]; simp
theorem rowsF_length {k W : Nat} {f : Nat → List Int} (h : ∀ i, i < k → (f i).length = W) : (rowsF k f).length = k * W := by
  induction k with
  | zero => simp [rowsF]
  | succ k ih => rw [rowsF_succ, List.length_append, ih fun i hi => h i (by omega), h k (by omega), Nat.succ_mul]
theorem rowsF_getD {k W : Nat} {f : Nat → List Int} (h : ∀ i, i < k → (f i).length = W) {i j : Nat} (hi : i < k) (hj : j < W) : (rowsF k f).getD (i * W + j) 0 = (f i).getD j 0 := by
  induction k with
  | zero => omega
  | succ k ih =>
    have hl := rowsF_length (k := k) (fun i hi => h i (by omega))
    rw [rowsF_succ]
    by_cases e : i < k
    · have := flat_ltW e hj
      rw [List.getD_eq_getElem?_getD, List.getElem?_append_left (by omega), ← List.getD_eq_getElem?_getD]
      exact ih (fun i hi => h i (by omega)) e
    · obtain rfl : i = k := by omega
      rw [List.getD_eq_getElem?_getD, List.getElem?_append_right (by omega), ← List.getD_eq_getElem?_getD, hl, Nat.add_sub_cancel_left]

end Go.Proofs.Ytoodgbflaaabmaa

namespace Go.Proofs.Ytoodgbflaaabmaa
set_option linter.all false

/-- the rows that begin in the second half are the last ones -/
theorem kept_last (c : Nat) (q : Nat → Nat) : ∀ n, (∀ i k, i < k → k < n → q i < q k) → ∃ n1 n2, n = n1 + n2 ∧ (keptL n c q).length = n2 ∧ (∀ t, t < n2 → (keptL n c q).getD t 0 = n1 + t) ∧ (∀ i, i < n1 → q i < c) ∧ ∀ i, n1 ≤ i → i < n → c ≤ q i := by
  intro n
  induction n with
  | zero => exact fun _ => ⟨0, 0, rfl, rfl, fun t h => absurd h (Nat.not_lt_zero _), fun t h => absurd h (Nat.not_lt_zero _), fun i _ h => absurd h (Nat.not_lt_zero _)⟩
  | succ n ih =>
    intro ha
    obtain ⟨n1, n2, e, h1, h2, h3, h4⟩ := ih fun i k hik hk => ha i k hik (by omega)
    by_cases hq : c ≤ q n
    · have ek : keptL (n + 1) c q = keptL n c q ++ [n] := by rw [keptL_succ, if_pos hq]
      refine ⟨n1, n2 + 1, by omega, by rw [ek, List.length_append, h1]; rfl, fun t ht => ?_, h3, fun i hi hn => ?_⟩
      · rw [ek]
        by_cases et : t < n2
        · rw [List.getD_eq_getElem?_getD, List.getElem?_append_left (by omega), ← List.getD_eq_getElem?_getD]
          exact h2 t et
        · obtain rfl : t = n2 := by omega
          rw [List.getD_eq_getElem?_getD, List.getElem?_append_right (by omega), h1]
          simp; omega
      · by_cases ei : i < n
        · exact h4 i hi ei
        · obtain rfl : i = n := by omega
          exact hq
    · have ek : keptL (n + 1) c q = keptL n c q := by rw [keptL_succ, if_neg hq, List.append_nil]
      have h0 : n2 = 0 := by
        rcases Nat.eq_zero_or_pos n2 with e0 | e0
        · exact e0
        · have a := h4 (n - 1) (by omega) (by omega)
          have b := ha (n - 1) n (by omega) (by omega)
          omega
      subst h0
      refine ⟨n1 + 1, 0, by omega, by rw [ek]; exact h1, fun t h => absurd h (Nat.not_lt_zero _), fun i hi => ?_, fun i hi hn => by omega⟩
      by_cases ei : i < n1
      · exact h3 i ei
      · rw [show i = n by omega]; omega

variable {P : Int} {c ra rb : Nat} {A B : Nat → Nat → Int}

theorem mtM_A {i j : Nat} (hi : i < ra) (hj : j < c) : mtM c ra A B i j = A i j ∧ mtM c ra A B i (c + j) = A i j := by
  unfold mtM
  rw [stackM_lt hi]
  exact ⟨by simp [hj], by simp [show ¬ c + j < c by omega]⟩
theorem mtM_B {i j : Nat} (hi : ¬ i < ra) (hj : j < c) : mtM c ra A B i j = B (i - ra) j ∧ mtM c ra A B i (c + j) = 0 := by
  unfold mtM
  rw [stackM_ge hi]
  exact ⟨by simp [hj], by simp [show ¬ c + j < c by omega]⟩
/-- what (x + y, x) is -/
theorem mt_parts {v : Nat → Int} (h : Sp P (2 * c) (ra + rb) (mtM c ra A B) v) : ∃ x y, Sp P c ra A x ∧ Sp P c rb B y ∧ (∀ j, j < c → P ∣ v j - (x j + y j)) ∧ ∀ j, j < c → P ∣ v (c + j) - x j := by
  induction h with
  | zero => exact ⟨fun _ => 0, fun _ => 0, .zero, .zero, fun j _ => by simp, fun j _ => by simp⟩
  | @add v a i hi _ ih =>
    obtain ⟨x, y, h1, h2, h3, h4⟩ := ih
    by_cases e : i < ra
    · refine ⟨fun j => x j + a * A i j, y, .add a i e h1, h2, fun j hj => ?_, fun j hj => ?_⟩
      · show P ∣ v j + a * mtM c ra A B i j - (x j + a * A i j + y j)
        rw [(mtM_A e hj).1]
        have := h3 j hj
        rwa [show ∀ v x y t : Int, v + t - (x + t + y) = v - (x + y) by intros; omega]
      · show P ∣ v (c + j) + a * mtM c ra A B i (c + j) - (x j + a * A i j)
        rw [(mtM_A e hj).2]
        have := h4 j hj
        rwa [show ∀ v x t : Int, v + t - (x + t) = v - x by intros; omega]
    · refine ⟨x, fun j => y j + a * B (i - ra) j, h1, .add a _ (by omega) h2, fun j hj => ?_, fun j hj => ?_⟩
      · show P ∣ v j + a * mtM c ra A B i j - (x j + (y j + a * B (i - ra) j))
        rw [(mtM_B e hj).1]
        have := h3 j hj
        rwa [show ∀ v x y t : Int, v + t - (x + (y + t)) = v - (x + y) by intros; omega]
      · show P ∣ v (c + j) + a * mtM c ra A B i (c + j) - x j
        rw [(mtM_B e hj).2, Int.mul_zero, Int.add_zero]
        exact h4 j hj
  | eqv _ e ih =>
    obtain ⟨x, y, h1, h2, h3, h4⟩ := ih
    refine ⟨x, y, h1, h2, fun j hj => ?_, fun j hj => ?_⟩
    · have := Int.dvd_sub (h3 j hj) (e j (by omega))
      rwa [show ∀ u v t : Int, u - t - (u - v) = v - t by intros; omega] at this
    · have := Int.dvd_sub (h4 j hj) (e (c + j) (by omega))
      rwa [show ∀ u v t : Int, u - t - (u - v) = v - t by intros; omega] at this
theorem mt_indep (hA : Indep P c ra A) (hB : Indep P c rb B) : Indep P (2 * c) (ra + rb) (mtM c ra A B) := fun d hd => by
  have h1 : ∀ i, i < ra → P ∣ d i := hA d fun j hj => by
    have := hd (c + j) (by omega)
    rw [sm_split, sm_congr (n := ra) (g := fun i => d i * A i j) (fun i hi => by rw [(mtM_A hi hj).2]), sm_congr (n := rb) (g := fun _ => 0) (fun i _ => by rw [(mtM_B (by omega) hj).2, Int.mul_zero]), sm_zero, Int.add_zero] at this
    exact this
  have h2 : ∀ i, i < rb → P ∣ d (ra + i) := hB (fun i => d (ra + i)) fun j hj => by
    have := hd j (by omega)
    rw [sm_split, sm_congr (n := ra) (g := fun i => d i * A i j) (fun i hi => by rw [(mtM_A hi hj).1]), sm_congr (n := rb) (g := fun i => d (ra + i) * B i j) (fun i _ => by rw [(mtM_B (by omega) hj).1, Nat.add_sub_cancel_left])] at this
    have h3 : P ∣ sm ra (fun i => d i * A i j) := sm_dvd fun i hi => Int.dvd_mul_of_dvd_left (h1 i hi)
    have := Int.dvd_sub this h3
    rwa [show ∀ a b : Int, a + b - a = b by intros; omega] at this
  intro i hi
  by_cases e : i < ra
  · exact h1 i e
  · have := h2 (i - ra) (by omega)
    rwa [show ra + (i - ra) = i by omega] at this
theorem mtM_rng (hP : 0 < P) (hA : ∀ i j, i < ra → j < c → 0 ≤ A i j ∧ A i j < P) (hB : ∀ i j, i < rb → j < c → 0 ≤ B i j ∧ B i j < P) : ∀ i j, i < ra + rb → j < 2 * c → 0 ≤ mtM c ra A B i j ∧ mtM c ra A B i j < P := fun i j hi hj => by
  by_cases ej : j < c
  · by_cases e : i < ra
    · rw [(mtM_A e ej).1]; exact hA i j e ej
    · rw [(mtM_B e ej).1]; exact hB _ j (by omega) ej
  · obtain ⟨t, rfl⟩ : ∃ t, j = c + t := ⟨j - c, by omega⟩
    by_cases e : i < ra
    · rw [(mtM_A e (by omega)).2]; exact hA i t e (by omega)
    · rw [(mtM_B e (by omega)).2]; omega

/-- the first halves are the sum's reduced form, the kept second halves are reduced; they lie in both spaces -/
theorem zass (hp : primeOk P = true) (hA : ∀ i j, i < ra → j < c → 0 ≤ A i j ∧ A i j < P) (hB : ∀ i j, i < rb → j < c → 0 ≤ B i j ∧ B i j < P) (iA : Indep P c ra A) (iB : Indep P c rb B)
    {n : Nat} {M : Nat → Nat → Int} {q : Nat → Nat} (h : IsRed P (2 * c) (ra + rb) (mtM c ra A B) n M q) :
    ∃ n1 n2 q2, n1 + n2 = ra + rb ∧ (keptL n c q).length = n2 ∧ IsRed P c (ra + rb) (stackM ra A B) n1 M q ∧ IsRed P c n2 (keptM c M (keptL n c q)) n2 (keptM c M (keptL n c q)) q2 ∧
      ∀ t, t < n2 → Sp P c ra A (keptM c M (keptL n c q) t) ∧ Sp P c rb B (keptM c M (keptL n c q) t) := by
  obtain ⟨hP, _⟩ := primeOk_range hp
  have hn : n = ra + rb := HasRank.one hP ⟨M, q, h⟩ ((mt_indep iA iB).rank hp (mtM_rng (by omega) hA hB))
  obtain ⟨hr, ha, hg, hs⟩ := h
  obtain ⟨n1, n2, e, k1, k2, k3, k4⟩ := kept_last c q n ha
  have hz : ∀ i j, n1 ≤ i → i < n → j < c → M i j = 0 := fun i j hi hin hj => hr.lead i j hin (Nat.lt_of_lt_of_le hj (k4 i hi hin))
  refine ⟨n1, n2, fun t => q (n1 + t) - c, by omega, k1, ⟨⟨k3, fun i k hi hk => hr.unit i k (by omega) (by omega), fun i j hi hj => hr.lead i j (by omega) hj⟩, fun i k hik hk => ha i k hik (by omega), fun i j hi hj => hg i j (by omega) (by omega), ?_⟩, ?_, ?_⟩
  · -- what the first halves span
    have hfirst : ∀ v, Sp P (2 * c) n M v → Sp P c n1 M v := fun v hv => (hv.narrow (C' := c) (by omega)).trans fun i hi => by
      by_cases ei : i < n1
      · exact .row ei
      · exact Sp.zero.eqv (.of_eq fun j hj => (hz i j (by omega) hi hj).symm)
    constructor
    · intro i hi
      refine (hfirst _ (hs.1 i hi)).eqv (.of_eq fun j hj => ?_)
      by_cases ei : i < ra
      · rw [(mtM_A ei hj).1, stackM_lt ei]
      · rw [(mtM_B ei hj).1, stackM_ge ei]
    · intro i hi
      refine ((hs.2 i (by omega)).narrow (C' := c) (by omega)).congr fun k hk => .of_eq fun j hj => ?_
      by_cases ei : k < ra
      · rw [(mtM_A ei hj).1, stackM_lt ei]
      · rw [(mtM_B ei hj).1, stackM_ge ei]
  · refine ⟨⟨fun t ht => ?_, fun i k hi hk => ?_, fun i j hi hj => ?_⟩, fun i k hik hk => ?_, fun i j hi hj => ?_, .refl⟩
    · have := hr.lt (n1 + t) (by omega)
      have := k4 (n1 + t) (by omega) (by omega)
      omega
    · unfold keptM
      rw [k2 i hi]
      have := k4 (n1 + k) (by omega) (by omega)
      rw [show c + (q (n1 + k) - c) = q (n1 + k) by omega, hr.unit _ _ (by omega) (by omega)]
      by_cases ei : i = k
      · simp [ei]
      · rw [if_neg ei, if_neg (by omega)]
    · unfold keptM
      rw [k2 i hi]
      exact hr.lead _ _ (by omega) (by omega)
    · have := ha (n1 + i) (n1 + k) (by omega) (by omega)
      have := k4 (n1 + i) (by omega) (by omega)
      show q (n1 + i) - c < q (n1 + k) - c
      omega
    · unfold keptM
      rw [k2 i hi]
      exact hg _ _ (by omega) (by omega)
  · intro t ht
    unfold keptM
    rw [k2 t ht]
    obtain ⟨x, y, h1, h2, h3, h4⟩ := mt_parts (hs.2 (n1 + t) (by omega))
    refine ⟨h1.eqv fun j hj => ?_, ((h2.smul (-1)).eqv fun j hj => ?_)⟩
    · have := Int.dvd_neg.2 (h4 j hj)
      rwa [Int.neg_sub] at this
    · have a := h3 j hj
      rw [hz (n1 + t) j (by omega) (by omega) hj] at a
      have b := h4 j hj
      have := Int.dvd_sub a b
      rwa [show ∀ x y m : Int, 0 - (x + y) - (m - x) = -1 * y - m by intros; omega] at this
/-- what lies in both is spanned by the kept halves -/
theorem zass_all (hp : primeOk P = true) {n : Nat} {M : Nat → Nat → Int} {q : Nat → Nat} (h : IsRed P (2 * c) (ra + rb) (mtM c ra A B) n M q) {v : Nat → Int} (h1 : Sp P c ra A v) (h2 : Sp P c rb B v) :
    Sp P c (keptL n c q).length (keptM c M (keptL n c q)) v := by
  obtain ⟨hr, ha, hg, hs⟩ := h
  obtain ⟨n1, n2, e, k1, k2, k3, k4⟩ := kept_last c q n ha
  -- (0, v) is (v, v) less (v, 0)
  have sA : ∀ x, Sp P c ra A x → Sp P (2 * c) (ra + rb) (mtM c ra A B) (fun j => if j < c then x j else x (j - c)) := fun x hx => by
    induction hx with
    | zero => exact Sp.zero.eqv (.of_eq fun j _ => by simp)
    | @add v a i hi _ ih =>
      refine (Sp.add a i (by omega) ih).eqv (.of_eq fun j hj => ?_)
      by_cases ej : j < c
      · rw [(mtM_A hi ej).1]; simp [ej]
      · obtain ⟨t, rfl⟩ : ∃ t, j = c + t := ⟨j - c, by omega⟩
        rw [(mtM_A hi (by omega)).2]; simp [show ¬ c + t < c by omega]
    | eqv _ e ih =>
      refine ih.eqv fun j hj => ?_
      by_cases ej : j < c
      · simp only [ej, if_true]; exact e j ej
      · simp only [ej, if_false]; exact e _ (by omega)
  have sB : ∀ x, Sp P c rb B x → Sp P (2 * c) (ra + rb) (mtM c ra A B) (fun j => if j < c then x j else 0) := fun x hx => by
    induction hx with
    | zero => exact Sp.zero.eqv (.of_eq fun j _ => by simp)
    | @add v a i hi _ ih =>
      refine (Sp.add a (ra + i) (by omega) ih).eqv (.of_eq fun j hj => ?_)
      by_cases ej : j < c
      · rw [(mtM_B (by omega) ej).1]; simp [ej]
      · obtain ⟨t, rfl⟩ : ∃ t, j = c + t := ⟨j - c, by omega⟩
        rw [(mtM_B (by omega) (by omega)).2]; simp [show ¬ c + t < c by omega]
    | eqv _ e ih =>
      refine ih.eqv fun j hj => ?_
      by_cases ej : j < c
      · simp only [ej, if_true]; exact e j ej
      · simp [ej]
  have hv := ((sA v h1).sub (sB v h2)).trans hs.1
  have h0 : ∀ j, j < c → P ∣ (if j < c then v j else v (j - c)) - (if j < c then v j else 0) := fun j hj => by simp [hj]
  have hco := hr.coord hv
  refine .of_coef (fun t => v (q (n1 + t) - c)) fun j hj => ?_
  have := hco (c + j) (by omega)
  rw [e, sm_split] at this
  have hz : P ∣ sm n1 (fun i => ((if q i < c then v (q i) else v (q i - c)) - (if q i < c then v (q i) else 0)) * M i (c + j)) := sm_dvd fun i hi => Int.dvd_mul_of_dvd_left (h0 _ (k3 i hi))
  have := Int.dvd_add this hz
  rw [show ∀ a b d : Int, a - (b + d) + b = a - d by intros; omega] at this
  rw [k1]
  rw [sm_congr (n := n2) (g := fun t => v (q (n1 + t) - c) * keptM c M (keptL n c q) t j) (fun t ht => ?_)] at this
  · simpa [show ¬ c + j < c by omega] using this
  · have := k4 (n1 + t) (by omega) (by omega)
    unfold keptM
    rw [k2 t ht]
    simp [show ¬ q (n1 + t) < c by omega]

end Go.Proofs.Ytoodgbflaaabmaa

namespace Go.Proofs.Ytoodgbflaaabmaa
set_option linter.all false

theorem IsRed.congrM {P : Int} {C R n : Nat} {M0 M M' : Nat → Nat → Int} {q : Nat → Nat} (h : IsRed P C R M0 n M q) (e : ∀ i j, i < n → j < C → M' i j = M i j) : IsRed P C R M0 n M' q := by
  obtain ⟨h1, h2, h3, h4⟩ := h
  refine ⟨⟨h1.lt, fun i k hi hk => ?_, fun i j hi hj => ?_⟩, h2, fun i j hi hj => by rw [e i j hi hj]; exact h3 i j hi hj, h4.trans (SameSp.of_eqv fun i hi => .of_eq fun j hj => (e i j hi hj).symm)⟩
  · rw [e i _ hi (h1.lt k hk)]; exact h1.unit i k hi hk
  · rw [e i j hi (by have := h1.lt i hi; omega)]; exact h1.lead i j hi hj
theorem IsRed.from' {P : Int} {C R R' n : Nat} {M0 M1 M : Nat → Nat → Int} {q : Nat → Nat} (h : IsRed P C R M0 n M q) (hs : SameSp P C R' M1 R M0) : IsRed P C R' M1 n M q := ⟨h.1, h.2.1, h.2.2.1, hs.trans h.2.2.2⟩
theorem mf_flatM {n C i j : Nat} {M : Nat → Nat → Int} (hi : i < n) (hj : j < C) : mf C (fun t => (flatM n C M).getD t 0) i j = M i j := by
  obtain ⟨d1, d2⟩ := div_at (k := i) hj
  have hb : i * C + j < n * C := flat_ltW hi hj
  unfold mf flatM
  show (List.map (fun t => M (t / C) (t % C)) (List.range (n * C))).getD (i * C + j) 0 = M i j
  rw [List.getD_eq_getElem?_getD]
  simp [hb, d1, d2]
theorem flatM_getD_rng {P : Int} {n C : Nat} {M : Nat → Nat → Int} (hP : 0 < P) (h : ∀ i j, i < n → j < C → 0 ≤ M i j ∧ M i j < P) : ∀ x ∈ flatM n C M, 0 ≤ x ∧ x < P := fun x hx => by
  unfold flatM at hx
  obtain ⟨t, ht, rfl⟩ := List.mem_map.1 hx
  have ht : t < n * C := by simpa using ht
  have hC : 0 < C := by
    rcases Nat.eq_zero_or_pos C with h0 | h0
    · rw [h0] at ht; omega
    · exact h0
  exact h _ _ (Nat.div_lt_of_lt_mul (by rwa [Nat.mul_comm])) (Nat.mod_lt _ hC)

/-- the rows of a space are their own reduced form -/
theorem IsSp.red {P : Int} {r c : Nat} {D : List Int} (h : IsSp P r c D) : ∃ q, IsRed P c r (mf c fun t => D.getD t 0) r (mf c fun t => D.getD t 0) q ∧ D = flatM r c (mf c fun t => D.getD t 0) := by
  obtain ⟨h1, h2⟩ := h
  unfold SpIs at h2
  rw [if_pos h1] at h2
  obtain ⟨n, M, q, hr, _, e⟩ := h2
  injection e with _ e2 _ e4
  have e2 : r = n := Int.ofNat.inj e2
  subst e2
  simp only [Int.toNat_natCast] at hr e4
  have hM : ∀ i j, i < r → j < c → mf c (fun t => D.getD t 0) i j = M i j := fun i j hi hj => by rw [e4]; exact mf_flatM hi hj
  refine ⟨q, hr.congrM hM, ?_⟩
  rw [flatM_congr hM]
  exact e4
theorem IsRed.isSp {P : Int} {C R n : Nat} {M0 M : Nat → Nat → Int} {q : Nat → Nat} (h : IsRed P C R M0 n M q) (hp : primeOk P = true) (h1 : 1 ≤ C) (h7 : C ≤ 7) : IsSp P n C (flatM n C M) := by
  obtain ⟨hP, _⟩ := primeOk_range hp
  have hn := asc_bound h.2.1 h.1.lt
  have hok : mxOk P n C (flatM n C M) = true := by
    unfold mxOk
    refine decide_eq_true ⟨hp, by omega, by omega, by rw [flatM_length]; push_cast; rfl, flatM_getD_rng (by omega) h.2.2.1⟩
  refine ⟨hok, ?_⟩
  unfold SpIs
  rw [if_pos hok]
  refine ⟨n, M, q, ?_, Int.le_refl _, by simp⟩
  simp only [Int.toNat_natCast]
  exact ⟨h.1, h.2.1, h.2.2.1, SameSp.of_eqv fun i hi => .of_eq fun j hj => mf_flatM hi hj⟩
/-- what spans the same has the same reduced form -/
theorem RowsIs.eq_of {P : Int} {C R R' n : Nat} {M0 M1 M : Nat → Nat → Int} {q : Nat → Nat} {x : Mx} (hP : 2 ≤ P) (h : RowsIs P C R M0 x) (h2 : IsRed P C R' M1 n M q) (hs : SameSp P C R M0 R' M1) : x = ⟨P, n, C, flatM n C M⟩ :=
  h.one hP ⟨n, M, q, h2.from' hs, rfl⟩
/-- a second lot of rows that lies in what the first one spans -/
theorem stack_same {P : Int} {C R R' : Nat} {A B : Nat → Nat → Int} (h : ∀ i, i < R' → Sp P C R A (B i)) : SameSp P C (R + R') (stackM R A B) R A := by
  refine ⟨fun i hi => ?_, fun i hi => ?_⟩
  · by_cases e : i < R
    · rw [stackM_lt e]; exact .row e
    · rw [stackM_ge e]; exact h _ (by omega)
  · have := Sp.row (p := P) (C := C) (n := R + R') (M := stackM R A B) (i := i) (by omega)
    rwa [stackM_lt hi] at this
theorem stack_same' {P : Int} {C R R' : Nat} {A B : Nat → Nat → Int} (h : ∀ i, i < R → Sp P C R' B (A i)) : SameSp P C (R + R') (stackM R A B) R' B := by
  refine ⟨fun i hi => ?_, fun i hi => ?_⟩
  · by_cases e : i < R
    · rw [stackM_lt e]; exact h _ e
    · rw [stackM_ge e]; exact .row (by omega)
  · have := Sp.row (p := P) (C := C) (n := R + R') (M := stackM R A B) (i := R + i) (by omega)
    rwa [stackM_ge (by omega), Nat.add_sub_cancel_left] at this
theorem stack_left {P : Int} {C R R' i : Nat} {A B : Nat → Nat → Int} (hi : i < R) : Sp P C (R + R') (stackM R A B) (A i) := by
  have := Sp.row (p := P) (C := C) (n := R + R') (M := stackM R A B) (i := i) (by omega)
  rwa [stackM_lt hi] at this
theorem stack_right {P : Int} {C R R' i : Nat} {A B : Nat → Nat → Int} (hi : i < R') : Sp P C (R + R') (stackM R A B) (B i) := by
  have := Sp.row (p := P) (C := C) (n := R + R') (M := stackM R A B) (i := R + i) (by omega)
  rwa [stackM_ge (by omega), Nat.add_sub_cancel_left] at this

/-- all that the law FnModular says of the sum s and what is common m of two spaces -/
theorem modular_law {P : Int} {ra rb c : Nat} {DA DB : List Int} (hA : IsSp P ra c DA) (hB : IsSp P rb c DB) {s m : Mx}
    (hs : RowsIs P c (ra + rb) (stackM ra (mf c fun t => DA.getD t 0) (mf c fun t => DB.getD t 0)) s) (hm : MtIs P c ra rb (mf c fun t => DA.getD t 0) (mf c fun t => DB.getD t 0) m) :
    ∃ ns nm : Nat, s = ⟨P, ns, c, s.D⟩ ∧ m = ⟨P, nm, c, m.D⟩ ∧ ns + nm = ra + rb ∧ IsSp P ns c s.D ∧ IsSp P nm c m.D ∧
      (∀ x, RowsIs P c (ns + ra) (stackM ns (mf c fun t => s.D.getD t 0) (mf c fun t => DA.getD t 0)) x → x = s) ∧
      (∀ x, RowsIs P c (nm + ra) (stackM nm (mf c fun t => m.D.getD t 0) (mf c fun t => DA.getD t 0)) x → x = ⟨P, ra, c, DA⟩) ∧
      (∀ x, RowsIs P c (nm + rb) (stackM nm (mf c fun t => m.D.getD t 0) (mf c fun t => DB.getD t 0)) x → x = ⟨P, rb, c, DB⟩) ∧
      (∀ x, MtIs P c ns rb (mf c fun t => s.D.getD t 0) (mf c fun t => DB.getD t 0) x → x = ⟨P, rb, c, DB⟩) := by
  obtain ⟨r1, c1, e1, e2, hr1, hc0, hc7, hlA, hDA, hP2, hP7, hp⟩ := mxOk_facts hA.1
  obtain rfl := Int.ofNat.inj e1
  obtain rfl := Int.ofNat.inj e2
  obtain ⟨r2, c2, e1, e2, hr2, _, _, hlB, hDB, _, _, _⟩ := mxOk_facts hB.1
  obtain rfl := Int.ofNat.inj e1
  clear e2
  obtain ⟨qA, redA, flA⟩ := hA.red
  obtain ⟨qB, redB, flB⟩ := hB.red
  obtain ⟨A, eA⟩ : ∃ A, A = mf c fun t => DA.getD t 0 := ⟨_, rfl⟩
  obtain ⟨B, eB⟩ : ∃ B, B = mf c fun t => DB.getD t 0 := ⟨_, rfl⟩
  rw [← eA] at hs hm redA flA ⊢
  rw [← eB] at hs hm redB flB ⊢
  obtain ⟨n, M, q, hz, hk⟩ := hm
  obtain ⟨n1, n2, q2, hn, hkl, hz1, hz2, hz3⟩ := zass hp redA.2.2.1 redB.2.2.1 redA.1.indep redB.1.indep hz
  have es : s = ⟨P, n1, c, flatM n1 c M⟩ := hs.eq_of hP2 hz1 .refl
  have em : m = ⟨P, n2, c, flatM n2 c (keptM c M (keptL n c q))⟩ := hk.eq_of hP2 hz2 (by rw [hkl]; exact .refl)
  generalize keptM c M (keptL n c q) = K at *
  have hS : SameSp P c n1 (mf c fun t => (flatM n1 c M).getD t 0) n1 M := SameSp.of_eqv fun i hi => .of_eq fun j hj => mf_flatM hi hj
  have hK : SameSp P c n2 (mf c fun t => (flatM n2 c K).getD t 0) n2 K := SameSp.of_eqv fun i hi => .of_eq fun j hj => mf_flatM hi hj
  have hAS : ∀ i, i < ra → Sp P c n1 M (A i) := fun i hi => (stack_left hi).trans hz1.2.2.2.1
  have hBS : ∀ i, i < rb → Sp P c n1 M (B i) := fun i hi => (stack_right hi).trans hz1.2.2.2.1
  subst es em
  dsimp only
  refine ⟨n1, n2, rfl, rfl, hn, hz1.isSp hp hc0 hc7, hz2.isSp hp hc0 hc7, fun x hx => ?_, fun x hx => ?_, fun x hx => ?_, fun x hx => ?_⟩
  · exact hx.eq_of hP2 hz1 ((stack_same fun i hi => (hAS i hi).trans hS.2).trans (hS.trans hz1.2.2.2.symm))
  · have := hx.eq_of hP2 redA (stack_same' fun i hi => (hK.1 i hi).trans fun k hk => (hz3 k hk).1)
    rw [this, ← flA]
  · have := hx.eq_of hP2 redB (stack_same' fun i hi => (hK.1 i hi).trans fun k hk => (hz3 k hk).2)
    rw [this, ← flB]
  · obtain ⟨n', M', q', hz', hk'⟩ := hx
    have redS : IsRed P c n1 M n1 M q := ⟨hz1.1, hz1.2.1, hz1.2.2.1, .refl⟩
    have hSm : IsRed P c n1 (mf c fun t => (flatM n1 c M).getD t 0) n1 (mf c fun t => (flatM n1 c M).getD t 0) q := (redS.from' hS).congrM fun i j hi hj => mf_flatM hi hj
    obtain ⟨n1', n2', q2', hn', hkl', hz1', hz2', hz3'⟩ := zass hp hSm.2.2.1 redB.2.2.1 hSm.1.indep redB.1.indep hz'
    have hsum : SameSp P c (n1 + rb) (stackM n1 (mf c fun t => (flatM n1 c M).getD t 0) B) n1 (mf c fun t => (flatM n1 c M).getD t 0) := stack_same fun i hi => (hBS i hi).trans hS.2
    have hn1 : n1' = n1 := HasRank.one hP2 ⟨_, _, hz1'⟩ ⟨_, _, hSm.from' hsum⟩
    have hn2 : n2' = rb := by omega
    subst hn2
    have hsame : SameSp P c n2' (keptM c M' (keptL n' c q')) n2' B := HasRank.same_of_sub hP2 ⟨_, _, redB⟩ ⟨_, _, hz2'⟩ fun i hi => (hz3' i hi).2
    rw [hkl'] at hk'
    have := hk'.eq_of hP2 redB hsame
    rw [this, ← flB]

end Go.Proofs.Ytoodgbflaaabmaa
