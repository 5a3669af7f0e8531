/-
  MeetsFlag, on both sides.
-/
import Derived.Test.YtapmnfakjnhlbaaPos
import Derived.Test.YtapmnfakjnhlbaaBox
namespace Go.Proofs.Ytapmnfakjnhlbaa
set_option linter.all false
open Go.RowKit

/-- how many rows of the flag row i asks for -/
def mfJ (xs : List Int) (r c i : Nat) : Nat := c - r + i + 1 - (xs.getD i 0).toNat
/-- the first k rows of the shape are met -/
def MfUp (P : Int) (r c : Nat) (A B : Nat → Nat → Int) (xs : List Int) (k : Nat) : Prop := ∀ i, i < k → ∀ m, CmIs P c A r B (mfJ xs r c i) m → (i : Int) + 1 ≤ m
/-- what MeetsFlag returns -/
def MfIs (P R C : Int) (D : List Int) (P' R' C' : Int) (D' xs : List Int) (b : Bool) : Prop :=
  b = true ↔ SfIs P R C D P' R' C' D' ∧ bxOk xs R.toNat C.toNat = true ∧ MfUp P R.toNat C.toNat (mf C.toNat fun t => D.getD t 0) (mf C.toNat fun t => D'.getD t 0) xs R.toNat
theorem MfIs.one {P R C : Int} {D : List Int} {P' R' C' : Int} {D' xs : List Int} {b b' : Bool} (h : MfIs P R C D P' R' C' D' xs b) (h' : MfIs P R C D P' R' C' D' xs b') : b = b' := by
  unfold MfIs at h h'
  have e : b = true ↔ b' = true := h.trans h'.symm
  cases b <;> cases b' <;> simp_all
theorem MfIs.eps {P R C : Int} {D : List Int} {P' R' C' : Int} {D' xs : List Int} {b : Bool} (h : MfIs P R C D P' R' C' D' xs b) : b = Classical.epsilon (MfIs P R C D P' R' C' D' xs) := h.one (Classical.epsilon_spec ⟨b, h⟩)
/-- the rows of a shape in a box -/
theorem bx_facts {xs : List Int} {r c : Nat} (h : bxOk xs r c = true) (hrc : r ≤ c) : ∀ i, i < r → 0 ≤ xs.getD i 0 ∧ xs.getD i 0 ≤ (c : Int) - (r : Int) := by
  unfold bxOk at h
  simp only [Bool.and_eq_true, decide_eq_true_eq] at h
  obtain ⟨⟨h1, h2⟩, h3⟩ := h
  obtain ⟨hl, hs⟩ := shOk_facts h1
  have hmon : ∀ i, i < xs.length → xs.getD i 0 ≤ xs.getD 0 0 := by
    intro i
    induction i with
    | zero => exact fun _ => Int.le_refl _
    | succ i ih =>
      intro hi
      have a := ih (by omega)
      have b := (hs (i + 1) hi).2.2 (by omega)
      rw [Nat.add_sub_cancel] at b
      omega
  intro i hi
  by_cases e : i < xs.length
  · have a := hmon i e
    have b := (hs i e).1
    omega
  · have : xs.getD i 0 = 0 := by simp [List.getD_eq_getElem?_getD, Nat.le_of_not_lt e]
    rw [this]
    omega
theorem mf_out {P : Int} {r c i : Nat} {A B : Nat → Nat → Int} {xs : List Int} {m : Int} (hP : 2 ≤ P) (hi : i < r) (h : CmIs P c A r B (mfJ xs r c i) m) (hm : m < (i : Int) + 1) : ¬ MfUp P r c A B xs r := fun hu => by
  have := hu i hi m h
  omega
theorem MfUp.snoc {P : Int} {r c k : Nat} {A B : Nat → Nat → Int} {xs : List Int} {m : Int} (hP : 2 ≤ P) (hu : MfUp P r c A B xs k) (h : CmIs P c A r B (mfJ xs r c k) m) (hm : ¬ m < (k : Int) + 1) : MfUp P r c A B xs (k + 1) := fun i hi m' hm' => by
  by_cases e : i = k
  · subst e
    rw [hm'.one hP h]
    omega
  · exact hu i (by omega) m' hm'

theorem l4At_s (v : Value) (xs : List Int) (i : Nat) (s : Int) (hs : s = xs.getD i 0) (hi : i ≤ 1000000) (w : World) (h : Ints w v xs) :
    Calls Try.prog 42 #[v, .int .i64 (i : Int)] w fun e w' => e = .returned (.int .i64 s) ∧ Below w.heap.size w w' := by
  rw [hs]
  exact (l4At_any v xs i w h hi).mono fun e w' ⟨r1, r2⟩ => ⟨r1, r2.below _⟩
theorem rowOf_s (v : Value) (xs : List Int) (i : Nat) (s : Int) (hs : s = xs.getD i 0) (hi : i ≤ 1000000) (w : World) (h : Ints w v xs) :
    Calls Try.prog 45 #[v, .int .i64 (i : Int)] w fun e w' => e = .returned (.int .i64 s) ∧ Below w.heap.size w w' := by
  rw [hs]
  exact (rowOf_any v xs i w h hi).mono fun e w' ⟨r1, r2⟩ => ⟨r1, r2.below _⟩

set_option maxRecDepth 100000 in
set_option maxHeartbeats 4000000 in
theorem specMf_no1 (AP AR AC BP BR BC : Int) (dA dB dS : Value) (DA DB DS : List Int) (w : World) (hdA : Ints w dA DA) (hdB : Ints w dB DB) (hdS : Ints w dS DS) (ha : ¬ IsSp AP AR AC DA) :
    Calls Try.prog 21 #[.agg #[.int .i64 AP, .int .i64 AR, .int .i64 AC, dA], .agg #[.int .i64 BP, .int .i64 BR, .int .i64 BC, dB], dS] w fun e w' => ∃ b, e = .returned (.bool b) ∧ b = false ∧ Below w.heap.size w w' := by
  have Hka := Lib.hid ha
  clear ha
  have HdA := Lib.hid hdA
  obtain ⟨pA, kA, rfl, ⟨_, mA⟩, _⟩ := hdA
  unfold maxLen at mA
  have HdB := Lib.hid hdB
  obtain ⟨pB, kB, rfl, ⟨_, mB⟩, _⟩ := hdB
  unfold maxLen at mB
  have HdS := Lib.hid hdS
  obtain ⟨pS, kS, rfl, ⟨_, mS⟩, _⟩ := hdS
  unfold maxLen at mS
  obtain ⟨z0, z1⟩ := boxes_ab w (.cells #[.int .i64 AP, .int .i64 AR, .int .i64 AC, .slice pA DA.length kA] 26) (.cells #[.int .i64 BP, .int .i64 BR, .int .i64 BC, .slice pB DB.length kB] 26)
  have ZA1 := Lib.hid z0
  have ZB1 := Lib.hid z1
  clear z0 z1
  have HB1 := Lib.hid (below_alloc2 w (.cells #[.int .i64 AP, .int .i64 AR, .int .i64 AC, .slice pA DA.length kA] 26) (.cells #[.int .i64 BP, .int .i64 BR, .int .i64 BC, .slice pB DB.length kB] 26))
  go_enter Try.func21, Try.ntmps21
  go_wp2_with fail
  have hs1 : ((w.alloc (.cells #[.int .i64 AP, .int .i64 AR, .int .i64 AC, .slice pA DA.length kA] 26)).alloc (.cells #[.int .i64 BP, .int .i64 BR, .int .i64 BC, .slice pB DB.length kB] 26)).heap.size = w.heap.size + 1 + 1 := by simp
  generalize (w.alloc (.cells #[.int .i64 AP, .int .i64 AR, .int .i64 AC, .slice pA DA.length kA] 26)).alloc (.cells #[.int .i64 BP, .int .i64 BR, .int .i64 BC, .slice pB DB.length kB] 26) = w1 at *
  obtain ⟨cA0, cA1, cA2, cA3, cAf, cAz⟩ := blk4 ZA1.out
  go_wp2_with fail
  refine (specIsSpace_no _ _ _ _ _ Hka.out _ (HdA.out.below HB1.out)).mono ?_
  rintro e w2 ⟨rfl, hb⟩
  have hs2 := hb.size
  have HB2 := Lib.hid (HB1.out.trans (hb.mono HB1.out.size))
  have ZA2 := Lib.hid (blk_later ZA1.out hb)
  have ZB2 := Lib.hid (blk_later ZB1.out hb)
  clear hb ZA1 ZB1
  clear cA0 cA1 cA2 cA3 cAf cAz
  go_wp2_with fail
  go_ret
  exact ⟨_, rfl, rfl, HB2.out⟩

set_option maxRecDepth 100000 in
set_option maxHeartbeats 4000000 in
theorem specMf_no2 (AP AR AC BP BR BC : Int) (dA dB dS : Value) (DA DB DS : List Int) (w : World) (hdA : Ints w dA DA) (hdB : Ints w dB DB) (hdS : Ints w dS DS) (ha : IsSp AP AR AC DA) (hb : ¬ IsFl BP BR BC DB) :
    Calls Try.prog 21 #[.agg #[.int .i64 AP, .int .i64 AR, .int .i64 AC, dA], .agg #[.int .i64 BP, .int .i64 BR, .int .i64 BC, dB], dS] w fun e w' => ∃ b, e = .returned (.bool b) ∧ b = false ∧ Below w.heap.size w w' := by
  have Hka := Lib.hid ha
  have Hkb := Lib.hid hb
  clear ha hb
  have HdA := Lib.hid hdA
  obtain ⟨pA, kA, rfl, ⟨_, mA⟩, _⟩ := hdA
  unfold maxLen at mA
  have HdB := Lib.hid hdB
  obtain ⟨pB, kB, rfl, ⟨_, mB⟩, _⟩ := hdB
  unfold maxLen at mB
  have HdS := Lib.hid hdS
  obtain ⟨pS, kS, rfl, ⟨_, mS⟩, _⟩ := hdS
  unfold maxLen at mS
  obtain ⟨z0, z1⟩ := boxes_ab w (.cells #[.int .i64 AP, .int .i64 AR, .int .i64 AC, .slice pA DA.length kA] 26) (.cells #[.int .i64 BP, .int .i64 BR, .int .i64 BC, .slice pB DB.length kB] 26)
  have ZA1 := Lib.hid z0
  have ZB1 := Lib.hid z1
  clear z0 z1
  have HB1 := Lib.hid (below_alloc2 w (.cells #[.int .i64 AP, .int .i64 AR, .int .i64 AC, .slice pA DA.length kA] 26) (.cells #[.int .i64 BP, .int .i64 BR, .int .i64 BC, .slice pB DB.length kB] 26))
  go_enter Try.func21, Try.ntmps21
  go_wp2_with fail
  have hs1 : ((w.alloc (.cells #[.int .i64 AP, .int .i64 AR, .int .i64 AC, .slice pA DA.length kA] 26)).alloc (.cells #[.int .i64 BP, .int .i64 BR, .int .i64 BC, .slice pB DB.length kB] 26)).heap.size = w.heap.size + 1 + 1 := by simp
  generalize (w.alloc (.cells #[.int .i64 AP, .int .i64 AR, .int .i64 AC, .slice pA DA.length kA] 26)).alloc (.cells #[.int .i64 BP, .int .i64 BR, .int .i64 BC, .slice pB DB.length kB] 26) = w1 at *
  obtain ⟨cA0, cA1, cA2, cA3, cAf, cAz⟩ := blk4 ZA1.out
  go_wp2_with fail
  refine (specIsSpace_yes _ _ _ _ _ Hka.out _ (HdA.out.below HB1.out)).mono ?_
  rintro e w2 ⟨rfl, hb⟩
  have hs2 := hb.size
  have HB2 := Lib.hid (HB1.out.trans (hb.mono HB1.out.size))
  have ZA2 := Lib.hid (blk_later ZA1.out hb)
  have ZB2 := Lib.hid (blk_later ZB1.out hb)
  clear hb ZA1 ZB1
  clear cA0 cA1 cA2 cA3 cAf cAz
  obtain ⟨cB0, cB1, cB2, cB3, cBf, cBz⟩ := blk4 ZB2.out
  go_wp2_with fail
  refine (specFlag_no _ _ _ _ _ Hkb.out _ (HdB.out.below HB2.out)).mono ?_
  rintro e w3 ⟨rfl, hb⟩
  have hs3 := hb.size
  have HB3 := Lib.hid (HB2.out.trans (hb.mono HB2.out.size))
  have ZA3 := Lib.hid (blk_later ZA2.out hb)
  have ZB3 := Lib.hid (blk_later ZB2.out hb)
  clear hb ZA2 ZB2
  clear cB0 cB1 cB2 cB3 cBf cBz
  go_wp2_with fail
  go_ret
  exact ⟨_, rfl, rfl, HB3.out⟩

set_option maxRecDepth 100000 in
set_option maxHeartbeats 4000000 in
theorem specMf_no3 (AP AR AC BP BR BC : Int) (dA dB dS : Value) (DA DB DS : List Int) (w : World) (hdA : Ints w dA DA) (hdB : Ints w dB DB) (hdS : Ints w dS DS) (ha : IsSp AP AR AC DA) (hb : IsFl BP BR BC DB) (h1 : AP ≠ BP) :
    Calls Try.prog 21 #[.agg #[.int .i64 AP, .int .i64 AR, .int .i64 AC, dA], .agg #[.int .i64 BP, .int .i64 BR, .int .i64 BC, dB], dS] w fun e w' => ∃ b, e = .returned (.bool b) ∧ b = false ∧ Below w.heap.size w w' := by
  have Hka := Lib.hid ha
  have Hkb := Lib.hid hb
  clear ha hb
  have e1 : (AP != BP) = true := by simpa using h1
  clear h1
  have HdA := Lib.hid hdA
  obtain ⟨pA, kA, rfl, ⟨_, mA⟩, _⟩ := hdA
  unfold maxLen at mA
  have HdB := Lib.hid hdB
  obtain ⟨pB, kB, rfl, ⟨_, mB⟩, _⟩ := hdB
  unfold maxLen at mB
  have HdS := Lib.hid hdS
  obtain ⟨pS, kS, rfl, ⟨_, mS⟩, _⟩ := hdS
  unfold maxLen at mS
  obtain ⟨z0, z1⟩ := boxes_ab w (.cells #[.int .i64 AP, .int .i64 AR, .int .i64 AC, .slice pA DA.length kA] 26) (.cells #[.int .i64 BP, .int .i64 BR, .int .i64 BC, .slice pB DB.length kB] 26)
  have ZA1 := Lib.hid z0
  have ZB1 := Lib.hid z1
  clear z0 z1
  have HB1 := Lib.hid (below_alloc2 w (.cells #[.int .i64 AP, .int .i64 AR, .int .i64 AC, .slice pA DA.length kA] 26) (.cells #[.int .i64 BP, .int .i64 BR, .int .i64 BC, .slice pB DB.length kB] 26))
  go_enter Try.func21, Try.ntmps21
  go_wp2_with fail
  have hs1 : ((w.alloc (.cells #[.int .i64 AP, .int .i64 AR, .int .i64 AC, .slice pA DA.length kA] 26)).alloc (.cells #[.int .i64 BP, .int .i64 BR, .int .i64 BC, .slice pB DB.length kB] 26)).heap.size = w.heap.size + 1 + 1 := by simp
  generalize (w.alloc (.cells #[.int .i64 AP, .int .i64 AR, .int .i64 AC, .slice pA DA.length kA] 26)).alloc (.cells #[.int .i64 BP, .int .i64 BR, .int .i64 BC, .slice pB DB.length kB] 26) = w1 at *
  obtain ⟨cA0, cA1, cA2, cA3, cAf, cAz⟩ := blk4 ZA1.out
  go_wp2_with fail
  refine (specIsSpace_yes _ _ _ _ _ Hka.out _ (HdA.out.below HB1.out)).mono ?_
  rintro e w2 ⟨rfl, hb⟩
  have hs2 := hb.size
  have HB2 := Lib.hid (HB1.out.trans (hb.mono HB1.out.size))
  have ZA2 := Lib.hid (blk_later ZA1.out hb)
  have ZB2 := Lib.hid (blk_later ZB1.out hb)
  clear hb ZA1 ZB1
  clear cA0 cA1 cA2 cA3 cAf cAz
  obtain ⟨cB0, cB1, cB2, cB3, cBf, cBz⟩ := blk4 ZB2.out
  go_wp2_with fail
  refine (specFlag_yes _ _ _ _ _ Hkb.out _ (HdB.out.below HB2.out)).mono ?_
  rintro e w3 ⟨rfl, hb⟩
  have hs3 := hb.size
  have HB3 := Lib.hid (HB2.out.trans (hb.mono HB2.out.size))
  have ZA3 := Lib.hid (blk_later ZA2.out hb)
  have ZB3 := Lib.hid (blk_later ZB2.out hb)
  clear hb ZA2 ZB2
  clear cB0 cB1 cB2 cB3 cBf cBz
  obtain ⟨cA0, cA1, cA2, cA3, cAf, cAz⟩ := blk4 ZA3.out
  obtain ⟨cB0, cB1, cB2, cB3, cBf, cBz⟩ := blk4 ZB3.out
  go_wp2_with fail
  go_ret
  exact ⟨_, rfl, rfl, HB3.out⟩

set_option maxRecDepth 100000 in
set_option maxHeartbeats 4000000 in
theorem specMf_no4 (AP AR AC BP BR BC : Int) (dA dB dS : Value) (DA DB DS : List Int) (w : World) (hdA : Ints w dA DA) (hdB : Ints w dB DB) (hdS : Ints w dS DS) (ha : IsSp AP AR AC DA) (hb : IsFl BP BR BC DB) (h1 : AP = BP) (h2 : AC ≠ BC) :
    Calls Try.prog 21 #[.agg #[.int .i64 AP, .int .i64 AR, .int .i64 AC, dA], .agg #[.int .i64 BP, .int .i64 BR, .int .i64 BC, dB], dS] w fun e w' => ∃ b, e = .returned (.bool b) ∧ b = false ∧ Below w.heap.size w w' := by
  have Hka := Lib.hid ha
  have Hkb := Lib.hid hb
  clear ha hb
  have e1 : (AP != BP) = false := by simpa using h1
  have e2 : (AC != BC) = true := by simpa using h2
  clear h1 h2
  have HdA := Lib.hid hdA
  obtain ⟨pA, kA, rfl, ⟨_, mA⟩, _⟩ := hdA
  unfold maxLen at mA
  have HdB := Lib.hid hdB
  obtain ⟨pB, kB, rfl, ⟨_, mB⟩, _⟩ := hdB
  unfold maxLen at mB
  have HdS := Lib.hid hdS
  obtain ⟨pS, kS, rfl, ⟨_, mS⟩, _⟩ := hdS
  unfold maxLen at mS
  obtain ⟨z0, z1⟩ := boxes_ab w (.cells #[.int .i64 AP, .int .i64 AR, .int .i64 AC, .slice pA DA.length kA] 26) (.cells #[.int .i64 BP, .int .i64 BR, .int .i64 BC, .slice pB DB.length kB] 26)
  have ZA1 := Lib.hid z0
  have ZB1 := Lib.hid z1
  clear z0 z1
  have HB1 := Lib.hid (below_alloc2 w (.cells #[.int .i64 AP, .int .i64 AR, .int .i64 AC, .slice pA DA.length kA] 26) (.cells #[.int .i64 BP, .int .i64 BR, .int .i64 BC, .slice pB DB.length kB] 26))
  go_enter Try.func21, Try.ntmps21
  go_wp2_with fail
  have hs1 : ((w.alloc (.cells #[.int .i64 AP, .int .i64 AR, .int .i64 AC, .slice pA DA.length kA] 26)).alloc (.cells #[.int .i64 BP, .int .i64 BR, .int .i64 BC, .slice pB DB.length kB] 26)).heap.size = w.heap.size + 1 + 1 := by simp
  generalize (w.alloc (.cells #[.int .i64 AP, .int .i64 AR, .int .i64 AC, .slice pA DA.length kA] 26)).alloc (.cells #[.int .i64 BP, .int .i64 BR, .int .i64 BC, .slice pB DB.length kB] 26) = w1 at *
  obtain ⟨cA0, cA1, cA2, cA3, cAf, cAz⟩ := blk4 ZA1.out
  go_wp2_with fail
  refine (specIsSpace_yes _ _ _ _ _ Hka.out _ (HdA.out.below HB1.out)).mono ?_
  rintro e w2 ⟨rfl, hb⟩
  have hs2 := hb.size
  have HB2 := Lib.hid (HB1.out.trans (hb.mono HB1.out.size))
  have ZA2 := Lib.hid (blk_later ZA1.out hb)
  have ZB2 := Lib.hid (blk_later ZB1.out hb)
  clear hb ZA1 ZB1
  clear cA0 cA1 cA2 cA3 cAf cAz
  obtain ⟨cB0, cB1, cB2, cB3, cBf, cBz⟩ := blk4 ZB2.out
  go_wp2_with fail
  refine (specFlag_yes _ _ _ _ _ Hkb.out _ (HdB.out.below HB2.out)).mono ?_
  rintro e w3 ⟨rfl, hb⟩
  have hs3 := hb.size
  have HB3 := Lib.hid (HB2.out.trans (hb.mono HB2.out.size))
  have ZA3 := Lib.hid (blk_later ZA2.out hb)
  have ZB3 := Lib.hid (blk_later ZB2.out hb)
  clear hb ZA2 ZB2
  clear cB0 cB1 cB2 cB3 cBf cBz
  obtain ⟨cA0, cA1, cA2, cA3, cAf, cAz⟩ := blk4 ZA3.out
  obtain ⟨cB0, cB1, cB2, cB3, cBf, cBz⟩ := blk4 ZB3.out
  go_wp2_with fail
  go_ret
  exact ⟨_, rfl, rfl, HB3.out⟩

set_option maxRecDepth 100000 in
set_option maxHeartbeats 4000000 in
theorem specMf_no5 (AP AR AC BP BR BC : Int) (dA dB dS : Value) (DA DB DS : List Int) (w : World) (hdA : Ints w dA DA) (hdB : Ints w dB DB) (hdS : Ints w dS DS) (h : SfIs AP AR AC DA BP BR BC DB) (hx : bxOk DS AR.toNat AC.toNat = false) :
    Calls Try.prog 21 #[.agg #[.int .i64 AP, .int .i64 AR, .int .i64 AC, dA], .agg #[.int .i64 BP, .int .i64 BR, .int .i64 BC, dB], dS] w fun e w' => ∃ b, e = .returned (.bool b) ∧ b = false ∧ Below w.heap.size w w' := by
  obtain ⟨hs, hf, hPe, hCe⟩ := h
  subst hPe hCe
  obtain ⟨r, c, rfl, rfl, hr, hc0, hc, hlA, hDA, hP2, hP7, hpr, hkA⟩ := hs.facts
  obtain ⟨n, rfl, e2, _, _, hlB, hDB, _, _, _, hkB⟩ := hf.facts
  obtain rfl := Int.ofNat.inj e2
  clear e2
  have hrc : r ≤ c := hkA.leC
  have Hka := Lib.hid hs
  have Hkb := Lib.hid hf
  have HgA := Lib.hid (fun t => getD_range hDA (by omega) t)
  have HgB := Lib.hid (fun t => getD_range hDB (by omega) t)
  have HlA := Lib.hid hlA
  have HlB := Lib.hid hlB
  have Hpr := Lib.hid hpr
  have HkA := Lib.hid hkA
  have HkB := Lib.hid hkB
  clear hs hf hlA hlB hDA hDB hpr hkA hkB
  simp only [Int.toNat_natCast] at hx
  have Hbx := Lib.hid hx
  clear hx
  have HdA := Lib.hid hdA
  obtain ⟨pA, kA, rfl, ⟨_, mA⟩, _⟩ := hdA
  unfold maxLen at mA
  have HdB := Lib.hid hdB
  obtain ⟨pB, kB, rfl, ⟨_, mB⟩, _⟩ := hdB
  unfold maxLen at mB
  have HdS := Lib.hid hdS
  obtain ⟨pS, kS, rfl, ⟨_, mS⟩, _⟩ := hdS
  unfold maxLen at mS
  obtain ⟨z0, z1⟩ := boxes_ab w (.cells #[.int .i64 AP, .int .i64 (r : Int), .int .i64 (c : Int), .slice pA DA.length kA] 26) (.cells #[.int .i64 AP, .int .i64 (c : Int), .int .i64 (c : Int), .slice pB DB.length kB] 26)
  have ZA1 := Lib.hid z0
  have ZB1 := Lib.hid z1
  clear z0 z1
  have HB1 := Lib.hid (below_alloc2 w (.cells #[.int .i64 AP, .int .i64 (r : Int), .int .i64 (c : Int), .slice pA DA.length kA] 26) (.cells #[.int .i64 AP, .int .i64 (c : Int), .int .i64 (c : Int), .slice pB DB.length kB] 26))
  go_enter Try.func21, Try.ntmps21
  go_wp2_with fail
  have hs1 : ((w.alloc (.cells #[.int .i64 AP, .int .i64 (r : Int), .int .i64 (c : Int), .slice pA DA.length kA] 26)).alloc (.cells #[.int .i64 AP, .int .i64 (c : Int), .int .i64 (c : Int), .slice pB DB.length kB] 26)).heap.size = w.heap.size + 1 + 1 := by simp
  generalize (w.alloc (.cells #[.int .i64 AP, .int .i64 (r : Int), .int .i64 (c : Int), .slice pA DA.length kA] 26)).alloc (.cells #[.int .i64 AP, .int .i64 (c : Int), .int .i64 (c : Int), .slice pB DB.length kB] 26) = w1 at *
  obtain ⟨cA0, cA1, cA2, cA3, cAf, cAz⟩ := blk4 ZA1.out
  go_wp2_with fail
  refine (specIsSpace_yes _ _ _ _ _ Hka.out _ (HdA.out.below HB1.out)).mono ?_
  rintro e w2 ⟨rfl, hb⟩
  have hs2 := hb.size
  have HB2 := Lib.hid (HB1.out.trans (hb.mono HB1.out.size))
  have ZA2 := Lib.hid (blk_later ZA1.out hb)
  have ZB2 := Lib.hid (blk_later ZB1.out hb)
  clear hb ZA1 ZB1
  clear cA0 cA1 cA2 cA3 cAf cAz
  obtain ⟨cB0, cB1, cB2, cB3, cBf, cBz⟩ := blk4 ZB2.out
  go_wp2_with fail
  refine (specFlag_yes _ _ _ _ _ Hkb.out _ (HdB.out.below HB2.out)).mono ?_
  rintro e w3 ⟨rfl, hb⟩
  have hs3 := hb.size
  have HB3 := Lib.hid (HB2.out.trans (hb.mono HB2.out.size))
  have ZA3 := Lib.hid (blk_later ZA2.out hb)
  have ZB3 := Lib.hid (blk_later ZB2.out hb)
  clear hb ZA2 ZB2
  clear cB0 cB1 cB2 cB3 cBf cBz
  obtain ⟨cA0, cA1, cA2, cA3, cAf, cAz⟩ := blk4 ZA3.out
  obtain ⟨cB0, cB1, cB2, cB3, cBf, cBz⟩ := blk4 ZB3.out
  go_wp2_with fail
  refine (l4Box_any _ DS r c _ (HdS.out.below HB3.out) hrc hc0 hc).mono ?_
  rintro e w4 ⟨rfl, hq⟩
  have hb := hq.below w3.heap.size
  clear hq
  have hs4 := hb.size
  have HB4 := Lib.hid (HB3.out.trans (hb.mono HB3.out.size))
  have ZA4 := Lib.hid (blk_later ZA3.out hb)
  have ZB4 := Lib.hid (blk_later ZB3.out hb)
  clear hb ZA3 ZB3
  clear cA0 cA1 cA2 cA3 cAf cAz cB0 cB1 cB2 cB3 cBf cBz
  rw [Hbx.out]
  go_wp2_with fail
  go_ret
  exact ⟨_, rfl, rfl, HB4.out⟩

set_option maxRecDepth 100000 in
set_option maxHeartbeats 16000000 in
theorem specMf_yes (AP AR AC BP BR BC : Int) (dA dB dS : Value) (DA DB DS : List Int) (w : World) (hdA : Ints w dA DA) (hdB : Ints w dB DB) (hdS : Ints w dS DS) (h : SfIs AP AR AC DA BP BR BC DB) (hx : bxOk DS AR.toNat AC.toNat = true) :
    Calls Try.prog 21 #[.agg #[.int .i64 AP, .int .i64 AR, .int .i64 AC, dA], .agg #[.int .i64 BP, .int .i64 BR, .int .i64 BC, dB], dS] w fun e w' => ∃ b, e = .returned (.bool b) ∧ (b = true ↔ MfUp AP AR.toNat AC.toNat (mf AC.toNat fun t => DA.getD t 0) (mf AC.toNat fun t => DB.getD t 0) DS AR.toNat) ∧ Below w.heap.size w w' := by
  obtain ⟨hs, hf, hPe, hCe⟩ := h
  subst hPe hCe
  obtain ⟨r, c, rfl, rfl, hr, hc0, hc, hlA, hDA, hP2, hP7, hpr, hkA⟩ := hs.facts
  obtain ⟨n, rfl, e2, _, _, hlB, hDB, _, _, _, hkB⟩ := hf.facts
  obtain rfl := Int.ofNat.inj e2
  clear e2
  have hrc : r ≤ c := hkA.leC
  have Hka := Lib.hid hs
  have Hkb := Lib.hid hf
  have HgA := Lib.hid (fun t => getD_range hDA (by omega) t)
  have HgB := Lib.hid (fun t => getD_range hDB (by omega) t)
  have HlA := Lib.hid hlA
  have HlB := Lib.hid hlB
  have Hpr := Lib.hid hpr
  have HkA := Lib.hid hkA
  have HkB := Lib.hid hkB
  clear hs hf hlA hlB hDA hDB hpr hkA hkB
  simp only [Int.toNat_natCast] at hx ⊢
  have Hbx := Lib.hid hx
  have Hbf := Lib.hid (bx_facts hx hrc)
  clear hx
  have HdA := Lib.hid hdA
  obtain ⟨pA, kA, rfl, ⟨_, mA⟩, _⟩ := hdA
  unfold maxLen at mA
  have HdB := Lib.hid hdB
  obtain ⟨pB, kB, rfl, ⟨_, mB⟩, _⟩ := hdB
  unfold maxLen at mB
  have HdS := Lib.hid hdS
  obtain ⟨pS, kS, rfl, ⟨_, mS⟩, _⟩ := hdS
  unfold maxLen at mS
  obtain ⟨z0, z1⟩ := boxes_ab w (.cells #[.int .i64 AP, .int .i64 (r : Int), .int .i64 (c : Int), .slice pA DA.length kA] 26) (.cells #[.int .i64 AP, .int .i64 (c : Int), .int .i64 (c : Int), .slice pB DB.length kB] 26)
  have ZA1 := Lib.hid z0
  have ZB1 := Lib.hid z1
  clear z0 z1
  have HB1 := Lib.hid (below_alloc2 w (.cells #[.int .i64 AP, .int .i64 (r : Int), .int .i64 (c : Int), .slice pA DA.length kA] 26) (.cells #[.int .i64 AP, .int .i64 (c : Int), .int .i64 (c : Int), .slice pB DB.length kB] 26))
  go_enter Try.func21, Try.ntmps21
  go_wp2_with fail
  have hs1 : ((w.alloc (.cells #[.int .i64 AP, .int .i64 (r : Int), .int .i64 (c : Int), .slice pA DA.length kA] 26)).alloc (.cells #[.int .i64 AP, .int .i64 (c : Int), .int .i64 (c : Int), .slice pB DB.length kB] 26)).heap.size = w.heap.size + 1 + 1 := by simp
  generalize (w.alloc (.cells #[.int .i64 AP, .int .i64 (r : Int), .int .i64 (c : Int), .slice pA DA.length kA] 26)).alloc (.cells #[.int .i64 AP, .int .i64 (c : Int), .int .i64 (c : Int), .slice pB DB.length kB] 26) = w1 at *
  obtain ⟨cA0, cA1, cA2, cA3, cAf, cAz⟩ := blk4 ZA1.out
  go_wp2_with fail
  refine (specIsSpace_yes _ _ _ _ _ Hka.out _ (HdA.out.below HB1.out)).mono ?_
  rintro e w2 ⟨rfl, hb⟩
  have hs2 := hb.size
  have HB2 := Lib.hid (HB1.out.trans (hb.mono HB1.out.size))
  have ZA2 := Lib.hid (blk_later ZA1.out hb)
  have ZB2 := Lib.hid (blk_later ZB1.out hb)
  clear hb ZA1 ZB1
  clear cA0 cA1 cA2 cA3 cAf cAz
  obtain ⟨cB0, cB1, cB2, cB3, cBf, cBz⟩ := blk4 ZB2.out
  go_wp2_with fail
  refine (specFlag_yes _ _ _ _ _ Hkb.out _ (HdB.out.below HB2.out)).mono ?_
  rintro e w3 ⟨rfl, hb⟩
  have hs3 := hb.size
  have HB3 := Lib.hid (HB2.out.trans (hb.mono HB2.out.size))
  have ZA3 := Lib.hid (blk_later ZA2.out hb)
  have ZB3 := Lib.hid (blk_later ZB2.out hb)
  clear hb ZA2 ZB2
  clear cB0 cB1 cB2 cB3 cBf cBz
  obtain ⟨cA0, cA1, cA2, cA3, cAf, cAz⟩ := blk4 ZA3.out
  obtain ⟨cB0, cB1, cB2, cB3, cBf, cBz⟩ := blk4 ZB3.out
  go_wp2_with fail
  refine (l4Box_any _ DS r c _ (HdS.out.below HB3.out) hrc hc0 hc).mono ?_
  rintro e w4 ⟨rfl, hq⟩
  have hb := hq.below w3.heap.size
  clear hq
  have hs4 := hb.size
  have HB4 := Lib.hid (HB3.out.trans (hb.mono HB3.out.size))
  have ZA4 := Lib.hid (blk_later ZA3.out hb)
  have ZB4 := Lib.hid (blk_later ZB3.out hb)
  clear hb ZA3 ZB3
  clear cA0 cA1 cA2 cA3 cAf cAz cB0 cB1 cB2 cB3 cBf cBz
  rw [Hbx.out]
  have HS0 : Hid (S2 w AP (r : Int) (c : Int) (.slice pA DA.length kA) AP (c : Int) (c : Int) (.slice pB DB.length kB) w4) := Lib.hid (S2.of_blk ZA4.out ZB4.out HB4.out)
  clear ZA4 ZB4
  obtain ⟨⟨cA0, cA1, cA2, cA3, cB0, cB1, cB2, cB3⟩, hBw⟩ := HS0.out
  go_wp2_with fail
  clear cA0 cA1 cA2 cA3 cB0 cB1 cB2 cB3 hBw
  go_loopg [7] r (fun g s7 wr => ∃ i : Nat, i ≤ r ∧ g = r - i ∧ s7 = .int .i64 i ∧ Hid (S2 w AP (r : Int) (c : Int) (.slice pA DA.length kA) AP (c : Int) (c : Int) (.slice pB DB.length kB) wr) ∧ Hid (MfUp AP r c (mf c fun t => DA.getD t 0) (mf c fun t => DB.getD t 0) DS i) ∧ Hid (Below w4.heap.size w4 wr))
  case atStart => exact ⟨0, Nat.zero_le _, rfl, rfl, HS0.out, fun i hi => absurd hi (Nat.not_lt_zero _), Below.refl _ _⟩
  case round =>
    obtain ⟨i, hi, rfl, rfl, hS, hup, hbk⟩ := hrel
    obtain ⟨wj, rfl⟩ : ∃ x : World, x = wr := ⟨_, rfl⟩
    obtain ⟨⟨cA0, cA1, cA2, cA3, cB0, cB1, cB2, cB3⟩, hBw⟩ := hS.out
    by_cases hir : i < r
    · have hir2 : (i : Int) < (r : Int) := by omega
      obtain ⟨s, hs0⟩ : ∃ s, s = DS.getD i 0 := ⟨_, rfl⟩
      have hsb := Hbf.out i hir
      rw [← hs0] at hsb
      obtain ⟨hsb0, hsb1⟩ := hsb
      obtain ⟨jj, hjj⟩ : ∃ jj, jj = mfJ DS r c i := ⟨_, rfl⟩
      have hjv : (jj : Int) = (c : Int) - (r : Int) + (i : Int) + 1 - s := by rw [hjj]; unfold mfJ; rw [← hs0]; omega
      have hjc : jj ≤ c := by omega
      have Hi6 := Lib.hid (show i ≤ 1000000 by omega)
      have Hjj := Lib.hid hjj
      have Hs0 := Lib.hid hs0
      have Hw1 := Lib.hid (show IntKind.i64.wrap ((c : Int) - (r : Int)) = (c : Int) - (r : Int) from k64 (by omega) (by omega))
      have Hw2 := Lib.hid (show IntKind.i64.wrap ((c : Int) - (r : Int) + (i : Int)) = (c : Int) - (r : Int) + (i : Int) from k64 (by omega) (by omega))
      have Hw3 := Lib.hid (show IntKind.i64.wrap ((c : Int) - (r : Int) + (i : Int) + 1) = (c : Int) - (r : Int) + (i : Int) + 1 from k64 (by omega) (by omega))
      have Hw4 := Lib.hid (show IntKind.i64.wrap ((c : Int) - (r : Int) + (i : Int) + 1 - s) = (jj : Int) by rw [hjv]; exact k64 (by omega) (by omega))
      have Hw5 := Lib.hid (show IntKind.i64.wrap ((i : Int) + 1) = (i : Int) + 1 from k64 (by omega) (by omega))
      clear hjj hs0 hjv
      go_wp2_with fail
      have hw1 := Hw1.out
      have hw2 := Hw2.out
      have hw3 := Hw3.out
      have hw4 := Hw4.out
      have hw5 := Hw5.out
      go_region_held3 (fun w' => (w'.cell? ⟨w.heap.size, 0, none⟩ = some (.int .i64 AP) ∧ w'.cell? ⟨w.heap.size, 1, none⟩ = some (.int .i64 (r : Int)) ∧ w'.cell? ⟨w.heap.size, 2, none⟩ = some (.int .i64 (c : Int)) ∧ w'.cell? ⟨w.heap.size, 3, none⟩ = some (.slice pA DA.length kA) ∧ w'.cell? ⟨w.heap.size + 1, 0, none⟩ = some (.int .i64 AP) ∧ w'.cell? ⟨w.heap.size + 1, 1, none⟩ = some (.int .i64 (c : Int)) ∧ w'.cell? ⟨w.heap.size + 1, 2, none⟩ = some (.int .i64 (c : Int)) ∧ w'.cell? ⟨w.heap.size + 1, 3, none⟩ = some (.slice pB DB.length kB)) ∧ Below w.heap.size w w')
        (first | exact ⟨⟨cA0, cA1, cA2, cA3, cB0, cB1, cB2, cB3⟩, hBw.drew⟩ | exact keep8 hb1 (by assumption))
        (first
          | (go_at_call 42; refine (l4At_s _ DS i s Hs0.out Hi6.out _ (held_ints HdS.out (by assumption))).mono ?_; rintro e w' ⟨rfl, hb1⟩; have hbz : Below wj.heap.size wj w' := (by first | exact below_trans hbz hb1 | exact below_trans hbz (below_of_drew hb1) | exact hb1 | exact below_of_drew hb1))
          | (go_at_call 41; refine (l7Common_b AP r c c r jj _ _ DA DB _ (held_ints HdA.out (by assumption)) (held_ints HdB.out (by assumption)) HlA.out HlB.out hr hc hc (Nat.le_refl _) hjc HgA.out HgB.out Hpr.out HkA.out HkB.out).mono ?_; rintro e w' ⟨ma, rfl, hma, hma1, hma2, hb1⟩; have hbz : Below wj.heap.size wj w' := (by first | exact below_trans hbz hb1 | exact below_trans hbz (below_of_drew hb1) | exact hb1 | exact below_of_drew hb1)))
      have hS2 : S2 w AP (r : Int) (c : Int) (.slice pA DA.length kA) AP (c : Int) (c : Int) (.slice pB DB.length kB) _ := (by assumption)
      obtain ⟨wn, rfl⟩ : ∃ x : World, x = w' := ⟨_, rfl⟩
      have HS2 := Lib.hid hS2
      have Hbz := Lib.hid hbz
      rw [Hjj.out] at hma
      have Hma := Lib.hid hma
      clear hS2 hbz hb1 hma hw1 hw2 hw3 hw4 hw5 cA0 cA1 cA2 cA3 cB0 cB1 cB2 cB3 hBw
      by_cases hlt : ma < (i : Int) + 1
      · go_wp2_with fail
        go_ret
        exact ⟨_, rfl, ⟨fun e => (by cases e), fun e => absurd e (mf_out hP2 hir Hma.out hlt)⟩, HS2.out.2⟩
      · go_wp2_with fail
        go_roundg (r - (i + 1))
        case measure => omega
        case rel => exact ⟨i + 1, hir, rfl, by go_num, HS2.out, hup.out.snoc hP2 Hma.out (by omega), hbk.out.trans (Hbz.out.mono hbk.out.size)⟩
    · obtain rfl : i = r := by omega
      go_wp2_with fail
      go_ret
      exact ⟨_, rfl, ⟨fun _ => hup.out, fun _ => rfl⟩, hBw⟩

theorem specMf_ex (AP AR AC BP BR BC : Int) (dA dB dS : Value) (DA DB DS : List Int) (w : World) (hdA : Ints w dA DA) (hdB : Ints w dB DB) (hdS : Ints w dS DS) :
    Calls Try.prog 21 #[.agg #[.int .i64 AP, .int .i64 AR, .int .i64 AC, dA], .agg #[.int .i64 BP, .int .i64 BR, .int .i64 BC, dB], dS] w fun e w' => ∃ b, e = .returned (.bool b) ∧ MfIs AP AR AC DA BP BR BC DB DS b ∧ Below w.heap.size w w' := by
  by_cases h : SfIs AP AR AC DA BP BR BC DB
  · cases hx : bxOk DS AR.toNat AC.toNat with
    | false => exact (specMf_no5 AP AR AC BP BR BC dA dB dS DA DB DS w hdA hdB hdS h hx).mono fun e w' ⟨b, r1, r2, r3⟩ => ⟨b, r1, (by subst r2; exact ⟨fun e => (by cases e), fun e => (by rw [hx] at e; cases e.2.1)⟩), r3⟩
    | true => exact (specMf_yes AP AR AC BP BR BC dA dB dS DA DB DS w hdA hdB hdS h hx).mono fun e w' ⟨b, r1, r2, r3⟩ => ⟨b, r1, ⟨fun e => ⟨h, hx, r2.1 e⟩, fun e => r2.2 e.2.2⟩, r3⟩
  have no : ∀ b, b = false → MfIs AP AR AC DA BP BR BC DB DS b := fun b hb => by
    subst hb
    exact ⟨fun e => (by cases e), fun e => absurd e.1 h⟩
  rcases Classical.em (IsSp AP AR AC DA) with ha | ha
  · rcases Classical.em (IsFl BP BR BC DB) with hb | hb
    ·
      rcases Classical.em (AP = BP) with h1 | h1
      · exact (specMf_no4 AP AR AC BP BR BC dA dB dS DA DB DS w hdA hdB hdS ha hb h1 fun h2 => h ⟨ha, hb, h1, h2⟩).mono fun e w' ⟨b, r1, r2, r3⟩ => ⟨b, r1, no b r2, r3⟩
      · exact (specMf_no3 AP AR AC BP BR BC dA dB dS DA DB DS w hdA hdB hdS ha hb h1).mono fun e w' ⟨b, r1, r2, r3⟩ => ⟨b, r1, no b r2, r3⟩
    · exact (specMf_no2 AP AR AC BP BR BC dA dB dS DA DB DS w hdA hdB hdS ha hb).mono fun e w' ⟨b, r1, r2, r3⟩ => ⟨b, r1, no b r2, r3⟩
  · exact (specMf_no1 AP AR AC BP BR BC dA dB dS DA DB DS w hdA hdB hdS ha).mono fun e w' ⟨b, r1, r2, r3⟩ => ⟨b, r1, no b r2, r3⟩
theorem specMf_any (AP AR AC BP BR BC : Int) (dA dB dS : Value) (DA DB DS : List Int) (w : World) (hdA : Ints w dA DA) (hdB : Ints w dB DB) (hdS : Ints w dS DS) :
    Calls Try.prog 21 #[.agg #[.int .i64 AP, .int .i64 AR, .int .i64 AC, dA], .agg #[.int .i64 BP, .int .i64 BR, .int .i64 BC, dB], dS] w fun e w' => e = .returned (.bool (Classical.epsilon (MfIs AP AR AC DA BP BR BC DB DS))) ∧ Below w.heap.size w w' :=
  (specMf_ex AP AR AC BP BR BC dA dB dS DA DB DS w hdA hdB hdS).mono fun e w' ⟨b, h1, h2, h3⟩ => ⟨by rw [h1, h2.eps], h3⟩


set_option maxRecDepth 100000 in
set_option maxHeartbeats 4000000 in
theorem implMf_no1 (AP AR AC BP BR BC : Int) (dA dB dS : Value) (DA DB DS : List Int) (w : World) (hdA : Ints w dA DA) (hdB : Ints w dB DB) (hdS : Ints w dS DS) (ha : ¬ IsSp AP AR AC DA) :
    Calls Try.prog 23 #[.agg #[.int .i64 AP, .int .i64 AR, .int .i64 AC, dA], .agg #[.int .i64 BP, .int .i64 BR, .int .i64 BC, dB], dS] w fun e w' => ∃ b, e = .returned (.bool b) ∧ b = false ∧ Below w.heap.size w w' := by
  have Hka := Lib.hid ha
  clear ha
  have HdA := Lib.hid hdA
  obtain ⟨pA, kA, rfl, ⟨_, mA⟩, _⟩ := hdA
  unfold maxLen at mA
  have HdB := Lib.hid hdB
  obtain ⟨pB, kB, rfl, ⟨_, mB⟩, _⟩ := hdB
  unfold maxLen at mB
  have HdS := Lib.hid hdS
  obtain ⟨pS, kS, rfl, ⟨_, mS⟩, _⟩ := hdS
  unfold maxLen at mS
  obtain ⟨z0, z1⟩ := boxes_ab w (.cells #[.int .i64 AP, .int .i64 AR, .int .i64 AC, .slice pA DA.length kA] 26) (.cells #[.int .i64 BP, .int .i64 BR, .int .i64 BC, .slice pB DB.length kB] 26)
  have ZA1 := Lib.hid z0
  have ZB1 := Lib.hid z1
  clear z0 z1
  have HB1 := Lib.hid (below_alloc2 w (.cells #[.int .i64 AP, .int .i64 AR, .int .i64 AC, .slice pA DA.length kA] 26) (.cells #[.int .i64 BP, .int .i64 BR, .int .i64 BC, .slice pB DB.length kB] 26))
  go_enter Try.func23, Try.ntmps23
  go_wp2_with fail
  have hs1 : ((w.alloc (.cells #[.int .i64 AP, .int .i64 AR, .int .i64 AC, .slice pA DA.length kA] 26)).alloc (.cells #[.int .i64 BP, .int .i64 BR, .int .i64 BC, .slice pB DB.length kB] 26)).heap.size = w.heap.size + 1 + 1 := by simp
  generalize (w.alloc (.cells #[.int .i64 AP, .int .i64 AR, .int .i64 AC, .slice pA DA.length kA] 26)).alloc (.cells #[.int .i64 BP, .int .i64 BR, .int .i64 BC, .slice pB DB.length kB] 26) = w1 at *
  obtain ⟨cA0, cA1, cA2, cA3, cAf, cAz⟩ := blk4 ZA1.out
  go_wp2_with fail
  refine (implIsSpace_no _ _ _ _ _ Hka.out _ (HdA.out.below HB1.out)).mono ?_
  rintro e w2 ⟨rfl, hb⟩
  have hs2 := hb.size
  have HB2 := Lib.hid (HB1.out.trans (hb.mono HB1.out.size))
  have ZA2 := Lib.hid (blk_later ZA1.out hb)
  have ZB2 := Lib.hid (blk_later ZB1.out hb)
  clear hb ZA1 ZB1
  clear cA0 cA1 cA2 cA3 cAf cAz
  go_wp2_with fail
  go_ret
  exact ⟨_, rfl, rfl, HB2.out⟩

set_option maxRecDepth 100000 in
set_option maxHeartbeats 4000000 in
theorem implMf_no2 (AP AR AC BP BR BC : Int) (dA dB dS : Value) (DA DB DS : List Int) (w : World) (hdA : Ints w dA DA) (hdB : Ints w dB DB) (hdS : Ints w dS DS) (ha : IsSp AP AR AC DA) (hb : ¬ IsFl BP BR BC DB) :
    Calls Try.prog 23 #[.agg #[.int .i64 AP, .int .i64 AR, .int .i64 AC, dA], .agg #[.int .i64 BP, .int .i64 BR, .int .i64 BC, dB], dS] w fun e w' => ∃ b, e = .returned (.bool b) ∧ b = false ∧ Below w.heap.size w w' := by
  have Hka := Lib.hid ha
  have Hkb := Lib.hid hb
  clear ha hb
  have HdA := Lib.hid hdA
  obtain ⟨pA, kA, rfl, ⟨_, mA⟩, _⟩ := hdA
  unfold maxLen at mA
  have HdB := Lib.hid hdB
  obtain ⟨pB, kB, rfl, ⟨_, mB⟩, _⟩ := hdB
  unfold maxLen at mB
  have HdS := Lib.hid hdS
  obtain ⟨pS, kS, rfl, ⟨_, mS⟩, _⟩ := hdS
  unfold maxLen at mS
  obtain ⟨z0, z1⟩ := boxes_ab w (.cells #[.int .i64 AP, .int .i64 AR, .int .i64 AC, .slice pA DA.length kA] 26) (.cells #[.int .i64 BP, .int .i64 BR, .int .i64 BC, .slice pB DB.length kB] 26)
  have ZA1 := Lib.hid z0
  have ZB1 := Lib.hid z1
  clear z0 z1
  have HB1 := Lib.hid (below_alloc2 w (.cells #[.int .i64 AP, .int .i64 AR, .int .i64 AC, .slice pA DA.length kA] 26) (.cells #[.int .i64 BP, .int .i64 BR, .int .i64 BC, .slice pB DB.length kB] 26))
  go_enter Try.func23, Try.ntmps23
  go_wp2_with fail
  have hs1 : ((w.alloc (.cells #[.int .i64 AP, .int .i64 AR, .int .i64 AC, .slice pA DA.length kA] 26)).alloc (.cells #[.int .i64 BP, .int .i64 BR, .int .i64 BC, .slice pB DB.length kB] 26)).heap.size = w.heap.size + 1 + 1 := by simp
  generalize (w.alloc (.cells #[.int .i64 AP, .int .i64 AR, .int .i64 AC, .slice pA DA.length kA] 26)).alloc (.cells #[.int .i64 BP, .int .i64 BR, .int .i64 BC, .slice pB DB.length kB] 26) = w1 at *
  obtain ⟨cA0, cA1, cA2, cA3, cAf, cAz⟩ := blk4 ZA1.out
  go_wp2_with fail
  refine (implIsSpace_yes _ _ _ _ _ Hka.out _ (HdA.out.below HB1.out)).mono ?_
  rintro e w2 ⟨rfl, hb⟩
  have hs2 := hb.size
  have HB2 := Lib.hid (HB1.out.trans (hb.mono HB1.out.size))
  have ZA2 := Lib.hid (blk_later ZA1.out hb)
  have ZB2 := Lib.hid (blk_later ZB1.out hb)
  clear hb ZA1 ZB1
  clear cA0 cA1 cA2 cA3 cAf cAz
  obtain ⟨cB0, cB1, cB2, cB3, cBf, cBz⟩ := blk4 ZB2.out
  go_wp2_with fail
  refine (implFlag_no _ _ _ _ _ Hkb.out _ (HdB.out.below HB2.out)).mono ?_
  rintro e w3 ⟨rfl, hb⟩
  have hs3 := hb.size
  have HB3 := Lib.hid (HB2.out.trans (hb.mono HB2.out.size))
  have ZA3 := Lib.hid (blk_later ZA2.out hb)
  have ZB3 := Lib.hid (blk_later ZB2.out hb)
  clear hb ZA2 ZB2
  clear cB0 cB1 cB2 cB3 cBf cBz
  go_wp2_with fail
  go_ret
  exact ⟨_, rfl, rfl, HB3.out⟩

set_option maxRecDepth 100000 in
set_option maxHeartbeats 4000000 in
theorem implMf_no3 (AP AR AC BP BR BC : Int) (dA dB dS : Value) (DA DB DS : List Int) (w : World) (hdA : Ints w dA DA) (hdB : Ints w dB DB) (hdS : Ints w dS DS) (ha : IsSp AP AR AC DA) (hb : IsFl BP BR BC DB) (hf : fitOk AP AC BP BC = false) :
    Calls Try.prog 23 #[.agg #[.int .i64 AP, .int .i64 AR, .int .i64 AC, dA], .agg #[.int .i64 BP, .int .i64 BR, .int .i64 BC, dB], dS] w fun e w' => ∃ b, e = .returned (.bool b) ∧ b = false ∧ Below w.heap.size w w' := by
  have Hka := Lib.hid ha
  have Hkb := Lib.hid hb
  clear ha hb
  have Hf := Lib.hid hf
  clear hf
  have HdA := Lib.hid hdA
  obtain ⟨pA, kA, rfl, ⟨_, mA⟩, _⟩ := hdA
  unfold maxLen at mA
  have HdB := Lib.hid hdB
  obtain ⟨pB, kB, rfl, ⟨_, mB⟩, _⟩ := hdB
  unfold maxLen at mB
  have HdS := Lib.hid hdS
  obtain ⟨pS, kS, rfl, ⟨_, mS⟩, _⟩ := hdS
  unfold maxLen at mS
  obtain ⟨z0, z1⟩ := boxes_ab w (.cells #[.int .i64 AP, .int .i64 AR, .int .i64 AC, .slice pA DA.length kA] 26) (.cells #[.int .i64 BP, .int .i64 BR, .int .i64 BC, .slice pB DB.length kB] 26)
  have ZA1 := Lib.hid z0
  have ZB1 := Lib.hid z1
  clear z0 z1
  have HB1 := Lib.hid (below_alloc2 w (.cells #[.int .i64 AP, .int .i64 AR, .int .i64 AC, .slice pA DA.length kA] 26) (.cells #[.int .i64 BP, .int .i64 BR, .int .i64 BC, .slice pB DB.length kB] 26))
  go_enter Try.func23, Try.ntmps23
  go_wp2_with fail
  have hs1 : ((w.alloc (.cells #[.int .i64 AP, .int .i64 AR, .int .i64 AC, .slice pA DA.length kA] 26)).alloc (.cells #[.int .i64 BP, .int .i64 BR, .int .i64 BC, .slice pB DB.length kB] 26)).heap.size = w.heap.size + 1 + 1 := by simp
  generalize (w.alloc (.cells #[.int .i64 AP, .int .i64 AR, .int .i64 AC, .slice pA DA.length kA] 26)).alloc (.cells #[.int .i64 BP, .int .i64 BR, .int .i64 BC, .slice pB DB.length kB] 26) = w1 at *
  obtain ⟨cA0, cA1, cA2, cA3, cAf, cAz⟩ := blk4 ZA1.out
  go_wp2_with fail
  refine (implIsSpace_yes _ _ _ _ _ Hka.out _ (HdA.out.below HB1.out)).mono ?_
  rintro e w2 ⟨rfl, hb⟩
  have hs2 := hb.size
  have HB2 := Lib.hid (HB1.out.trans (hb.mono HB1.out.size))
  have ZA2 := Lib.hid (blk_later ZA1.out hb)
  have ZB2 := Lib.hid (blk_later ZB1.out hb)
  clear hb ZA1 ZB1
  clear cA0 cA1 cA2 cA3 cAf cAz
  obtain ⟨cB0, cB1, cB2, cB3, cBf, cBz⟩ := blk4 ZB2.out
  go_wp2_with fail
  refine (implFlag_yes _ _ _ _ _ Hkb.out _ (HdB.out.below HB2.out)).mono ?_
  rintro e w3 ⟨rfl, hb⟩
  have hs3 := hb.size
  have HB3 := Lib.hid (HB2.out.trans (hb.mono HB2.out.size))
  have ZA3 := Lib.hid (blk_later ZA2.out hb)
  have ZB3 := Lib.hid (blk_later ZB2.out hb)
  clear hb ZA2 ZB2
  clear cB0 cB1 cB2 cB3 cBf cBz
  obtain ⟨cA0, cA1, cA2, cA3, cAf, cAz⟩ := blk4 ZA3.out
  obtain ⟨cB0, cB1, cB2, cB3, cBf, cBz⟩ := blk4 ZB3.out
  go_wp2_with fail
  refine (fitTogether_any _ _ _ _ _ _ _ _ DA DB _ (HdA.out.below HB3.out) (HdB.out.below HB3.out)).mono ?_
  rintro e w4 ⟨rfl, hb⟩
  have hs4 := hb.size
  have HB4 := Lib.hid (HB3.out.trans (hb.mono HB3.out.size))
  have ZA4 := Lib.hid (blk_later ZA3.out hb)
  have ZB4 := Lib.hid (blk_later ZB3.out hb)
  clear hb ZA3 ZB3
  clear cA0 cA1 cA2 cA3 cAf cAz cB0 cB1 cB2 cB3 cBf cBz
  rw [Hf.out]
  go_wp2_with fail
  go_ret
  exact ⟨_, rfl, rfl, HB4.out⟩

set_option maxRecDepth 100000 in
set_option maxHeartbeats 4000000 in
theorem implMf_no5 (AP AR AC BP BR BC : Int) (dA dB dS : Value) (DA DB DS : List Int) (w : World) (hdA : Ints w dA DA) (hdB : Ints w dB DB) (hdS : Ints w dS DS) (h : SfIs AP AR AC DA BP BR BC DB) (hx : bxOk DS AR.toNat AC.toNat = false) :
    Calls Try.prog 23 #[.agg #[.int .i64 AP, .int .i64 AR, .int .i64 AC, dA], .agg #[.int .i64 BP, .int .i64 BR, .int .i64 BC, dB], dS] w fun e w' => ∃ b, e = .returned (.bool b) ∧ b = false ∧ Below w.heap.size w w' := by
  obtain ⟨hs, hf, hPe, hCe⟩ := h
  subst hPe hCe
  obtain ⟨r, c, rfl, rfl, hr, hc0, hc, hlA, hDA, hP2, hP7, hpr, hkA⟩ := hs.facts
  obtain ⟨n, rfl, e2, _, _, hlB, hDB, _, _, _, hkB⟩ := hf.facts
  obtain rfl := Int.ofNat.inj e2
  clear e2
  have hrc : r ≤ c := hkA.leC
  have Hka := Lib.hid hs
  have Hkb := Lib.hid hf
  have HgA := Lib.hid (fun t => getD_range hDA (by omega) t)
  have HgB := Lib.hid (fun t => getD_range hDB (by omega) t)
  have HlA := Lib.hid hlA
  have HlB := Lib.hid hlB
  have Hpr := Lib.hid hpr
  have HkA := Lib.hid hkA
  have HkB := Lib.hid hkB
  clear hs hf hlA hlB hDA hDB hpr hkA hkB
  simp only [Int.toNat_natCast] at hx
  have Hbx := Lib.hid hx
  clear hx
  have Hf := Lib.hid (show fitOk AP c AP c = true by simp [fitOk])
  have HdA := Lib.hid hdA
  obtain ⟨pA, kA, rfl, ⟨_, mA⟩, _⟩ := hdA
  unfold maxLen at mA
  have HdB := Lib.hid hdB
  obtain ⟨pB, kB, rfl, ⟨_, mB⟩, _⟩ := hdB
  unfold maxLen at mB
  have HdS := Lib.hid hdS
  obtain ⟨pS, kS, rfl, ⟨_, mS⟩, _⟩ := hdS
  unfold maxLen at mS
  obtain ⟨z0, z1⟩ := boxes_ab w (.cells #[.int .i64 AP, .int .i64 (r : Int), .int .i64 (c : Int), .slice pA DA.length kA] 26) (.cells #[.int .i64 AP, .int .i64 (c : Int), .int .i64 (c : Int), .slice pB DB.length kB] 26)
  have ZA1 := Lib.hid z0
  have ZB1 := Lib.hid z1
  clear z0 z1
  have HB1 := Lib.hid (below_alloc2 w (.cells #[.int .i64 AP, .int .i64 (r : Int), .int .i64 (c : Int), .slice pA DA.length kA] 26) (.cells #[.int .i64 AP, .int .i64 (c : Int), .int .i64 (c : Int), .slice pB DB.length kB] 26))
  go_enter Try.func23, Try.ntmps23
  go_wp2_with fail
  have hs1 : ((w.alloc (.cells #[.int .i64 AP, .int .i64 (r : Int), .int .i64 (c : Int), .slice pA DA.length kA] 26)).alloc (.cells #[.int .i64 AP, .int .i64 (c : Int), .int .i64 (c : Int), .slice pB DB.length kB] 26)).heap.size = w.heap.size + 1 + 1 := by simp
  generalize (w.alloc (.cells #[.int .i64 AP, .int .i64 (r : Int), .int .i64 (c : Int), .slice pA DA.length kA] 26)).alloc (.cells #[.int .i64 AP, .int .i64 (c : Int), .int .i64 (c : Int), .slice pB DB.length kB] 26) = w1 at *
  obtain ⟨cA0, cA1, cA2, cA3, cAf, cAz⟩ := blk4 ZA1.out
  go_wp2_with fail
  refine (implIsSpace_yes _ _ _ _ _ Hka.out _ (HdA.out.below HB1.out)).mono ?_
  rintro e w2 ⟨rfl, hb⟩
  have hs2 := hb.size
  have HB2 := Lib.hid (HB1.out.trans (hb.mono HB1.out.size))
  have ZA2 := Lib.hid (blk_later ZA1.out hb)
  have ZB2 := Lib.hid (blk_later ZB1.out hb)
  clear hb ZA1 ZB1
  clear cA0 cA1 cA2 cA3 cAf cAz
  obtain ⟨cB0, cB1, cB2, cB3, cBf, cBz⟩ := blk4 ZB2.out
  go_wp2_with fail
  refine (implFlag_yes _ _ _ _ _ Hkb.out _ (HdB.out.below HB2.out)).mono ?_
  rintro e w3 ⟨rfl, hb⟩
  have hs3 := hb.size
  have HB3 := Lib.hid (HB2.out.trans (hb.mono HB2.out.size))
  have ZA3 := Lib.hid (blk_later ZA2.out hb)
  have ZB3 := Lib.hid (blk_later ZB2.out hb)
  clear hb ZA2 ZB2
  clear cB0 cB1 cB2 cB3 cBf cBz
  obtain ⟨cA0, cA1, cA2, cA3, cAf, cAz⟩ := blk4 ZA3.out
  obtain ⟨cB0, cB1, cB2, cB3, cBf, cBz⟩ := blk4 ZB3.out
  go_wp2_with fail
  refine (fitTogether_any _ _ _ _ _ _ _ _ DA DB _ (HdA.out.below HB3.out) (HdB.out.below HB3.out)).mono ?_
  rintro e w4 ⟨rfl, hb⟩
  have hs4 := hb.size
  have HB4 := Lib.hid (HB3.out.trans (hb.mono HB3.out.size))
  have ZA4 := Lib.hid (blk_later ZA3.out hb)
  have ZB4 := Lib.hid (blk_later ZB3.out hb)
  clear hb ZA3 ZB3
  clear cA0 cA1 cA2 cA3 cAf cAz cB0 cB1 cB2 cB3 cBf cBz
  rw [Hf.out]
  obtain ⟨cA0, cA1, cA2, cA3, cAf, cAz⟩ := blk4 ZA4.out
  go_wp2_with fail
  refine (IsInBox_any _ DS r c _ (HdS.out.below HB4.out) hrc hc0 hc).mono ?_
  rintro e w5 ⟨rfl, hq⟩
  have hb := hq.below w4.heap.size
  clear hq
  have hs5 := hb.size
  have HB5 := Lib.hid (HB4.out.trans (hb.mono HB4.out.size))
  have ZA5 := Lib.hid (blk_later ZA4.out hb)
  have ZB5 := Lib.hid (blk_later ZB4.out hb)
  clear hb ZA4 ZB4
  clear cA0 cA1 cA2 cA3 cAf cAz
  rw [Hbx.out]
  go_wp2_with fail
  go_ret
  exact ⟨_, rfl, rfl, HB5.out⟩

set_option maxRecDepth 100000 in
set_option maxHeartbeats 16000000 in
theorem implMf_yes (AP AR AC BP BR BC : Int) (dA dB dS : Value) (DA DB DS : List Int) (w : World) (hdA : Ints w dA DA) (hdB : Ints w dB DB) (hdS : Ints w dS DS) (h : SfIs AP AR AC DA BP BR BC DB) (hx : bxOk DS AR.toNat AC.toNat = true) :
    Calls Try.prog 23 #[.agg #[.int .i64 AP, .int .i64 AR, .int .i64 AC, dA], .agg #[.int .i64 BP, .int .i64 BR, .int .i64 BC, dB], dS] w fun e w' => ∃ b, e = .returned (.bool b) ∧ (b = true ↔ MfUp AP AR.toNat AC.toNat (mf AC.toNat fun t => DA.getD t 0) (mf AC.toNat fun t => DB.getD t 0) DS AR.toNat) ∧ Below w.heap.size w w' := by
  obtain ⟨hs, hf, hPe, hCe⟩ := h
  subst hPe hCe
  obtain ⟨r, c, rfl, rfl, hr, hc0, hc, hlA, hDA, hP2, hP7, hpr, hkA⟩ := hs.facts
  obtain ⟨n, rfl, e2, _, _, hlB, hDB, _, _, _, hkB⟩ := hf.facts
  obtain rfl := Int.ofNat.inj e2
  clear e2
  have hrc : r ≤ c := hkA.leC
  have Hka := Lib.hid hs
  have Hkb := Lib.hid hf
  have HgA := Lib.hid (fun t => getD_range hDA (by omega) t)
  have HgB := Lib.hid (fun t => getD_range hDB (by omega) t)
  have HlA := Lib.hid hlA
  have HlB := Lib.hid hlB
  have Hpr := Lib.hid hpr
  have HkA := Lib.hid hkA
  have HkB := Lib.hid hkB
  clear hs hf hlA hlB hDA hDB hpr hkA hkB
  simp only [Int.toNat_natCast] at hx ⊢
  have Hbx := Lib.hid hx
  have Hbf := Lib.hid (bx_facts hx hrc)
  clear hx
  have Hf := Lib.hid (show fitOk AP c AP c = true by simp [fitOk])
  have HdA := Lib.hid hdA
  obtain ⟨pA, kA, rfl, ⟨_, mA⟩, _⟩ := hdA
  unfold maxLen at mA
  have HdB := Lib.hid hdB
  obtain ⟨pB, kB, rfl, ⟨_, mB⟩, _⟩ := hdB
  unfold maxLen at mB
  have HdS := Lib.hid hdS
  obtain ⟨pS, kS, rfl, ⟨_, mS⟩, _⟩ := hdS
  unfold maxLen at mS
  obtain ⟨z0, z1⟩ := boxes_ab w (.cells #[.int .i64 AP, .int .i64 (r : Int), .int .i64 (c : Int), .slice pA DA.length kA] 26) (.cells #[.int .i64 AP, .int .i64 (c : Int), .int .i64 (c : Int), .slice pB DB.length kB] 26)
  have ZA1 := Lib.hid z0
  have ZB1 := Lib.hid z1
  clear z0 z1
  have HB1 := Lib.hid (below_alloc2 w (.cells #[.int .i64 AP, .int .i64 (r : Int), .int .i64 (c : Int), .slice pA DA.length kA] 26) (.cells #[.int .i64 AP, .int .i64 (c : Int), .int .i64 (c : Int), .slice pB DB.length kB] 26))
  go_enter Try.func23, Try.ntmps23
  go_wp2_with fail
  have hs1 : ((w.alloc (.cells #[.int .i64 AP, .int .i64 (r : Int), .int .i64 (c : Int), .slice pA DA.length kA] 26)).alloc (.cells #[.int .i64 AP, .int .i64 (c : Int), .int .i64 (c : Int), .slice pB DB.length kB] 26)).heap.size = w.heap.size + 1 + 1 := by simp
  generalize (w.alloc (.cells #[.int .i64 AP, .int .i64 (r : Int), .int .i64 (c : Int), .slice pA DA.length kA] 26)).alloc (.cells #[.int .i64 AP, .int .i64 (c : Int), .int .i64 (c : Int), .slice pB DB.length kB] 26) = w1 at *
  obtain ⟨cA0, cA1, cA2, cA3, cAf, cAz⟩ := blk4 ZA1.out
  go_wp2_with fail
  refine (implIsSpace_yes _ _ _ _ _ Hka.out _ (HdA.out.below HB1.out)).mono ?_
  rintro e w2 ⟨rfl, hb⟩
  have hs2 := hb.size
  have HB2 := Lib.hid (HB1.out.trans (hb.mono HB1.out.size))
  have ZA2 := Lib.hid (blk_later ZA1.out hb)
  have ZB2 := Lib.hid (blk_later ZB1.out hb)
  clear hb ZA1 ZB1
  clear cA0 cA1 cA2 cA3 cAf cAz
  obtain ⟨cB0, cB1, cB2, cB3, cBf, cBz⟩ := blk4 ZB2.out
  go_wp2_with fail
  refine (implFlag_yes _ _ _ _ _ Hkb.out _ (HdB.out.below HB2.out)).mono ?_
  rintro e w3 ⟨rfl, hb⟩
  have hs3 := hb.size
  have HB3 := Lib.hid (HB2.out.trans (hb.mono HB2.out.size))
  have ZA3 := Lib.hid (blk_later ZA2.out hb)
  have ZB3 := Lib.hid (blk_later ZB2.out hb)
  clear hb ZA2 ZB2
  clear cB0 cB1 cB2 cB3 cBf cBz
  obtain ⟨cA0, cA1, cA2, cA3, cAf, cAz⟩ := blk4 ZA3.out
  obtain ⟨cB0, cB1, cB2, cB3, cBf, cBz⟩ := blk4 ZB3.out
  go_wp2_with fail
  refine (fitTogether_any _ _ _ _ _ _ _ _ DA DB _ (HdA.out.below HB3.out) (HdB.out.below HB3.out)).mono ?_
  rintro e w4 ⟨rfl, hb⟩
  have hs4 := hb.size
  have HB4 := Lib.hid (HB3.out.trans (hb.mono HB3.out.size))
  have ZA4 := Lib.hid (blk_later ZA3.out hb)
  have ZB4 := Lib.hid (blk_later ZB3.out hb)
  clear hb ZA3 ZB3
  clear cA0 cA1 cA2 cA3 cAf cAz cB0 cB1 cB2 cB3 cBf cBz
  rw [Hf.out]
  obtain ⟨cA0, cA1, cA2, cA3, cAf, cAz⟩ := blk4 ZA4.out
  go_wp2_with fail
  refine (IsInBox_any _ DS r c _ (HdS.out.below HB4.out) hrc hc0 hc).mono ?_
  rintro e w5 ⟨rfl, hq⟩
  have hb := hq.below w4.heap.size
  clear hq
  have hs5 := hb.size
  have HB5 := Lib.hid (HB4.out.trans (hb.mono HB4.out.size))
  have ZA5 := Lib.hid (blk_later ZA4.out hb)
  have ZB5 := Lib.hid (blk_later ZB4.out hb)
  clear hb ZA4 ZB4
  clear cA0 cA1 cA2 cA3 cAf cAz
  rw [Hbx.out]
  have HS0 : Hid (S2 w AP (r : Int) (c : Int) (.slice pA DA.length kA) AP (c : Int) (c : Int) (.slice pB DB.length kB) w5) := Lib.hid (S2.of_blk ZA5.out ZB5.out HB5.out)
  clear ZA5 ZB5
  go_wp2_with fail
  obtain ⟨⟨cA0, cA1, cA2, cA3, cB0, cB1, cB2, cB3⟩, hBw⟩ := HS0.out
  go_region_held3 (fun w' => (w'.cell? ⟨w.heap.size, 0, none⟩ = some (.int .i64 AP) ∧ w'.cell? ⟨w.heap.size, 1, none⟩ = some (.int .i64 (r : Int)) ∧ w'.cell? ⟨w.heap.size, 2, none⟩ = some (.int .i64 (c : Int)) ∧ w'.cell? ⟨w.heap.size, 3, none⟩ = some (.slice pA DA.length kA) ∧ w'.cell? ⟨w.heap.size + 1, 0, none⟩ = some (.int .i64 AP) ∧ w'.cell? ⟨w.heap.size + 1, 1, none⟩ = some (.int .i64 (c : Int)) ∧ w'.cell? ⟨w.heap.size + 1, 2, none⟩ = some (.int .i64 (c : Int)) ∧ w'.cell? ⟨w.heap.size + 1, 3, none⟩ = some (.slice pB DB.length kB)) ∧ Below w.heap.size w w')
    (first | exact ⟨⟨cA0, cA1, cA2, cA3, cB0, cB1, cB2, cB3⟩, hBw.drew⟩ | exact keep8 hb1 (by assumption))
    (first
      | (go_at_call_of 29 (Value.slice pA DA.length kA); refine (lines_any AP r c _ DA _ (held_ints HdA.out (by assumption)) (by omega) (by omega) hc0 HlA.out).mono ?_; rintro e w' ⟨u, rfl, ho, hb1⟩; have hrA := ho.rd; clear ho; obtain ⟨qA, gA, rfl, hgA1, hgA2⟩ := hrA.shapeR (rowsOf_length _ _ _))
      | (go_at_call_of 29 (Value.slice pB DB.length kB); refine (lines_any AP c c _ DB _ (held_ints HdB.out (by assumption)) (by omega) (by omega) hc0 HlB.out).mono ?_; rintro e w' ⟨u, rfl, ho, hb1⟩; have hrB := ho.rd; clear ho; obtain ⟨qB, gB, rfl, hgB1, hgB2⟩ := hrB.shapeR (rowsOf_length _ _ _); have hrA := (RdII.below hrA (by first | exact Below.refl _ _ | exact (Below.refl _ _).drew)).below hb1))
  have hS1 : S2 w AP (r : Int) (c : Int) (.slice pA DA.length kA) AP (c : Int) (c : Int) (.slice pB DB.length kB) _ := (by assumption)
  obtain ⟨wk, rfl⟩ : ∃ x : World, x = w' := ⟨_, rfl⟩
  unfold maxLen at hgA2 hgB2
  have HRA := Lib.hid hrA
  have HRB := Lib.hid hrB
  have HS1 := Lib.hid hS1
  clear hrA hrB hS1 hb1 cA0 cA1 cA2 cA3 cB0 cB1 cB2 cB3 hBw
  obtain ⟨⟨cA0, cA1, cA2, cA3, cB0, cB1, cB2, cB3⟩, hBw⟩ := HS1.out
  go_wp2_with fail
  clear cA0 cA1 cA2 cA3 cB0 cB1 cB2 cB3 hBw
  go_loopg [9, 39] r (fun g s9 s39 wr => ∃ i : Nat, i ≤ r ∧ g = r - i ∧ s39 = .int .i64 i ∧ Hid (S2 w AP (r : Int) (c : Int) (.slice pA DA.length kA) AP (c : Int) (c : Int) (.slice pB DB.length kB) wr) ∧ Hid (MfUp AP r c (mf c fun t => DA.getD t 0) (mf c fun t => DB.getD t 0) DS i) ∧ Hid (Below wk.heap.size wk wr))
  case atStart => exact ⟨0, Nat.zero_le _, rfl, rfl, HS1.out, fun i hi => absurd hi (Nat.not_lt_zero _), Below.refl _ _⟩
  case round =>
    obtain ⟨i, hi, rfl, rfl, hS, hup, hbk⟩ := hrel
    obtain ⟨wj, rfl⟩ : ∃ x : World, x = wr := ⟨_, rfl⟩
    obtain ⟨⟨cA0, cA1, cA2, cA3, cB0, cB1, cB2, cB3⟩, hBw⟩ := hS.out
    by_cases hir : i < r
    · have hir2 : (i : Int) < (r : Int) := by omega
      obtain ⟨s, hs0⟩ : ∃ s, s = DS.getD i 0 := ⟨_, rfl⟩
      have hsb := Hbf.out i hir
      rw [← hs0] at hsb
      obtain ⟨hsb0, hsb1⟩ := hsb
      obtain ⟨jj, hjj⟩ : ∃ jj, jj = mfJ DS r c i := ⟨_, rfl⟩
      have hjv : (jj : Int) = (c : Int) - (r : Int) + (i : Int) + 1 - s := by rw [hjj]; unfold mfJ; rw [← hs0]; omega
      have hjc : jj ≤ c := by omega
      have Hi6 := Lib.hid (show i ≤ 1000000 by omega)
      have Hjj := Lib.hid hjj
      have Hs0 := Lib.hid hs0
      have Hw1 := Lib.hid (show IntKind.i64.wrap ((c : Int) - (r : Int)) = (c : Int) - (r : Int) from k64 (by omega) (by omega))
      have Hw2 := Lib.hid (show IntKind.i64.wrap ((c : Int) - (r : Int) + (i : Int)) = (c : Int) - (r : Int) + (i : Int) from k64 (by omega) (by omega))
      have Hw3 := Lib.hid (show IntKind.i64.wrap ((c : Int) - (r : Int) + (i : Int) + 1) = (c : Int) - (r : Int) + (i : Int) + 1 from k64 (by omega) (by omega))
      have Hw4 := Lib.hid (show IntKind.i64.wrap ((c : Int) - (r : Int) + (i : Int) + 1 - s) = (jj : Int) by rw [hjv]; exact k64 (by omega) (by omega))
      have Hw5 := Lib.hid (show IntKind.i64.wrap ((i : Int) + 1) = (i : Int) + 1 from k64 (by omega) (by omega))
      clear hjj hs0 hjv
      have HRAj := Lib.hid (HRA.out.below hbk.out)
      have HRBj := Lib.hid (HRB.out.below hbk.out)
      have hj0 : (0 : Int) ≤ (jj : Int) := by omega
      have hj3 : (jj : Int) ≤ (gB : Int) := by omega
      have hj5 : jj ≤ gB := by omega
      go_wp2_with fail
      have hw1 := Hw1.out
      have hw2 := Hw2.out
      have hw3 := Hw3.out
      have hw4 := Hw4.out
      have hw5 := Hw5.out
      go_region_held3 (fun w' => (w'.cell? ⟨w.heap.size, 0, none⟩ = some (.int .i64 AP) ∧ w'.cell? ⟨w.heap.size, 1, none⟩ = some (.int .i64 (r : Int)) ∧ w'.cell? ⟨w.heap.size, 2, none⟩ = some (.int .i64 (c : Int)) ∧ w'.cell? ⟨w.heap.size, 3, none⟩ = some (.slice pA DA.length kA) ∧ w'.cell? ⟨w.heap.size + 1, 0, none⟩ = some (.int .i64 AP) ∧ w'.cell? ⟨w.heap.size + 1, 1, none⟩ = some (.int .i64 (c : Int)) ∧ w'.cell? ⟨w.heap.size + 1, 2, none⟩ = some (.int .i64 (c : Int)) ∧ w'.cell? ⟨w.heap.size + 1, 3, none⟩ = some (.slice pB DB.length kB)) ∧ Below w.heap.size w w')
        (first | exact ⟨⟨cA0, cA1, cA2, cA3, cB0, cB1, cB2, cB3⟩, hBw.drew⟩ | exact keep8 hb1 (by assumption))
        (first
          | (go_at_call 45; refine (rowOf_s _ DS i s Hs0.out Hi6.out _ (held_ints HdS.out (by assumption))).mono ?_; rintro e w' ⟨rfl, hb1⟩; have hbz : Below wj.heap.size wj w' := (by first | exact below_trans hbz hb1 | exact below_trans hbz (below_of_drew hb1) | exact hb1 | exact below_of_drew hb1))
          | (go_at_call 44; refine (common_b AP r c c r jj _ _ DA DB _ (HRAj.out.below (by first | exact hbz | exact hbz.drew | exact Below.refl _ _ | exact (Below.refl _ _).drew)) (by rw [← rowsOf_take (R := c) hjc]; exact RdII.take (HRBj.out.below (by first | exact hbz | exact hbz.drew | exact Below.refl _ _ | exact (Below.refl _ _).drew)) (by rw [rowsOf_length]; exact hjc)) HlA.out HlB.out hr hc hc (Nat.le_refl _) hjc HgA.out HgB.out Hpr.out).mono ?_; rintro e w' ⟨ma, rfl, hma, hma1, hma2, hb1⟩; have hbz : Below wj.heap.size wj w' := (by first | exact below_trans hbz hb1 | exact below_trans hbz (below_of_drew hb1) | exact hb1 | exact below_of_drew hb1)))
      have hS2 : S2 w AP (r : Int) (c : Int) (.slice pA DA.length kA) AP (c : Int) (c : Int) (.slice pB DB.length kB) _ := (by assumption)
      obtain ⟨wn, rfl⟩ : ∃ x : World, x = w' := ⟨_, rfl⟩
      have HS2 := Lib.hid hS2
      have Hbz := Lib.hid hbz
      rw [Hjj.out] at hma
      have Hma := Lib.hid hma
      clear hS2 hbz hb1 hma hw1 hw2 hw3 hw4 hw5 cA0 cA1 cA2 cA3 cB0 cB1 cB2 cB3 hBw
      by_cases hlt : ma < (i : Int) + 1
      · go_wp2_with fail
        go_ret
        exact ⟨_, rfl, ⟨fun e => (by cases e), fun e => absurd e (mf_out hP2 hir Hma.out hlt)⟩, HS2.out.2⟩
      · go_wp2_with fail
        go_roundg (r - (i + 1))
        case measure => omega
        case rel => exact ⟨i + 1, hir, rfl, by go_num, HS2.out, hup.out.snoc hP2 Hma.out (by omega), hbk.out.trans (Hbz.out.mono hbk.out.size)⟩
    · obtain rfl : i = r := by omega
      go_wp2_with fail
      go_ret
      exact ⟨_, rfl, ⟨fun _ => hup.out, fun _ => rfl⟩, hBw⟩

theorem implMf_ex (AP AR AC BP BR BC : Int) (dA dB dS : Value) (DA DB DS : List Int) (w : World) (hdA : Ints w dA DA) (hdB : Ints w dB DB) (hdS : Ints w dS DS) :
    Calls Try.prog 23 #[.agg #[.int .i64 AP, .int .i64 AR, .int .i64 AC, dA], .agg #[.int .i64 BP, .int .i64 BR, .int .i64 BC, dB], dS] w fun e w' => ∃ b, e = .returned (.bool b) ∧ MfIs AP AR AC DA BP BR BC DB DS b ∧ Below w.heap.size w w' := by
  by_cases h : SfIs AP AR AC DA BP BR BC DB
  · cases hx : bxOk DS AR.toNat AC.toNat with
    | false => exact (implMf_no5 AP AR AC BP BR BC dA dB dS DA DB DS w hdA hdB hdS h hx).mono fun e w' ⟨b, r1, r2, r3⟩ => ⟨b, r1, (by subst r2; exact ⟨fun e => (by cases e), fun e => (by rw [hx] at e; cases e.2.1)⟩), r3⟩
    | true => exact (implMf_yes AP AR AC BP BR BC dA dB dS DA DB DS w hdA hdB hdS h hx).mono fun e w' ⟨b, r1, r2, r3⟩ => ⟨b, r1, ⟨fun e => ⟨h, hx, r2.1 e⟩, fun e => r2.2 e.2.2⟩, r3⟩
  have no : ∀ b, b = false → MfIs AP AR AC DA BP BR BC DB DS b := fun b hb => by
    subst hb
    exact ⟨fun e => (by cases e), fun e => absurd e.1 h⟩
  rcases Classical.em (IsSp AP AR AC DA) with ha | ha
  · rcases Classical.em (IsFl BP BR BC DB) with hb | hb
    ·
      refine (implMf_no3 AP AR AC BP BR BC dA dB dS DA DB DS w hdA hdB hdS ha hb ?_).mono fun e w' ⟨b, r1, r2, r3⟩ => ⟨b, r1, no b r2, r3⟩
      cases hf : fitOk AP AC BP BC with
      | false => rfl
      | true =>
        simp [fitOk] at hf
        exact absurd ⟨ha, hb, hf.1, hf.2⟩ h
    · exact (implMf_no2 AP AR AC BP BR BC dA dB dS DA DB DS w hdA hdB hdS ha hb).mono fun e w' ⟨b, r1, r2, r3⟩ => ⟨b, r1, no b r2, r3⟩
  · exact (implMf_no1 AP AR AC BP BR BC dA dB dS DA DB DS w hdA hdB hdS ha).mono fun e w' ⟨b, r1, r2, r3⟩ => ⟨b, r1, no b r2, r3⟩
theorem implMf_any (AP AR AC BP BR BC : Int) (dA dB dS : Value) (DA DB DS : List Int) (w : World) (hdA : Ints w dA DA) (hdB : Ints w dB DB) (hdS : Ints w dS DS) :
    Calls Try.prog 23 #[.agg #[.int .i64 AP, .int .i64 AR, .int .i64 AC, dA], .agg #[.int .i64 BP, .int .i64 BR, .int .i64 BC, dB], dS] w fun e w' => e = .returned (.bool (Classical.epsilon (MfIs AP AR AC DA BP BR BC DB DS))) ∧ Below w.heap.size w w' :=
  (implMf_ex AP AR AC BP BR BC dA dB dS DA DB DS w hdA hdB hdS).mono fun e w' ⟨b, h1, h2, h3⟩ => ⟨by rw [h1, h2.eps], h3⟩


end Go.Proofs.Ytapmnfakjnhlbaa
