/-
  MeetsFlag, on both sides.
  RelativePosition, on both sides.
  Slices of structs, any number of one-cell fields an element: over any program.
-/
import Derived.Test.YtoodgbflaaabmaaJ10
import Derived.Test.YtoodgbflaaabmaaJ8
import Derived.Lib.OwnKind
namespace Go.Proofs.Ytoodgbflaaabmaa
set_option linter.all false
open Go.RowKit

/-- how many rows of the flag row i asks for -/
def mfJ (xs : List Int) (r c i : Nat) : Nat := c - r + i + 1 - (xs.getD i 0).toNat
/-- the first k rows of the shape are met -/
def MfUp (P : Int) (r c : Nat) (A B : Nat → Nat → Int) (xs : List Int) (k : Nat) : Prop := ∀ i, i < k → ∀ m, CmIs P c A r B (mfJ xs r c i) m → (i : Int) + 1 ≤ m
/-- what MeetsFlag returns -/
def MfIs (P R C : Int) (D : List Int) (P' R' C' : Int) (D' xs : List Int) (b : Bool) : Prop :=
  b = true ↔ SfIs P R C D P' R' C' D' ∧ bxOk xs R.toNat C.toNat = true ∧ MfUp P R.toNat C.toNat (mf C.toNat fun t => D.getD t 0) (mf C.toNat fun t => D'.getD t 0) xs R.toNat
theorem MfIs.one {P R C : Int} {D : List Int} {P' R' C' : Int} {D' xs : List Int} {b b' : Bool} (h : MfIs P R C D P' R' C' D' xs b) (h' : MfIs P R C D P' R' C' D' xs b') : b = b' := by
  unfold MfIs at h h'
  have e : b = true ↔ b' = true := h.trans h'.symm
  cases b <;> cases b' <;> simp_all
theorem MfIs.eps {P R C : Int} {D : List Int} {P' R' C' : Int} {D' xs : List Int} {b : Bool} (h : MfIs P R C D P' R' C' D' xs b) : b = Classical.epsilon (MfIs P R C D P' R' C' D' xs) := h.one (Classical.epsilon_spec ⟨b, h⟩)
/-- the rows of a shape in a box -/
theorem bx_facts {xs : List Int} {r c : Nat} (h : bxOk xs r c = true) (hrc : r ≤ c) : ∀ i, i < r → 0 ≤ xs.getD i 0 ∧ xs.getD i 0 ≤ (c : Int) - (r : Int) := by
  unfold bxOk at h
  simp only [Bool.and_eq_true, decide_eq_true_eq] at h
  obtain ⟨⟨h1, h2⟩, h3⟩ := h
  obtain ⟨hl, hs⟩ := shOk_facts h1
  have hmon : ∀ i, i < xs.length → xs.getD i 0 ≤ xs.getD 0 0 := by
    intro i
    induction i with
    | zero => exact fun _ => Int.le_refl _
    | succ i ih =>
      intro hi
      have a := ih (by omega)
      have b := (hs (i + 1) hi).2.2 (by omega)
      rw [Nat.add_sub_cancel] at b
      omega
  intro i hi
  by_cases e : i < xs.length
  · have a := hmon i e
    have b := (hs i e).1
    omega
  · have : xs.getD i 0 = 0 := by simp [List.getD_eq_getElem?_getD, Nat.le_of_not_lt e]
    rw [this]
    omega
theorem mf_out {P : Int} {r c i : Nat} {A B : Nat → Nat → Int} {xs : List Int} {m : Int} (hP : 2 ≤ P) (hi : i < r) (h : CmIs P c A r B (mfJ xs r c i) m) (hm : m < (i : Int) + 1) : ¬ MfUp P r c A B xs r := fun hu => by
  have := hu i hi m h
  omega
theorem MfUp.snoc {P : Int} {r c k : Nat} {A B : Nat → Nat → Int} {xs : List Int} {m : Int} (hP : 2 ≤ P) (hu : MfUp P r c A B xs k) (h : CmIs P c A r B (mfJ xs r c k) m) (hm : ¬ m < (k : Int) + 1) : MfUp P r c A B xs (k + 1) := fun i hi m' hm' => by
  by_cases e : i = k
  · subst e
    rw [hm'.one hP h]
    omega
  · exact hu i (by omega) m' hm'

theorem rowOf_s (v : Value) (xs : List Int) (i : Nat) (s : Int) (hs : s = xs.getD i 0) (hi : i ≤ 1000000) (w : World) (h : Ints w v xs) :
    Calls Try.prog 63 #[v, .int .i64 (i : Int)] w fun e w' => e = .returned (.int .i64 s) ∧ Below w.heap.size w w' := by
  rw [hs]
  exact (rowOf_any v xs i w h hi).mono fun e w' ⟨r1, r2⟩ => ⟨r1, r2.below _⟩

set_option maxRecDepth 100000 in
set_option maxHeartbeats 4000000 in
theorem implMf_no1 (AP AR AC BP BR BC : Int) (dA dB dS : Value) (DA DB DS : List Int) (w : World) (hdA : Ints w dA DA) (hdB : Ints w dB DB) (hdS : Ints w dS DS) (ha : ¬ IsSp AP AR AC DA) :
    Calls Try.prog 29 #[.agg #[.int .i64 AP, .int .i64 AR, .int .i64 AC, dA], .agg #[.int .i64 BP, .int .i64 BR, .int .i64 BC, dB], dS] w fun e w' => ∃ b, e = .returned (.bool b) ∧ b = false ∧ Below w.heap.size w w' := by
  have Hka := Lib.hid ha
  clear ha
  have HdA := Lib.hid hdA
  obtain ⟨pA, kA, rfl, ⟨_, mA⟩, _⟩ := hdA
  unfold maxLen at mA
  have HdB := Lib.hid hdB
  obtain ⟨pB, kB, rfl, ⟨_, mB⟩, _⟩ := hdB
  unfold maxLen at mB
  have HdS := Lib.hid hdS
  obtain ⟨pS, kS, rfl, ⟨_, mS⟩, _⟩ := hdS
  unfold maxLen at mS
  obtain ⟨z0, z1⟩ := boxes_ab w (.cells #[.int .i64 AP, .int .i64 AR, .int .i64 AC, .slice pA DA.length kA] 34) (.cells #[.int .i64 BP, .int .i64 BR, .int .i64 BC, .slice pB DB.length kB] 34)
  have ZA1 := Lib.hid z0
  have ZB1 := Lib.hid z1
  clear z0 z1
  have HB1 := Lib.hid (below_alloc2 w (.cells #[.int .i64 AP, .int .i64 AR, .int .i64 AC, .slice pA DA.length kA] 34) (.cells #[.int .i64 BP, .int .i64 BR, .int .i64 BC, .slice pB DB.length kB] 34))
  go_enter Try.func29, Try.ntmps29
  go_wp2_with fail
  have hs1 : ((w.alloc (.cells #[.int .i64 AP, .int .i64 AR, .int .i64 AC, .slice pA DA.length kA] 34)).alloc (.cells #[.int .i64 BP, .int .i64 BR, .int .i64 BC, .slice pB DB.length kB] 34)).heap.size = w.heap.size + 1 + 1 := by simp
  generalize (w.alloc (.cells #[.int .i64 AP, .int .i64 AR, .int .i64 AC, .slice pA DA.length kA] 34)).alloc (.cells #[.int .i64 BP, .int .i64 BR, .int .i64 BC, .slice pB DB.length kB] 34) = w1 at *
  obtain ⟨cA0, cA1, cA2, cA3, cAf, cAz⟩ := blk4 ZA1.out
  go_wp2_with fail
  refine (implIsSpace_no _ _ _ _ _ Hka.out _ (HdA.out.below HB1.out)).mono ?_
  rintro e w2 ⟨rfl, hb⟩
  have hs2 := hb.size
  have HB2 := Lib.hid (HB1.out.trans (hb.mono HB1.out.size))
  have ZA2 := Lib.hid (blk_later ZA1.out hb)
  have ZB2 := Lib.hid (blk_later ZB1.out hb)
  clear hb ZA1 ZB1
  clear cA0 cA1 cA2 cA3 cAf cAz
  go_wp2_with fail
  go_ret
  exact ⟨_, rfl, rfl, HB2.out⟩

set_option maxRecDepth 100000 in
set_option maxHeartbeats 4000000 in
theorem implMf_no2 (AP AR AC BP BR BC : Int) (dA dB dS : Value) (DA DB DS : List Int) (w : World) (hdA : Ints w dA DA) (hdB : Ints w dB DB) (hdS : Ints w dS DS) (ha : IsSp AP AR AC DA) (hb : ¬ IsFl BP BR BC DB) :
    Calls Try.prog 29 #[.agg #[.int .i64 AP, .int .i64 AR, .int .i64 AC, dA], .agg #[.int .i64 BP, .int .i64 BR, .int .i64 BC, dB], dS] w fun e w' => ∃ b, e = .returned (.bool b) ∧ b = false ∧ Below w.heap.size w w' := by
  have Hka := Lib.hid ha
  have Hkb := Lib.hid hb
  clear ha hb
  have HdA := Lib.hid hdA
  obtain ⟨pA, kA, rfl, ⟨_, mA⟩, _⟩ := hdA
  unfold maxLen at mA
  have HdB := Lib.hid hdB
  obtain ⟨pB, kB, rfl, ⟨_, mB⟩, _⟩ := hdB
  unfold maxLen at mB
  have HdS := Lib.hid hdS
  obtain ⟨pS, kS, rfl, ⟨_, mS⟩, _⟩ := hdS
  unfold maxLen at mS
  obtain ⟨z0, z1⟩ := boxes_ab w (.cells #[.int .i64 AP, .int .i64 AR, .int .i64 AC, .slice pA DA.length kA] 34) (.cells #[.int .i64 BP, .int .i64 BR, .int .i64 BC, .slice pB DB.length kB] 34)
  have ZA1 := Lib.hid z0
  have ZB1 := Lib.hid z1
  clear z0 z1
  have HB1 := Lib.hid (below_alloc2 w (.cells #[.int .i64 AP, .int .i64 AR, .int .i64 AC, .slice pA DA.length kA] 34) (.cells #[.int .i64 BP, .int .i64 BR, .int .i64 BC, .slice pB DB.length kB] 34))
  go_enter Try.func29, Try.ntmps29
  go_wp2_with fail
  have hs1 : ((w.alloc (.cells #[.int .i64 AP, .int .i64 AR, .int .i64 AC, .slice pA DA.length kA] 34)).alloc (.cells #[.int .i64 BP, .int .i64 BR, .int .i64 BC, .slice pB DB.length kB] 34)).heap.size = w.heap.size + 1 + 1 := by simp
  generalize (w.alloc (.cells #[.int .i64 AP, .int .i64 AR, .int .i64 AC, .slice pA DA.length kA] 34)).alloc (.cells #[.int .i64 BP, .int .i64 BR, .int .i64 BC, .slice pB DB.length kB] 34) = w1 at *
  obtain ⟨cA0, cA1, cA2, cA3, cAf, cAz⟩ := blk4 ZA1.out
  go_wp2_with fail
  refine (implIsSpace_yes _ _ _ _ _ Hka.out _ (HdA.out.below HB1.out)).mono ?_
  rintro e w2 ⟨rfl, hb⟩
  have hs2 := hb.size
  have HB2 := Lib.hid (HB1.out.trans (hb.mono HB1.out.size))
  have ZA2 := Lib.hid (blk_later ZA1.out hb)
  have ZB2 := Lib.hid (blk_later ZB1.out hb)
  clear hb ZA1 ZB1
  clear cA0 cA1 cA2 cA3 cAf cAz
  obtain ⟨cB0, cB1, cB2, cB3, cBf, cBz⟩ := blk4 ZB2.out
  go_wp2_with fail
  refine (implFlag_no _ _ _ _ _ Hkb.out _ (HdB.out.below HB2.out)).mono ?_
  rintro e w3 ⟨rfl, hb⟩
  have hs3 := hb.size
  have HB3 := Lib.hid (HB2.out.trans (hb.mono HB2.out.size))
  have ZA3 := Lib.hid (blk_later ZA2.out hb)
  have ZB3 := Lib.hid (blk_later ZB2.out hb)
  clear hb ZA2 ZB2
  clear cB0 cB1 cB2 cB3 cBf cBz
  go_wp2_with fail
  go_ret
  exact ⟨_, rfl, rfl, HB3.out⟩

set_option maxRecDepth 100000 in
set_option maxHeartbeats 4000000 in
theorem implMf_no3 (AP AR AC BP BR BC : Int) (dA dB dS : Value) (DA DB DS : List Int) (w : World) (hdA : Ints w dA DA) (hdB : Ints w dB DB) (hdS : Ints w dS DS) (ha : IsSp AP AR AC DA) (hb : IsFl BP BR BC DB) (hf : fitOk AP AC BP BC = false) :
    Calls Try.prog 29 #[.agg #[.int .i64 AP, .int .i64 AR, .int .i64 AC, dA], .agg #[.int .i64 BP, .int .i64 BR, .int .i64 BC, dB], dS] w fun e w' => ∃ b, e = .returned (.bool b) ∧ b = false ∧ Below w.heap.size w w' := by
  have Hka := Lib.hid ha
  have Hkb := Lib.hid hb
  clear ha hb
  have Hf := Lib.hid hf
  clear hf
  have HdA := Lib.hid hdA
  obtain ⟨pA, kA, rfl, ⟨_, mA⟩, _⟩ := hdA
  unfold maxLen at mA
  have HdB := Lib.hid hdB
  obtain ⟨pB, kB, rfl, ⟨_, mB⟩, _⟩ := hdB
  unfold maxLen at mB
  have HdS := Lib.hid hdS
  obtain ⟨pS, kS, rfl, ⟨_, mS⟩, _⟩ := hdS
  unfold maxLen at mS
  obtain ⟨z0, z1⟩ := boxes_ab w (.cells #[.int .i64 AP, .int .i64 AR, .int .i64 AC, .slice pA DA.length kA] 34) (.cells #[.int .i64 BP, .int .i64 BR, .int .i64 BC, .slice pB DB.length kB] 34)
  have ZA1 := Lib.hid z0
  have ZB1 := Lib.hid z1
  clear z0 z1
  have HB1 := Lib.hid (below_alloc2 w (.cells #[.int .i64 AP, .int .i64 AR, .int .i64 AC, .slice pA DA.length kA] 34) (.cells #[.int .i64 BP, .int .i64 BR, .int .i64 BC, .slice pB DB.length kB] 34))
  go_enter Try.func29, Try.ntmps29
  go_wp2_with fail
  have hs1 : ((w.alloc (.cells #[.int .i64 AP, .int .i64 AR, .int .i64 AC, .slice pA DA.length kA] 34)).alloc (.cells #[.int .i64 BP, .int .i64 BR, .int .i64 BC, .slice pB DB.length kB] 34)).heap.size = w.heap.size + 1 + 1 := by simp
  generalize (w.alloc (.cells #[.int .i64 AP, .int .i64 AR, .int .i64 AC, .slice pA DA.length kA] 34)).alloc (.cells #[.int .i64 BP, .int .i64 BR, .int .i64 BC, .slice pB DB.length kB] 34) = w1 at *
  obtain ⟨cA0, cA1, cA2, cA3, cAf, cAz⟩ := blk4 ZA1.out
  go_wp2_with fail
  refine (implIsSpace_yes _ _ _ _ _ Hka.out _ (HdA.out.below HB1.out)).mono ?_
  rintro e w2 ⟨rfl, hb⟩
  have hs2 := hb.size
  have HB2 := Lib.hid (HB1.out.trans (hb.mono HB1.out.size))
  have ZA2 := Lib.hid (blk_later ZA1.out hb)
  have ZB2 := Lib.hid (blk_later ZB1.out hb)
  clear hb ZA1 ZB1
  clear cA0 cA1 cA2 cA3 cAf cAz
  obtain ⟨cB0, cB1, cB2, cB3, cBf, cBz⟩ := blk4 ZB2.out
  go_wp2_with fail
  refine (implFlag_yes _ _ _ _ _ Hkb.out _ (HdB.out.below HB2.out)).mono ?_
  rintro e w3 ⟨rfl, hb⟩
  have hs3 := hb.size
  have HB3 := Lib.hid (HB2.out.trans (hb.mono HB2.out.size))
  have ZA3 := Lib.hid (blk_later ZA2.out hb)
  have ZB3 := Lib.hid (blk_later ZB2.out hb)
  clear hb ZA2 ZB2
  clear cB0 cB1 cB2 cB3 cBf cBz
  obtain ⟨cA0, cA1, cA2, cA3, cAf, cAz⟩ := blk4 ZA3.out
  obtain ⟨cB0, cB1, cB2, cB3, cBf, cBz⟩ := blk4 ZB3.out
  go_wp2_with fail
  refine (fitTogether_any _ _ _ _ _ _ _ _ DA DB _ (HdA.out.below HB3.out) (HdB.out.below HB3.out)).mono ?_
  rintro e w4 ⟨rfl, hb⟩
  have hs4 := hb.size
  have HB4 := Lib.hid (HB3.out.trans (hb.mono HB3.out.size))
  have ZA4 := Lib.hid (blk_later ZA3.out hb)
  have ZB4 := Lib.hid (blk_later ZB3.out hb)
  clear hb ZA3 ZB3
  clear cA0 cA1 cA2 cA3 cAf cAz cB0 cB1 cB2 cB3 cBf cBz
  rw [Hf.out]
  go_wp2_with fail
  go_ret
  exact ⟨_, rfl, rfl, HB4.out⟩

set_option maxRecDepth 100000 in
set_option maxHeartbeats 4000000 in
theorem implMf_no5 (AP AR AC BP BR BC : Int) (dA dB dS : Value) (DA DB DS : List Int) (w : World) (hdA : Ints w dA DA) (hdB : Ints w dB DB) (hdS : Ints w dS DS) (h : SfIs AP AR AC DA BP BR BC DB) (hx : bxOk DS AR.toNat AC.toNat = false) :
    Calls Try.prog 29 #[.agg #[.int .i64 AP, .int .i64 AR, .int .i64 AC, dA], .agg #[.int .i64 BP, .int .i64 BR, .int .i64 BC, dB], dS] w fun e w' => ∃ b, e = .returned (.bool b) ∧ b = false ∧ Below w.heap.size w w' := by
  obtain ⟨hs, hf, hPe, hCe⟩ := h
  subst hPe hCe
  obtain ⟨r, c, rfl, rfl, hr, hc0, hc, hlA, hDA, hP2, hP7, hpr, hkA⟩ := hs.facts
  obtain ⟨n, rfl, e2, _, _, hlB, hDB, _, _, _, hkB⟩ := hf.facts
  obtain rfl := Int.ofNat.inj e2
  clear e2
  have hrc : r ≤ c := hkA.leC
  have Hka := Lib.hid hs
  have Hkb := Lib.hid hf
  have HgA := Lib.hid (fun t => getD_range hDA (by omega) t)
  have HgB := Lib.hid (fun t => getD_range hDB (by omega) t)
  have HlA := Lib.hid hlA
  have HlB := Lib.hid hlB
  have Hpr := Lib.hid hpr
  have HkA := Lib.hid hkA
  have HkB := Lib.hid hkB
  clear hs hf hlA hlB hDA hDB hpr hkA hkB
  simp only [Int.toNat_natCast] at hx
  have Hbx := Lib.hid hx
  clear hx
  have Hf := Lib.hid (show fitOk AP c AP c = true by simp [fitOk])
  have HdA := Lib.hid hdA
  obtain ⟨pA, kA, rfl, ⟨_, mA⟩, _⟩ := hdA
  unfold maxLen at mA
  have HdB := Lib.hid hdB
  obtain ⟨pB, kB, rfl, ⟨_, mB⟩, _⟩ := hdB
  unfold maxLen at mB
  have HdS := Lib.hid hdS
  obtain ⟨pS, kS, rfl, ⟨_, mS⟩, _⟩ := hdS
  unfold maxLen at mS
  obtain ⟨z0, z1⟩ := boxes_ab w (.cells #[.int .i64 AP, .int .i64 (r : Int), .int .i64 (c : Int), .slice pA DA.length kA] 34) (.cells #[.int .i64 AP, .int .i64 (c : Int), .int .i64 (c : Int), .slice pB DB.length kB] 34)
  have ZA1 := Lib.hid z0
  have ZB1 := Lib.hid z1
  clear z0 z1
  have HB1 := Lib.hid (below_alloc2 w (.cells #[.int .i64 AP, .int .i64 (r : Int), .int .i64 (c : Int), .slice pA DA.length kA] 34) (.cells #[.int .i64 AP, .int .i64 (c : Int), .int .i64 (c : Int), .slice pB DB.length kB] 34))
  go_enter Try.func29, Try.ntmps29
  go_wp2_with fail
  have hs1 : ((w.alloc (.cells #[.int .i64 AP, .int .i64 (r : Int), .int .i64 (c : Int), .slice pA DA.length kA] 34)).alloc (.cells #[.int .i64 AP, .int .i64 (c : Int), .int .i64 (c : Int), .slice pB DB.length kB] 34)).heap.size = w.heap.size + 1 + 1 := by simp
  generalize (w.alloc (.cells #[.int .i64 AP, .int .i64 (r : Int), .int .i64 (c : Int), .slice pA DA.length kA] 34)).alloc (.cells #[.int .i64 AP, .int .i64 (c : Int), .int .i64 (c : Int), .slice pB DB.length kB] 34) = w1 at *
  obtain ⟨cA0, cA1, cA2, cA3, cAf, cAz⟩ := blk4 ZA1.out
  go_wp2_with fail
  refine (implIsSpace_yes _ _ _ _ _ Hka.out _ (HdA.out.below HB1.out)).mono ?_
  rintro e w2 ⟨rfl, hb⟩
  have hs2 := hb.size
  have HB2 := Lib.hid (HB1.out.trans (hb.mono HB1.out.size))
  have ZA2 := Lib.hid (blk_later ZA1.out hb)
  have ZB2 := Lib.hid (blk_later ZB1.out hb)
  clear hb ZA1 ZB1
  clear cA0 cA1 cA2 cA3 cAf cAz
  obtain ⟨cB0, cB1, cB2, cB3, cBf, cBz⟩ := blk4 ZB2.out
  go_wp2_with fail
  refine (implFlag_yes _ _ _ _ _ Hkb.out _ (HdB.out.below HB2.out)).mono ?_
  rintro e w3 ⟨rfl, hb⟩
  have hs3 := hb.size
  have HB3 := Lib.hid (HB2.out.trans (hb.mono HB2.out.size))
  have ZA3 := Lib.hid (blk_later ZA2.out hb)
  have ZB3 := Lib.hid (blk_later ZB2.out hb)
  clear hb ZA2 ZB2
  clear cB0 cB1 cB2 cB3 cBf cBz
  obtain ⟨cA0, cA1, cA2, cA3, cAf, cAz⟩ := blk4 ZA3.out
  obtain ⟨cB0, cB1, cB2, cB3, cBf, cBz⟩ := blk4 ZB3.out
  go_wp2_with fail
  refine (fitTogether_any _ _ _ _ _ _ _ _ DA DB _ (HdA.out.below HB3.out) (HdB.out.below HB3.out)).mono ?_
  rintro e w4 ⟨rfl, hb⟩
  have hs4 := hb.size
  have HB4 := Lib.hid (HB3.out.trans (hb.mono HB3.out.size))
  have ZA4 := Lib.hid (blk_later ZA3.out hb)
  have ZB4 := Lib.hid (blk_later ZB3.out hb)
  clear hb ZA3 ZB3
  clear cA0 cA1 cA2 cA3 cAf cAz cB0 cB1 cB2 cB3 cBf cBz
  rw [Hf.out]
  obtain ⟨cA0, cA1, cA2, cA3, cAf, cAz⟩ := blk4 ZA4.out
  go_wp2_with fail
  refine (IsInBox_any _ DS r c _ (HdS.out.below HB4.out) hrc hc0 hc).mono ?_
  rintro e w5 ⟨rfl, hq⟩
  have hb := hq.below w4.heap.size
  clear hq
  have hs5 := hb.size
  have HB5 := Lib.hid (HB4.out.trans (hb.mono HB4.out.size))
  have ZA5 := Lib.hid (blk_later ZA4.out hb)
  have ZB5 := Lib.hid (blk_later ZB4.out hb)
  clear hb ZA4 ZB4
  clear cA0 cA1 cA2 cA3 cAf cAz
  rw [Hbx.out]
  go_wp2_with fail
  go_ret
  exact ⟨_, rfl, rfl, HB5.out⟩

set_option maxRecDepth 100000 in
set_option maxHeartbeats 16000000 in
theorem implMf_yes (AP AR AC BP BR BC : Int) (dA dB dS : Value) (DA DB DS : List Int) (w : World) (hdA : Ints w dA DA) (hdB : Ints w dB DB) (hdS : Ints w dS DS) (h : SfIs AP AR AC DA BP BR BC DB) (hx : bxOk DS AR.toNat AC.toNat = true) :
    Calls Try.prog 29 #[.agg #[.int .i64 AP, .int .i64 AR, .int .i64 AC, dA], .agg #[.int .i64 BP, .int .i64 BR, .int .i64 BC, dB], dS] w fun e w' => ∃ b, e = .returned (.bool b) ∧ (b = true ↔ MfUp AP AR.toNat AC.toNat (mf AC.toNat fun t => DA.getD t 0) (mf AC.toNat fun t => DB.getD t 0) DS AR.toNat) ∧ Below w.heap.size w w' := by
  obtain ⟨hs, hf, hPe, hCe⟩ := h
  subst hPe hCe
  obtain ⟨r, c, rfl, rfl, hr, hc0, hc, hlA, hDA, hP2, hP7, hpr, hkA⟩ := hs.facts
  obtain ⟨n, rfl, e2, _, _, hlB, hDB, _, _, _, hkB⟩ := hf.facts
  obtain rfl := Int.ofNat.inj e2
  clear e2
  have hrc : r ≤ c := hkA.leC
  have Hka := Lib.hid hs
  have Hkb := Lib.hid hf
  have HgA := Lib.hid (fun t => getD_range hDA (by omega) t)
  have HgB := Lib.hid (fun t => getD_range hDB (by omega) t)
  have HlA := Lib.hid hlA
  have HlB := Lib.hid hlB
  have Hpr := Lib.hid hpr
  have HkA := Lib.hid hkA
  have HkB := Lib.hid hkB
  clear hs hf hlA hlB hDA hDB hpr hkA hkB
  simp only [Int.toNat_natCast] at hx ⊢
  have Hbx := Lib.hid hx
  have Hbf := Lib.hid (bx_facts hx hrc)
  clear hx
  have Hf := Lib.hid (show fitOk AP c AP c = true by simp [fitOk])
  have HdA := Lib.hid hdA
  obtain ⟨pA, kA, rfl, ⟨_, mA⟩, _⟩ := hdA
  unfold maxLen at mA
  have HdB := Lib.hid hdB
  obtain ⟨pB, kB, rfl, ⟨_, mB⟩, _⟩ := hdB
  unfold maxLen at mB
  have HdS := Lib.hid hdS
  obtain ⟨pS, kS, rfl, ⟨_, mS⟩, _⟩ := hdS
  unfold maxLen at mS
  obtain ⟨z0, z1⟩ := boxes_ab w (.cells #[.int .i64 AP, .int .i64 (r : Int), .int .i64 (c : Int), .slice pA DA.length kA] 34) (.cells #[.int .i64 AP, .int .i64 (c : Int), .int .i64 (c : Int), .slice pB DB.length kB] 34)
  have ZA1 := Lib.hid z0
  have ZB1 := Lib.hid z1
  clear z0 z1
  have HB1 := Lib.hid (below_alloc2 w (.cells #[.int .i64 AP, .int .i64 (r : Int), .int .i64 (c : Int), .slice pA DA.length kA] 34) (.cells #[.int .i64 AP, .int .i64 (c : Int), .int .i64 (c : Int), .slice pB DB.length kB] 34))
  go_enter Try.func29, Try.ntmps29
  go_wp2_with fail
  have hs1 : ((w.alloc (.cells #[.int .i64 AP, .int .i64 (r : Int), .int .i64 (c : Int), .slice pA DA.length kA] 34)).alloc (.cells #[.int .i64 AP, .int .i64 (c : Int), .int .i64 (c : Int), .slice pB DB.length kB] 34)).heap.size = w.heap.size + 1 + 1 := by simp
  generalize (w.alloc (.cells #[.int .i64 AP, .int .i64 (r : Int), .int .i64 (c : Int), .slice pA DA.length kA] 34)).alloc (.cells #[.int .i64 AP, .int .i64 (c : Int), .int .i64 (c : Int), .slice pB DB.length kB] 34) = w1 at *
  obtain ⟨cA0, cA1, cA2, cA3, cAf, cAz⟩ := blk4 ZA1.out
  go_wp2_with fail
  refine (implIsSpace_yes _ _ _ _ _ Hka.out _ (HdA.out.below HB1.out)).mono ?_
  rintro e w2 ⟨rfl, hb⟩
  have hs2 := hb.size
  have HB2 := Lib.hid (HB1.out.trans (hb.mono HB1.out.size))
  have ZA2 := Lib.hid (blk_later ZA1.out hb)
  have ZB2 := Lib.hid (blk_later ZB1.out hb)
  clear hb ZA1 ZB1
  clear cA0 cA1 cA2 cA3 cAf cAz
  obtain ⟨cB0, cB1, cB2, cB3, cBf, cBz⟩ := blk4 ZB2.out
  go_wp2_with fail
  refine (implFlag_yes _ _ _ _ _ Hkb.out _ (HdB.out.below HB2.out)).mono ?_
  rintro e w3 ⟨rfl, hb⟩
  have hs3 := hb.size
  have HB3 := Lib.hid (HB2.out.trans (hb.mono HB2.out.size))
  have ZA3 := Lib.hid (blk_later ZA2.out hb)
  have ZB3 := Lib.hid (blk_later ZB2.out hb)
  clear hb ZA2 ZB2
  clear cB0 cB1 cB2 cB3 cBf cBz
  obtain ⟨cA0, cA1, cA2, cA3, cAf, cAz⟩ := blk4 ZA3.out
  obtain ⟨cB0, cB1, cB2, cB3, cBf, cBz⟩ := blk4 ZB3.out
  go_wp2_with fail
  refine (fitTogether_any _ _ _ _ _ _ _ _ DA DB _ (HdA.out.below HB3.out) (HdB.out.below HB3.out)).mono ?_
  rintro e w4 ⟨rfl, hb⟩
  have hs4 := hb.size
  have HB4 := Lib.hid (HB3.out.trans (hb.mono HB3.out.size))
  have ZA4 := Lib.hid (blk_later ZA3.out hb)
  have ZB4 := Lib.hid (blk_later ZB3.out hb)
  clear hb ZA3 ZB3
  clear cA0 cA1 cA2 cA3 cAf cAz cB0 cB1 cB2 cB3 cBf cBz
  rw [Hf.out]
  obtain ⟨cA0, cA1, cA2, cA3, cAf, cAz⟩ := blk4 ZA4.out
  go_wp2_with fail
  refine (IsInBox_any _ DS r c _ (HdS.out.below HB4.out) hrc hc0 hc).mono ?_
  rintro e w5 ⟨rfl, hq⟩
  have hb := hq.below w4.heap.size
  clear hq
  have hs5 := hb.size
  have HB5 := Lib.hid (HB4.out.trans (hb.mono HB4.out.size))
  have ZA5 := Lib.hid (blk_later ZA4.out hb)
  have ZB5 := Lib.hid (blk_later ZB4.out hb)
  clear hb ZA4 ZB4
  clear cA0 cA1 cA2 cA3 cAf cAz
  rw [Hbx.out]
  have HS0 : Hid (S2 w AP (r : Int) (c : Int) (.slice pA DA.length kA) AP (c : Int) (c : Int) (.slice pB DB.length kB) w5) := Lib.hid (S2.of_blk ZA5.out ZB5.out HB5.out)
  clear ZA5 ZB5
  go_wp2_with fail
  obtain ⟨⟨cA0, cA1, cA2, cA3, cB0, cB1, cB2, cB3⟩, hBw⟩ := HS0.out
  go_region_held3 (fun w' => (w'.cell? ⟨w.heap.size, 0, none⟩ = some (.int .i64 AP) ∧ w'.cell? ⟨w.heap.size, 1, none⟩ = some (.int .i64 (r : Int)) ∧ w'.cell? ⟨w.heap.size, 2, none⟩ = some (.int .i64 (c : Int)) ∧ w'.cell? ⟨w.heap.size, 3, none⟩ = some (.slice pA DA.length kA) ∧ w'.cell? ⟨w.heap.size + 1, 0, none⟩ = some (.int .i64 AP) ∧ w'.cell? ⟨w.heap.size + 1, 1, none⟩ = some (.int .i64 (c : Int)) ∧ w'.cell? ⟨w.heap.size + 1, 2, none⟩ = some (.int .i64 (c : Int)) ∧ w'.cell? ⟨w.heap.size + 1, 3, none⟩ = some (.slice pB DB.length kB)) ∧ Below w.heap.size w w')
    (first | exact ⟨⟨cA0, cA1, cA2, cA3, cB0, cB1, cB2, cB3⟩, hBw.drew⟩ | exact keep8 hb1 (by assumption))
    (first
      | (go_at_call_of 41 (Value.slice pA DA.length kA); refine (lines_any AP r c _ DA _ (held_ints HdA.out (by assumption)) (by omega) (by omega) hc0 HlA.out).mono ?_; rintro e w' ⟨u, rfl, ho, hb1⟩; have hrA := ho.rd; clear ho; obtain ⟨qA, gA, rfl, hgA1, hgA2⟩ := hrA.shapeR (rowsOf_length _ _ _))
      | (go_at_call_of 41 (Value.slice pB DB.length kB); refine (lines_any AP c c _ DB _ (held_ints HdB.out (by assumption)) (by omega) (by omega) hc0 HlB.out).mono ?_; rintro e w' ⟨u, rfl, ho, hb1⟩; have hrB := ho.rd; clear ho; obtain ⟨qB, gB, rfl, hgB1, hgB2⟩ := hrB.shapeR (rowsOf_length _ _ _); have hrA := (RdII.below hrA (by first | exact Below.refl _ _ | exact (Below.refl _ _).drew)).below hb1))
  have hS1 : S2 w AP (r : Int) (c : Int) (.slice pA DA.length kA) AP (c : Int) (c : Int) (.slice pB DB.length kB) _ := (by assumption)
  obtain ⟨wk, rfl⟩ : ∃ x : World, x = w' := ⟨_, rfl⟩
  unfold maxLen at hgA2 hgB2
  have HRA := Lib.hid hrA
  have HRB := Lib.hid hrB
  have HS1 := Lib.hid hS1
  clear hrA hrB hS1 hb1 cA0 cA1 cA2 cA3 cB0 cB1 cB2 cB3 hBw
  obtain ⟨⟨cA0, cA1, cA2, cA3, cB0, cB1, cB2, cB3⟩, hBw⟩ := HS1.out
  go_wp2_with fail
  clear cA0 cA1 cA2 cA3 cB0 cB1 cB2 cB3 hBw
  go_loopg [9, 39] r (fun g s9 s39 wr => ∃ i : Nat, i ≤ r ∧ g = r - i ∧ s39 = .int .i64 i ∧ Hid (S2 w AP (r : Int) (c : Int) (.slice pA DA.length kA) AP (c : Int) (c : Int) (.slice pB DB.length kB) wr) ∧ Hid (MfUp AP r c (mf c fun t => DA.getD t 0) (mf c fun t => DB.getD t 0) DS i) ∧ Hid (Below wk.heap.size wk wr))
  case atStart => exact ⟨0, Nat.zero_le _, rfl, rfl, HS1.out, fun i hi => absurd hi (Nat.not_lt_zero _), Below.refl _ _⟩
  case round =>
    obtain ⟨i, hi, rfl, rfl, hS, hup, hbk⟩ := hrel
    obtain ⟨wj, rfl⟩ : ∃ x : World, x = wr := ⟨_, rfl⟩
    obtain ⟨⟨cA0, cA1, cA2, cA3, cB0, cB1, cB2, cB3⟩, hBw⟩ := hS.out
    by_cases hir : i < r
    · have hir2 : (i : Int) < (r : Int) := by omega
      obtain ⟨s, hs0⟩ : ∃ s, s = DS.getD i 0 := ⟨_, rfl⟩
      have hsb := Hbf.out i hir
      rw [← hs0] at hsb
      obtain ⟨hsb0, hsb1⟩ := hsb
      obtain ⟨jj, hjj⟩ : ∃ jj, jj = mfJ DS r c i := ⟨_, rfl⟩
      have hjv : (jj : Int) = (c : Int) - (r : Int) + (i : Int) + 1 - s := by rw [hjj]; unfold mfJ; rw [← hs0]; omega
      have hjc : jj ≤ c := by omega
      have Hi6 := Lib.hid (show i ≤ 1000000 by omega)
      have Hjj := Lib.hid hjj
      have Hs0 := Lib.hid hs0
      have Hw1 := Lib.hid (show IntKind.i64.wrap ((c : Int) - (r : Int)) = (c : Int) - (r : Int) from k64 (by omega) (by omega))
      have Hw2 := Lib.hid (show IntKind.i64.wrap ((c : Int) - (r : Int) + (i : Int)) = (c : Int) - (r : Int) + (i : Int) from k64 (by omega) (by omega))
      have Hw3 := Lib.hid (show IntKind.i64.wrap ((c : Int) - (r : Int) + (i : Int) + 1) = (c : Int) - (r : Int) + (i : Int) + 1 from k64 (by omega) (by omega))
      have Hw4 := Lib.hid (show IntKind.i64.wrap ((c : Int) - (r : Int) + (i : Int) + 1 - s) = (jj : Int) by rw [hjv]; exact k64 (by omega) (by omega))
      have Hw5 := Lib.hid (show IntKind.i64.wrap ((i : Int) + 1) = (i : Int) + 1 from k64 (by omega) (by omega))
      clear hjj hs0 hjv
      have HRAj := Lib.hid (HRA.out.below hbk.out)
      have HRBj := Lib.hid (HRB.out.below hbk.out)
      have hj0 : (0 : Int) ≤ (jj : Int) := by omega
      have hj3 : (jj : Int) ≤ (gB : Int) := by omega
      have hj5 : jj ≤ gB := by omega
      go_wp2_with fail
      have hw1 := Hw1.out
      have hw2 := Hw2.out
      have hw3 := Hw3.out
      have hw4 := Hw4.out
      have hw5 := Hw5.out
      go_region_held3 (fun w' => (w'.cell? ⟨w.heap.size, 0, none⟩ = some (.int .i64 AP) ∧ w'.cell? ⟨w.heap.size, 1, none⟩ = some (.int .i64 (r : Int)) ∧ w'.cell? ⟨w.heap.size, 2, none⟩ = some (.int .i64 (c : Int)) ∧ w'.cell? ⟨w.heap.size, 3, none⟩ = some (.slice pA DA.length kA) ∧ w'.cell? ⟨w.heap.size + 1, 0, none⟩ = some (.int .i64 AP) ∧ w'.cell? ⟨w.heap.size + 1, 1, none⟩ = some (.int .i64 (c : Int)) ∧ w'.cell? ⟨w.heap.size + 1, 2, none⟩ = some (.int .i64 (c : Int)) ∧ w'.cell? ⟨w.heap.size + 1, 3, none⟩ = some (.slice pB DB.length kB)) ∧ Below w.heap.size w w')
        (first | exact ⟨⟨cA0, cA1, cA2, cA3, cB0, cB1, cB2, cB3⟩, hBw.drew⟩ | exact keep8 hb1 (by assumption))
        (first
          | (go_at_call 63; refine (rowOf_s _ DS i s Hs0.out Hi6.out _ (held_ints HdS.out (by assumption))).mono ?_; rintro e w' ⟨rfl, hb1⟩; have hbz : Below wj.heap.size wj w' := (by first | exact below_trans hbz hb1 | exact below_trans hbz (below_of_drew hb1) | exact hb1 | exact below_of_drew hb1))
          | (go_at_call 60; refine (common_b AP r c c r jj _ _ DA DB _ (HRAj.out.below (by first | exact hbz | exact hbz.drew | exact Below.refl _ _ | exact (Below.refl _ _).drew)) (by rw [← rowsOf_take (R := c) hjc]; exact RdII.take (HRBj.out.below (by first | exact hbz | exact hbz.drew | exact Below.refl _ _ | exact (Below.refl _ _).drew)) (by rw [rowsOf_length]; exact hjc)) HlA.out HlB.out hr hc hc (Nat.le_refl _) hjc HgA.out HgB.out Hpr.out).mono ?_; rintro e w' ⟨ma, rfl, hma, hma1, hma2, hb1⟩; have hbz : Below wj.heap.size wj w' := (by first | exact below_trans hbz hb1 | exact below_trans hbz (below_of_drew hb1) | exact hb1 | exact below_of_drew hb1)))
      have hS2 : S2 w AP (r : Int) (c : Int) (.slice pA DA.length kA) AP (c : Int) (c : Int) (.slice pB DB.length kB) _ := (by assumption)
      obtain ⟨wn, rfl⟩ : ∃ x : World, x = w' := ⟨_, rfl⟩
      have HS2 := Lib.hid hS2
      have Hbz := Lib.hid hbz
      rw [Hjj.out] at hma
      have Hma := Lib.hid hma
      clear hS2 hbz hb1 hma hw1 hw2 hw3 hw4 hw5 cA0 cA1 cA2 cA3 cB0 cB1 cB2 cB3 hBw
      by_cases hlt : ma < (i : Int) + 1
      · go_wp2_with fail
        go_ret
        exact ⟨_, rfl, ⟨fun e => (by cases e), fun e => absurd e (mf_out hP2 hir Hma.out hlt)⟩, HS2.out.2⟩
      · go_wp2_with fail
        go_roundg (r - (i + 1))
        case measure => omega
        case rel => exact ⟨i + 1, hir, rfl, by go_num, HS2.out, hup.out.snoc hP2 Hma.out (by omega), hbk.out.trans (Hbz.out.mono hbk.out.size)⟩
    · obtain rfl : i = r := by omega
      go_wp2_with fail
      go_ret
      exact ⟨_, rfl, ⟨fun _ => hup.out, fun _ => rfl⟩, hBw⟩

theorem implMf_ex (AP AR AC BP BR BC : Int) (dA dB dS : Value) (DA DB DS : List Int) (w : World) (hdA : Ints w dA DA) (hdB : Ints w dB DB) (hdS : Ints w dS DS) :
    Calls Try.prog 29 #[.agg #[.int .i64 AP, .int .i64 AR, .int .i64 AC, dA], .agg #[.int .i64 BP, .int .i64 BR, .int .i64 BC, dB], dS] w fun e w' => ∃ b, e = .returned (.bool b) ∧ MfIs AP AR AC DA BP BR BC DB DS b ∧ Below w.heap.size w w' := by
  by_cases h : SfIs AP AR AC DA BP BR BC DB
  · cases hx : bxOk DS AR.toNat AC.toNat with
    | false => exact (implMf_no5 AP AR AC BP BR BC dA dB dS DA DB DS w hdA hdB hdS h hx).mono fun e w' ⟨b, r1, r2, r3⟩ => ⟨b, r1, (by subst r2; exact ⟨fun e => (by cases e), fun e => (by rw [hx] at e; cases e.2.1)⟩), r3⟩
    | true => exact (implMf_yes AP AR AC BP BR BC dA dB dS DA DB DS w hdA hdB hdS h hx).mono fun e w' ⟨b, r1, r2, r3⟩ => ⟨b, r1, ⟨fun e => ⟨h, hx, r2.1 e⟩, fun e => r2.2 e.2.2⟩, r3⟩
  have no : ∀ b, b = false → MfIs AP AR AC DA BP BR BC DB DS b := fun b hb => by
    subst hb
    exact ⟨fun e => (by cases e), fun e => absurd e.1 h⟩
  rcases Classical.em (IsSp AP AR AC DA) with ha | ha
  · rcases Classical.em (IsFl BP BR BC DB) with hb | hb
    ·
      refine (implMf_no3 AP AR AC BP BR BC dA dB dS DA DB DS w hdA hdB hdS ha hb ?_).mono fun e w' ⟨b, r1, r2, r3⟩ => ⟨b, r1, no b r2, r3⟩
      cases hf : fitOk AP AC BP BC with
      | false => rfl
      | true =>
        simp [fitOk] at hf
        exact absurd ⟨ha, hb, hf.1, hf.2⟩ h
    · exact (implMf_no2 AP AR AC BP BR BC dA dB dS DA DB DS w hdA hdB hdS ha hb).mono fun e w' ⟨b, r1, r2, r3⟩ => ⟨b, r1, no b r2, r3⟩
  · exact (implMf_no1 AP AR AC BP BR BC dA dB dS DA DB DS w hdA hdB hdS ha).mono fun e w' ⟨b, r1, r2, r3⟩ => ⟨b, r1, no b r2, r3⟩
theorem implMf_any (AP AR AC BP BR BC : Int) (dA dB dS : Value) (DA DB DS : List Int) (w : World) (hdA : Ints w dA DA) (hdB : Ints w dB DB) (hdS : Ints w dS DS) :
    Calls Try.prog 29 #[.agg #[.int .i64 AP, .int .i64 AR, .int .i64 AC, dA], .agg #[.int .i64 BP, .int .i64 BR, .int .i64 BC, dB], dS] w fun e w' => e = .returned (.bool (Classical.epsilon (MfIs AP AR AC DA BP BR BC DB DS))) ∧ Below w.heap.size w w' :=
  (implMf_ex AP AR AC BP BR BC dA dB dS DA DB DS w hdA hdB hdS).mono fun e w' ⟨b, h1, h2, h3⟩ => ⟨by rw [h1, h2.eps], h3⟩


end Go.Proofs.Ytoodgbflaaabmaa

namespace Go.Proofs.Ytoodgbflaaabmaa
set_option linter.all false
open Go.RowKit

/-- two flags that lie in one -/
def FfIs (P R C : Int) (D : List Int) (P' R' C' : Int) (D' : List Int) : Prop := IsFl P R C D ∧ IsFl P' R' C' D' ∧ P = P' ∧ C = C'
/-- the column at which row i of one comes in -/
def RpAt (P : Int) (C : Nat) (A B : Nat → Nat → Int) (i : Nat) (x : Int) : Prop :=
  ∃ j : Nat, x = j ∧ j < C ∧ (∃ a b, CmIs P C A (i + 1) B (j + 1) a ∧ CmIs P C A i B (j + 1) b ∧ a ≠ b) ∧ ∀ k, k < j → ∀ a b, CmIs P C A (i + 1) B (k + 1) a → CmIs P C A i B (k + 1) b → a = b
theorem CmIs.ex {P : Int} {C i j : Nat} {A B : Nat → Nat → Int} (hp : primeOk P = true) (ha : ∀ t c, t < i → c < C → 0 ≤ A t c ∧ A t c < P) (hb : ∀ t c, t < j → c < C → 0 ≤ B t c ∧ B t c < P) : ∃ m, CmIs P C A i B j m := by
  obtain ⟨f, _, h, _⟩ := ranks_ex hp (i + j) (stackM_rng ha hb)
  exact ⟨_, f (i + j), h _ (Nat.le_refl _), rfl⟩
theorem RpAt.one {P : Int} {C i : Nat} {A B : Nat → Nat → Int} {x x' : Int} (h : RpAt P C A B i x) (h' : RpAt P C A B i x') : x = x' := by
  obtain ⟨j, rfl, hj, ⟨a, b, h1, h2, h3⟩, h4⟩ := h
  obtain ⟨j', rfl, hj', ⟨a', b', h1', h2', h3'⟩, h4'⟩ := h'
  rcases Nat.lt_trichotomy j j' with h | h | h
  · exact absurd (h4' j h a b h1 h2) h3
  · rw [h]
  · exact absurd (h4 j' h a' b' h1' h2') h3'
/-- a row more: the dimension is the same or one more -/
theorem CmIs.step {P : Int} {C i j : Nat} {A B : Nat → Nat → Int} {a b : Int} (hp : primeOk P = true) (ha : ∀ c, c < C → 0 ≤ A i c ∧ A i c < P) (h : CmIs P C A (i + 1) B j a) (h' : CmIs P C A i B j b) : a = b ∨ a = b + 1 := by
  obtain ⟨k, h1, rfl⟩ := h
  obtain ⟨k', h1', rfl⟩ := h'
  rcases stack_step hp ha h1' h1 with e | e
  · right; omega
  · left; omega
theorem HasRank.stackB {P : Int} {C : Nat} {A B : Nat → Nat → Int} (hp : primeOk P = true) (ha : ∀ t c, c < C → 0 ≤ A t c ∧ A t c < P) (hb : ∀ t c, c < C → 0 ≤ B t c ∧ B t c < P) (h : HasRank P C C B C) :
    ∀ i k, HasRank P C (i + C) (stackM i A B) k → C ≤ k
  | 0, k, hk => by
    have h2 : HasRank P C C B k := by
      rw [Nat.zero_add] at hk
      exact hk.congr fun t c _ _ => by rw [stackM_ge (Nat.not_lt_zero _)]; rfl
    exact Nat.le_of_eq (h.one (primeOk_range hp).1 h2)
  | i + 1, k, hk => by
    obtain ⟨m, k0, h0, _⟩ := CmIs.ex (i := i) (j := C) hp (fun t c _ hc => ha t c hc) (fun t c _ hc => hb t c hc)
    have := HasRank.stackB hp ha hb h i k0 h0
    rcases stack_step hp (fun c hc => ha i c hc) h0 hk with e | e <;> omega
/-- at the last column the dimensions differ -/
theorem CmIs.last {P : Int} {C i : Nat} {A B : Nat → Nat → Int} {a b : Int} (hp : primeOk P = true) (ha : ∀ t c, c < C → 0 ≤ A t c ∧ A t c < P) (hb : ∀ t c, c < C → 0 ≤ B t c ∧ B t c < P) (h : HasRank P C C B C)
    (h1 : CmIs P C A (i + 1) B C a) (h2 : CmIs P C A i B C b) : a ≠ b := by
  obtain ⟨k, k1, rfl⟩ := h1
  obtain ⟨k', k1', rfl⟩ := h2
  have e1 := HasRank.stackB hp ha hb h _ _ k1
  have e2 := HasRank.stackB hp ha hb h _ _ k1'
  have e3 := k1.leC
  have e4 := k1'.leC
  omega
theorem mf_rng {P : Int} {C : Nat} {D : List Int} (h : ∀ t, 0 ≤ D.getD t 0 ∧ D.getD t 0 < P) : ∀ t c, c < C → 0 ≤ mf C (fun t => D.getD t 0) t c ∧ mf C (fun t => D.getD t 0) t c < P := fun t c _ => h _

def RpUp (P : Int) (C : Nat) (A B : Nat → Nat → Int) (l : List Int) : Prop := ∀ i, i < l.length → RpAt P C A B i (l.getD i 0)
/-- what RelativePosition returns -/
def RpIs (P R C : Int) (D : List Int) (P' R' C' : Int) (D' : List Int) (l : List Int) : Prop :=
  (FfIs P R C D P' R' C' D' ∧ l.length = C.toNat ∧ RpUp P C.toNat (mf C.toNat fun t => D.getD t 0) (mf C.toNat fun t => D'.getD t 0) l) ∨ (¬ FfIs P R C D P' R' C' D' ∧ l = [])
theorem RpIs.one {P R C : Int} {D : List Int} {P' R' C' : Int} {D' : List Int} (l l' : List Int) (h : RpIs P R C D P' R' C' D' l) (h' : RpIs P R C D P' R' C' D' l') : l = l' := by
  rcases h with ⟨t, h1, h2⟩ | ⟨t, rfl⟩
  · rcases h' with ⟨_, h1', h2'⟩ | ⟨t', _⟩
    · exact getD_eq_list (by rw [h1, h1']) fun j hj => (h2 j (by omega)).one (h2' j (by omega))
    · exact absurd t t'
  · rcases h' with ⟨t', _⟩ | ⟨_, rfl⟩
    · exact absurd t' t
    · rfl
theorem RpIs.len {P R C : Int} {D : List Int} {P' R' C' : Int} {D' : List Int} (l : List Int) (h : RpIs P R C D P' R' C' D' l) : l.length ≤ 1000 := by
  rcases h with ⟨t, h1, h2⟩ | ⟨t, rfl⟩
  · obtain ⟨r, c, _, rfl, _, _, hc, _⟩ := mxOk_facts t.1.1
    rw [h1]; simp; omega
  · simp
theorem rel_len (P R C : Int) (D : List Int) (P' R' C' : Int) (D' : List Int) : (Classical.epsilon (LsQ (RpIs P R C D P' R' C' D'))).length ≤ 1000 := LsQ.len RpIs.len
theorem RpUp.snoc {P : Int} {C i : Nat} {A B : Nat → Nat → Int} {l : List Int} {x : Int} (h : RpUp P C A B l) (hl : l.length = i) (h1 : RpAt P C A B i x) : RpUp P C A B (l ++ [x]) := fun t ht => by
  rw [List.length_append, List.length_singleton] at ht
  by_cases e : t < l.length
  · rw [show (l ++ [x]).getD t 0 = l.getD t 0 by simp [List.getD_eq_getElem?_getD, List.getElem?_append_left e]]
    exact h t e
  · obtain rfl : t = i := by omega
    subst hl
    rw [show (l ++ [x]).getD l.length 0 = x by simp [List.getD_eq_getElem?_getD]]
    exact h1


end Go.Proofs.Ytoodgbflaaabmaa

namespace Go.Proofs.Ytoodgbflaaabmaa
set_option linter.all false
open Go.RowKit

/-- a slice that can be read: n elements of so many cells each -/
def RdS (w : World) (size : Nat) (v : Value) (n : Nat) (F : Nat → Nat → Value) : Prop :=
  ∃ p cap, v = .slice p n cap ∧ (n ≤ cap ∧ cap ≤ maxLen) ∧ (0 < n → ∃ b, p = some ⟨b, 0, none⟩ ∧ ∀ i, i < n → ∀ j, j < size → w.cell? ⟨b, i * size + j, none⟩ = some (F i j))
theorem RdS.of_cells {w w' : World} {size : Nat} {v : Value} {n : Nat} {F : Nat → Nat → Value} (h : RdS w size v n F) (hc : ∀ a x, w.cell? a = some x → w'.cell? a = some x) : RdS w' size v n F := by
  obtain ⟨p, cap, rfl, hm, h⟩ := h
  refine ⟨p, cap, rfl, hm, fun h0 => ?_⟩
  obtain ⟨b, hp, hx⟩ := h h0
  exact ⟨b, hp, fun i hi j hj => hc _ _ (hx i hi j hj)⟩
theorem RdS.below {w w' : World} {size : Nat} {v : Value} {n : Nat} {F : Nat → Nat → Value} (h : RdS w size v n F) (hb : Below w.heap.size w w') : RdS w' size v n F :=
  h.of_cells fun a x hx => by rw [hb.cell (World.block_lt_of_cell? w a hx)]; exact hx
theorem RdS.qt {w w' : World} {size : Nat} {v : Value} {n : Nat} {F : Nat → Nat → Value} (h : RdS w size v n F) (q : Qt w w') : RdS w' size v n F := h.of_cells fun _ _ hx => q.cell hx
theorem RdS.congr {w : World} {size : Nat} {v : Value} {n : Nat} {F G : Nat → Nat → Value} (h : RdS w size v n F) (e : ∀ i, i < n → ∀ j, j < size → F i j = G i j) : RdS w size v n G := by
  obtain ⟨p, cap, rfl, hm, h⟩ := h
  refine ⟨p, cap, rfl, hm, fun h0 => ?_⟩
  obtain ⟨b, hp, hx⟩ := h h0
  exact ⟨b, hp, fun i hi j hj => by rw [← e i hi j hj]; exact hx i hi j hj⟩

/-- a slice of structs that a call made -/
def OwnS (w : World) (lo hi : Nat) (T : TypeId) (size : Nat) (v : Value) (n : Nat) (F : Nat → Nat → Value) : Prop :=
  ∃ xs, Own w lo hi T size v n xs ∧ ∀ i, i < n → ∀ j, j < size → xs[i * size + j]? = some (F i j)

namespace OwnS
variable {w w' : World} {lo hi : Nat} {T : TypeId} {size : Nat} {v : Value} {n : Nat} {F : Nat → Nat → Value}
theorem rd (h : OwnS w lo hi T size v n F) : RdS w size v n F := by
  obtain ⟨xs, h, hf⟩ := h
  rcases h.1.2 with ⟨rfl, e⟩ | ⟨g, cap, cur, rfl, _, _, hm, hm2, _⟩
  · exact ⟨none, 0, by rw [e], ⟨by omega, Nat.zero_le _⟩, fun h0 => absurd h0 (by omega)⟩
  · refine ⟨_, cap, rfl, ⟨hm, hm2⟩, fun _ => ⟨g, rfl, fun i hi j hj => ?_⟩⟩
    have hadd : ∀ j, (⟨g, 0, none⟩ : Addr).add j = ⟨g, 0 + j, none⟩ := fun j => by unfold Addr.add; split <;> simp_all
    have c1 := h.1.cells (g := g) rfl _ _ (hf i hi j hj)
    rw [hadd, Nat.zero_add] at c1
    exact c1
theorem shape (h : OwnS w lo hi T size v n F) : ∃ p cap, v = .slice p n cap ∧ n ≤ cap ∧ cap ≤ maxLen ∧ (0 < n → ∃ g, p = some ⟨g, 0, none⟩ ∧ lo ≤ g ∧ g < hi ∧ g < w.heap.size) := by
  obtain ⟨xs, h, hf⟩ := h
  have hb := fun k hk => h.block (k := k) hk
  rcases h.1.2 with ⟨rfl, e⟩ | ⟨g, cap, cur, rfl, _, _, hm, hm2, _⟩
  · exact ⟨none, 0, by rw [e], by omega, Nat.zero_le _, fun h0 => absurd h0 (by omega)⟩
  · exact ⟨_, cap, rfl, hm, hm2, fun _ => ⟨g, rfl, hb g rfl⟩⟩
theorem at_ {p : Option Addr} {cap : Nat} (h : OwnS w lo hi T size (.slice p n cap) n F) (h0 : 0 < n) : ∃ g, p = some ⟨g, 0, none⟩ ∧ lo ≤ g ∧ g < hi ∧ g < w.heap.size := by
  obtain ⟨q, c, e, _, _, h⟩ := h.shape
  injection e with e1 e2 e3
  subst e1
  exact h h0
theorem cell {g n' cap : Nat} (h : OwnS w lo hi T size (.slice (some ⟨g, 0, none⟩) n' cap) n F) {i j : Nat} (hi : i < n) (hj : j < size) : w.cell? ⟨g, i * size + j, none⟩ = some (F i j) := by
  obtain ⟨p, c, e, _, h⟩ := h.rd
  injection e with e1 _ _
  obtain ⟨b, e2, h⟩ := h (by omega)
  rw [← e1] at e2
  obtain rfl : g = b := by injection e2 with e2; injection e2
  exact h i hi j hj
theorem frozen {g n' cap : Nat} (h : OwnS w lo hi T size (.slice (some ⟨g, 0, none⟩) n' cap) n F) (j : Nat) : w.frozen? ⟨g, j, none⟩ = false := by
  obtain ⟨xs, h, _⟩ := h
  rcases h.1.2 with ⟨h', _⟩ | ⟨g', cap', cur, h', _, hg, _⟩
  · simp at h'
  · simp only [Value.slice.injEq, Option.some.injEq, Addr.mk.injEq, and_true, true_and] at h'
    obtain ⟨rfl, _, _⟩ := h'
    exact free_of_blk hg j
theorem congr {G : Nat → Nat → Value} (h : OwnS w lo hi T size v n F) (e : ∀ i, i < n → ∀ j, j < size → F i j = G i j) : OwnS w lo hi T size v n G := by
  obtain ⟨xs, h, hf⟩ := h
  exact ⟨xs, h, fun i hi j hj => by rw [← e i hi j hj]; exact hf i hi j hj⟩
theorem keep (h : OwnS w lo hi T size v n F) (hb : ∀ k, lo ≤ k → k < hi → k < w.heap.size → w'.heap[k]? = w.heap[k]?) : OwnS w' lo hi T size v n F := by
  obtain ⟨xs, h, hf⟩ := h
  exact ⟨xs, h.keep hb, hf⟩
theorem below (h : OwnS w lo hi T size v n F) (hb : Below w.heap.size w w') : OwnS w' lo hi T size v n F := h.keep fun k _ _ h3 => hb.block k h3
theorem frm {lo' hi' : Nat} (h : OwnS w lo hi T size v n F) (hb : Frm lo' hi' w w') (ho : hi ≤ lo' ∨ hi' ≤ lo) : OwnS w' lo hi T size v n F := h.keep fun k h1 h2 h3 => hb.block k h3 (by omega)
theorem mono {lo' hi' : Nat} (h : OwnS w lo hi T size v n F) (h1 : lo' ≤ lo) (h2 : hi ≤ hi') : OwnS w lo' hi' T size v n F := by
  obtain ⟨xs, h, hf⟩ := h
  exact ⟨xs, h.mono h1 h2, hf⟩
theorem besides {lo' hi' : Nat} (h : OwnS w lo hi T size v n F) (hf : Frm lo' hi' w w') (hne : ∀ b, v.ownBlock = some b → b < lo' ∨ hi' ≤ b) : OwnS w' lo hi T size v n F := by
  obtain ⟨xs, h, hx⟩ := h
  exact ⟨xs, ⟨ownsRow_of_block h.1 fun b hb => hf.block b (Own.block h hb).2.2 (hne b hb), h.2⟩, hx⟩
theorem blocks (h : OwnS w lo hi T size v n F) : ∀ k, v.ownBlock = some k → lo ≤ k ∧ k < hi := by
  obtain ⟨xs, h, _⟩ := h
  exact fun k hk => ⟨(h.block hk).1, (h.block hk).2.1⟩
theorem kind (h : OwnS w lo hi T size v n F) : ∀ g, v.ownBlock = some g → ∃ c fz, w.heap[g]? = some (.cells c T fz) := by
  obtain ⟨xs, h, _⟩ := h
  exact Lib.ownsRow_kind h.1
theorem setCell (h : OwnS w lo hi T size v n F) {a : Addr} (ho : a.block < lo ∨ hi ≤ a.block) (u : Value) : OwnS (w.setCell a u) lo hi T size v n F := by
  obtain ⟨xs, h, hf⟩ := h
  exact ⟨xs, h.setCell ho u, hf⟩
/-- a field of an element is written -/
theorem set {g n' cap : Nat} (h : OwnS w lo hi T size (.slice (some ⟨g, 0, none⟩) n' cap) n F) {i0 j0 : Nat} (hi0 : i0 < n) (hj0 : j0 < size) (u : Value) :
    OwnS (w.setCell ⟨g, i0 * size + j0, none⟩ u) lo hi T size (.slice (some ⟨g, 0, none⟩) n' cap) n (fun i j => if i = i0 ∧ j = j0 then u else F i j) := by
  obtain ⟨xs, h, hf⟩ := h
  have hle : ∀ i j, i < n → j < size → i * size + j < n * size := fun i j hi hj => by
    have : (i + 1) * size ≤ n * size := Nat.mul_le_mul_right _ hi
    rw [Nat.add_mul] at this; omega
  obtain ⟨q, c, e, _⟩ := (OwnS.shape ⟨xs, h, hf⟩ : _)
  have en : n' = n := by injection e
  subst en
  refine ⟨xs.set (i0 * size + j0) u, ⟨(World.ownsRow.stored h.1 _ u).1, h.2⟩, fun i hi j hj => ?_⟩
  rw [List.getElem?_set]
  by_cases e : i = i0 ∧ j = j0
  · obtain ⟨rfl, rfl⟩ := e
    have hlt : i * size + j < xs.length := by rw [h.len]; exact hle _ _ hi0 hj0
    simp [hlt]
  · show _ = some (if i = i0 ∧ j = j0 then u else F i j)
    rw [if_neg e, if_neg fun c => e ?_]
    · exact hf i hi j hj
    · have h1 := Nat.mul_add_mod' i size j
      have h2 := Nat.mul_add_mod' i0 size j0
      rw [Nat.mod_eq_of_lt hj] at h1
      rw [Nat.mod_eq_of_lt hj0] at h2
      have : j = j0 := by rw [← h1, ← h2, c]
      subst this
      exact ⟨Nat.eq_of_mul_eq_mul_right (by omega) (by omega : i * size = i0 * size), rfl⟩
theorem nil (w : World) (lo hi : Nat) (T : TypeId) (size : Nat) (F : Nat → Nat → Value) : OwnS w lo hi T size (.slice none 0 0) 0 F :=
  ⟨[], ⟨World.ownsRow_nil _ _ _ _, fun k hk => by simp [Value.ownBlock] at hk⟩, fun i hi => absurd hi (Nat.not_lt_zero _)⟩
theorem made0 (w : World) (T : TypeId) (size : Nat) (F : Nat → Nat → Value) : OwnS (w.alloc (.cells #[] T)) w.heap.size (w.heap.size + 1) T size (.slice (some ⟨w.heap.size, 0, none⟩) 0 0) 0 F :=
  ⟨[], ⟨World.ownsRow_made w #[] 0 (Nat.le_refl _) (Nat.zero_le _) (by simp), fun k hk => by simp [Value.ownBlock] at hk; omega⟩, fun i hi => absurd hi (Nat.not_lt_zero _)⟩
/-- behind an append on u: what is owned in other blocks stays -/
theorem grown {u : Value} (h : OwnS w lo hi T size v n F) (hg : w.grownBy w' u.ownBlock) (hne : ∀ k, v.ownBlock = some k → u.ownBlock ≠ some k) : OwnS w' lo hi T size v n F := by
  obtain ⟨xs, h, hf⟩ := h
  exact ⟨xs, ⟨ownsRow_of_block h.1 fun k hk => hg.block k (h.block hk).2.2 fun e => hne k hk e.symm, h.2⟩, hf⟩
end OwnS

theorem ne_of_kinds {w : World} {T U : TypeId} {g : Nat} (h1 : ∃ c fz, w.heap[g]? = some (.cells c T fz)) (h2 : ∃ c fz, w.heap[g]? = some (.cells c U fz)) (hT : T ≠ U) : False := by
  obtain ⟨c, fz, h1⟩ := h1
  obtain ⟨c', fz', h2⟩ := h2
  rw [h1] at h2
  injection h2 with h2
  injection h2 with _ h2
  exact hT h2
theorem OwnI.kind {T : TypeId} {w : World} {lo hi : Nat} {v : Value} {xs : List Int} (h : OwnI T w lo hi v xs) : ∀ g, v.ownBlock = some g → ∃ c fz, w.heap[g]? = some (.cells c T fz) := Lib.ownsRow_kind h.1

/-- append of one struct onto structs of the call's own -/
theorem run_append_S {P : Program} {w : World} {t ty e : TypeId} {i : TypeInfo} {z : Value} {size bytes : Nat} (ht : P.underlying t = some (.slice e)) (hi : P.info? e = some i) (hz : i.zero = some z)
    (hsize : i.size = size) (hby : i.bytes = bytes) (hzs : z.cells.size = size) (h0 : 0 < size)
    (lo hi' : Nat) (v : Value) (n : Nat) (F : Nat → Nat → Value) (hown : OwnS w lo hi' e size v n F) (hlo : lo ≤ w.heap.size)
    (b c : Nat) (G : Nat → Value) (hc : ∀ j, j < size → w.cell? ⟨b, j, none⟩ = some (G j)) (h1 : ∀ j, j < size → (G j).oneCell' = true) (h63 : n + 1 ≤ maxLen) (hbytes : (n + 1) * bytes ≤ 140737488355328) :
    ∃ v' w', (Builtin.append_ #[t, t] ty #[v, .slice (some ⟨b, 0, none⟩) 1 c]).run P w = .ok v' w' ∧ OwnS w' lo w'.heap.size e size v' (n + 1) (fun k => if k < n then F k else G) ∧ w.grownBy w' v.ownBlock := by
  obtain ⟨xs, ho, hf⟩ := hown
  have hG : ∀ (j : Nat) (u : Value), ((List.range size).map G)[j]? = some u → j < size ∧ u = G j := fun j u hj => by
    have hlt : j < size := by
      rcases Nat.lt_or_ge j size with h | h
      · exact h
      · rw [List.getElem?_eq_none (by simpa using h)] at hj; cases hj
    simp [hlt] at hj
    exact ⟨hlt, hj.symm⟩
  obtain ⟨v', w', hr, h2, h3, _⟩ := run_append_own (P := P) w lo t ty e i z size bytes ht hi hz hsize hby hzs h0 v n xs ho.1 ⟨b, 0, none⟩ 1 c ((List.range size).map G) (by simp)
    (fun j u hj => by
      obtain ⟨hlt, rfl⟩ := hG j u hj
      have hadd : (⟨b, 0, none⟩ : Addr).add j = ⟨b, 0 + j, none⟩ := by unfold Addr.add; split <;> simp_all
      rw [hadd, Nat.zero_add]
      exact hc j hlt)
    (fun u hu => by
      simp only [List.mem_map, List.mem_range] at hu
      obtain ⟨j, hj, rfl⟩ := hu
      exact h1 j hj) h63 hbytes hlo
  refine ⟨v', w', hr, ⟨_, Own.of_row h2, fun i hi j hj => ?_⟩, h3⟩
  have hl : xs.length = n * size := ho.len
  by_cases h : i < n
  · have hle : i * size + j < n * size := by
      have : (i + 1) * size ≤ n * size := Nat.mul_le_mul_right _ h
      rw [Nat.add_mul] at this; omega
    simp only [h, if_true]
    rw [List.getElem?_append_left (by omega), hf i h j hj]
  · have : i = n := by omega
    subst this
    simp only [h, if_false]
    rw [List.getElem?_append_right (by omega), hl, Nat.add_sub_cancel_left]
    simp [hj]
theorem info_partsS {P : Program} {t : TypeId} {z : Value} {size bytes : Nat} (h : (P.info? t).map (fun i => (i.zero, i.size, i.bytes)) = some (some z, size, bytes)) : ∃ i, P.info? t = some i ∧ i.zero = some z ∧ i.size = size ∧ i.bytes = bytes := by
  cases hi : P.info? t with
  | none => rw [hi] at h; cases h
  | some i =>
    rw [hi] at h
    simp only [Option.map_some, Option.some.injEq, Prod.mk.injEq] at h
    exact ⟨i, rfl, h.1, h.2.1, h.2.2⟩
/-- .. as a law of the walk -/
theorem wpList_append_S {P : Program} {w : World} {ops : Array Oper} {rest : List Oper} {o : Oper} {a : Act} {Q : Exit → Act → World → Prop} (hgd : o.guard = none) (s x : Operand) (t : TypeId)
    (ho : o.op = .call { callee := .builtin .append, args := #[s, x], argTypes := #[t, t] })
    (e : TypeId) (z : Value) (size bytes : Nat) (ht : P.underlying t = some (.slice e)) (hinfo : (P.info? e).map (fun i => (i.zero, i.size, i.bytes)) = some (some z, size, bytes)) (hzs : z.cells.size = size) (h0 : 0 < size)
    (lo hi' : Nat) (v : Value) (n : Nat) (F : Nat → Nat → Value) (hs : a.eval s = v) (hown : OwnS w lo hi' e size v n F) (hlo : lo ≤ w.heap.size)
    (b c : Nat) (G : Nat → Value) (hxu : a.eval x = .slice (some ⟨b, 0, none⟩) 1 c) (hc : ∀ j, j < size → w.cell? ⟨b, j, none⟩ = some (G j)) (h1 : ∀ j, j < size → (G j).oneCell' = true) (h63 : n + 1 ≤ maxLen) (hbytes : (n + 1) * bytes ≤ 140737488355328)
    (h : ∀ v' w', OwnS w' lo w'.heap.size e size v' (n + 1) (fun k => if k < n then F k else G) → w.grownBy w' v.ownBlock → wpList P ops Q rest (a.put o.dst v') w') :
    wpList P ops Q (o :: rest) a w := by
  refine wpList_plain hgd fun K hK' => ?_
  obtain ⟨i, hi, hz, hsz, hby⟩ := info_partsS hinfo
  obtain ⟨v', w', hr, h2, h3⟩ := run_append_S (P := P) (ty := o.type) ht hi hz hsz hby hzs h0 lo hi' v n F hown hlo b c G hc h1 h63 hbytes
  unfold Oper.wp
  simp [execOp, ho, resolve, invoke, builtin, hs, hxu, hr, Result.andThen]
  exact hK' _ _ (h v' w' h2 h3)
/-- .. as a step of a region that draws -/
theorem step_append_S {P : Program} {w : World} {ops : Array Oper} {o : Oper} {a : Act} {K : Act → World → Prop} {Q : Exit → Act → World → Prop} {E : Prop} (hgd : o.guard = none) (s x : Operand) (t : TypeId)
    (ho : o.op = .call { callee := .builtin .append, args := #[s, x], argTypes := #[t, t] })
    (e : TypeId) (z : Value) (size bytes : Nat) (ht : P.underlying t = some (.slice e)) (hinfo : (P.info? e).map (fun i => (i.zero, i.size, i.bytes)) = some (some z, size, bytes)) (hzs : z.cells.size = size) (h0 : 0 < size)
    (lo hi' : Nat) (v : Value) (n : Nat) (F : Nat → Nat → Value) (hs : a.eval s = v) (hown : OwnS w lo hi' e size v n F) (hlo : lo ≤ w.heap.size)
    (b c : Nat) (G : Nat → Value) (hxu : a.eval x = .slice (some ⟨b, 0, none⟩) 1 c) (hc : ∀ j, j < size → w.cell? ⟨b, j, none⟩ = some (G j)) (h1 : ∀ j, j < size → (G j).oneCell' = true) (h63 : n + 1 ≤ maxLen) (hbytes : (n + 1) * bytes ≤ 140737488355328)
    (h : ∀ v' w', OwnS w' lo w'.heap.size e size v' (n + 1) (fun k => if k < n then F k else G) → w.grownBy w' v.ownBlock → K (a.put o.dst v') w') :
    if Region.wanted o (yielded ops a.tmps) = true then Oper.wp P o a w K Q else E := by
  have hw : Region.wanted o (yielded ops a.tmps) = true := by simp [Region.wanted, hgd]
  rw [if_pos hw]
  obtain ⟨i, hi, hz, hsz, hby⟩ := info_partsS hinfo
  obtain ⟨v', w', hr, h2, h3⟩ := run_append_S (P := P) (ty := o.type) ht hi hz hsz hby hzs h0 lo hi' v n F hown hlo b c G hc h1 h63 hbytes
  unfold Oper.wp
  simp [execOp, ho, resolve, invoke, builtin, hs, hxu, hr, Result.andThen]
  exact h v' w' h2 h3

end Go.Proofs.Ytoodgbflaaabmaa
