/-
  MeetsFlag, on both sides.
  GrassmannianPerm, StringOfShape.
  StringOfShape.
-/
import Derived.Test.YtoodgbflaaabmaaJ11
import Derived.Test.YtoodgbflaaabmaaJ17
import Derived.Test.YtoodgbflaaabmaaJ14
namespace Go.Proofs.Ytoodgbflaaabmaa
set_option linter.all false
open Go.RowKit

/-- how many rows of the flag row i asks for -/
def mfJ (xs : List Int) (r c i : Nat) : Nat := c - r + i + 1 - (xs.getD i 0).toNat
/-- the first k rows of the shape are met -/
def MfUp (P : Int) (r c : Nat) (A B : Nat → Nat → Int) (xs : List Int) (k : Nat) : Prop := ∀ i, i < k → ∀ m, CmIs P c A r B (mfJ xs r c i) m → (i : Int) + 1 ≤ m
/-- what MeetsFlag returns -/
def MfIs (P R C : Int) (D : List Int) (P' R' C' : Int) (D' xs : List Int) (b : Bool) : Prop :=
  b = true ↔ SfIs P R C D P' R' C' D' ∧ bxOk xs R.toNat C.toNat = true ∧ MfUp P R.toNat C.toNat (mf C.toNat fun t => D.getD t 0) (mf C.toNat fun t => D'.getD t 0) xs R.toNat
theorem MfIs.one {P R C : Int} {D : List Int} {P' R' C' : Int} {D' xs : List Int} {b b' : Bool} (h : MfIs P R C D P' R' C' D' xs b) (h' : MfIs P R C D P' R' C' D' xs b') : b = b' := by
  unfold MfIs at h h'
  have e : b = true ↔ b' = true := h.trans h'.symm
  cases b <;> cases b' <;> simp_all
theorem MfIs.eps {P R C : Int} {D : List Int} {P' R' C' : Int} {D' xs : List Int} {b : Bool} (h : MfIs P R C D P' R' C' D' xs b) : b = Classical.epsilon (MfIs P R C D P' R' C' D' xs) := h.one (Classical.epsilon_spec ⟨b, h⟩)
/-- the rows of a shape in a box -/
theorem bx_facts {xs : List Int} {r c : Nat} (h : bxOk xs r c = true) (hrc : r ≤ c) : ∀ i, i < r → 0 ≤ xs.getD i 0 ∧ xs.getD i 0 ≤ (c : Int) - (r : Int) := by
  unfold bxOk at h
  simp only [Bool.and_eq_true, decide_eq_true_eq] at h
  obtain ⟨⟨h1, h2⟩, h3⟩ := h
  obtain ⟨hl, hs⟩ := shOk_facts h1
  have hmon : ∀ i, i < xs.length → xs.getD i 0 ≤ xs.getD 0 0 := by
    intro i
    induction i with
    | zero => exact fun _ => Int.le_refl _
    | succ i ih =>
      intro hi
      have a := ih (by omega)
      have b := (hs (i + 1) hi).2.2 (by omega)
      rw [Nat.add_sub_cancel] at b
      omega
  intro i hi
  by_cases e : i < xs.length
  · have a := hmon i e
    have b := (hs i e).1
    omega
  · have : xs.getD i 0 = 0 := by simp [List.getD_eq_getElem?_getD, Nat.le_of_not_lt e]
    rw [this]
    omega
theorem mf_out {P : Int} {r c i : Nat} {A B : Nat → Nat → Int} {xs : List Int} {m : Int} (hP : 2 ≤ P) (hi : i < r) (h : CmIs P c A r B (mfJ xs r c i) m) (hm : m < (i : Int) + 1) : ¬ MfUp P r c A B xs r := fun hu => by
  have := hu i hi m h
  omega
theorem MfUp.snoc {P : Int} {r c k : Nat} {A B : Nat → Nat → Int} {xs : List Int} {m : Int} (hP : 2 ≤ P) (hu : MfUp P r c A B xs k) (h : CmIs P c A r B (mfJ xs r c k) m) (hm : ¬ m < (k : Int) + 1) : MfUp P r c A B xs (k + 1) := fun i hi m' hm' => by
  by_cases e : i = k
  · subst e
    rw [hm'.one hP h]
    omega
  · exact hu i (by omega) m' hm'

theorem rowOf_s (v : Value) (xs : List Int) (i : Nat) (s : Int) (hs : s = xs.getD i 0) (hi : i ≤ 1000000) (w : World) (h : Ints w v xs) :
    Calls Try.prog 63 #[v, .int .i64 (i : Int)] w fun e w' => e = .returned (.int .i64 s) ∧ Below w.heap.size w w' := by
  rw [hs]
  exact (rowOf_any v xs i w h hi).mono fun e w' ⟨r1, r2⟩ => ⟨r1, r2.below _⟩

set_option maxRecDepth 100000 in
set_option maxHeartbeats 4000000 in
theorem implMf_no1 (AP AR AC BP BR BC : Int) (dA dB dS : Value) (DA DB DS : List Int) (w : World) (hdA : Ints w dA DA) (hdB : Ints w dB DB) (hdS : Ints w dS DS) (ha : ¬ IsSp AP AR AC DA) :
    Calls Try.prog 29 #[.agg #[.int .i64 AP, .int .i64 AR, .int .i64 AC, dA], .agg #[.int .i64 BP, .int .i64 BR, .int .i64 BC, dB], dS] w fun e w' => ∃ b, e = .returned (.bool b) ∧ b = false ∧ Below w.heap.size w w' := by
  have Hka := Lib.hid ha
  clear ha
  have HdA := Lib.hid hdA
  obtain ⟨pA, kA, rfl, ⟨_, mA⟩, _⟩ := hdA
  unfold maxLen at mA
  have HdB := Lib.hid hdB
  obtain ⟨pB, kB, rfl, ⟨_, mB⟩, _⟩ := hdB
  unfold maxLen at mB
  have HdS := Lib.hid hdS
  obtain ⟨pS, kS, rfl, ⟨_, mS⟩, _⟩ := hdS
  unfold maxLen at mS
  obtain ⟨z0, z1⟩ := boxes_ab w (.cells #[.int .i64 AP, .int .i64 AR, .int .i64 AC, .slice pA DA.length kA] 34) (.cells #[.int .i64 BP, .int .i64 BR, .int .i64 BC, .slice pB DB.length kB] 34)
  have ZA1 := Lib.hid z0
  have ZB1 := Lib.hid z1
  clear z0 z1
  have HB1 := Lib.hid (below_alloc2 w (.cells #[.int .i64 AP, .int .i64 AR, .int .i64 AC, .slice pA DA.length kA] 34) (.cells #[.int .i64 BP, .int .i64 BR, .int .i64 BC, .slice pB DB.length kB] 34))
  go_enter Try.func29, Try.ntmps29
  go_wp2_with fail
  have hs1 : ((w.alloc (.cells #[.int .i64 AP, .int .i64 AR, .int .i64 AC, .slice pA DA.length kA] 34)).alloc (.cells #[.int .i64 BP, .int .i64 BR, .int .i64 BC, .slice pB DB.length kB] 34)).heap.size = w.heap.size + 1 + 1 := by simp
  generalize (w.alloc (.cells #[.int .i64 AP, .int .i64 AR, .int .i64 AC, .slice pA DA.length kA] 34)).alloc (.cells #[.int .i64 BP, .int .i64 BR, .int .i64 BC, .slice pB DB.length kB] 34) = w1 at *
  obtain ⟨cA0, cA1, cA2, cA3, cAf, cAz⟩ := blk4 ZA1.out
  go_wp2_with fail
  refine (implIsSpace_no _ _ _ _ _ Hka.out _ (HdA.out.below HB1.out)).mono ?_
  rintro e w2 ⟨rfl, hb⟩
  have hs2 := hb.size
  have HB2 := Lib.hid (HB1.out.trans (hb.mono HB1.out.size))
  have ZA2 := Lib.hid (blk_later ZA1.out hb)
  have ZB2 := Lib.hid (blk_later ZB1.out hb)
  clear hb ZA1 ZB1
  clear cA0 cA1 cA2 cA3 cAf cAz
  go_wp2_with fail
  go_ret
  exact ⟨_, rfl, rfl, HB2.out⟩

set_option maxRecDepth 100000 in
set_option maxHeartbeats 4000000 in
theorem implMf_no2 (AP AR AC BP BR BC : Int) (dA dB dS : Value) (DA DB DS : List Int) (w : World) (hdA : Ints w dA DA) (hdB : Ints w dB DB) (hdS : Ints w dS DS) (ha : IsSp AP AR AC DA) (hb : ¬ IsFl BP BR BC DB) :
    Calls Try.prog 29 #[.agg #[.int .i64 AP, .int .i64 AR, .int .i64 AC, dA], .agg #[.int .i64 BP, .int .i64 BR, .int .i64 BC, dB], dS] w fun e w' => ∃ b, e = .returned (.bool b) ∧ b = false ∧ Below w.heap.size w w' := by
  have Hka := Lib.hid ha
  have Hkb := Lib.hid hb
  clear ha hb
  have HdA := Lib.hid hdA
  obtain ⟨pA, kA, rfl, ⟨_, mA⟩, _⟩ := hdA
  unfold maxLen at mA
  have HdB := Lib.hid hdB
  obtain ⟨pB, kB, rfl, ⟨_, mB⟩, _⟩ := hdB
  unfold maxLen at mB
  have HdS := Lib.hid hdS
  obtain ⟨pS, kS, rfl, ⟨_, mS⟩, _⟩ := hdS
  unfold maxLen at mS
  obtain ⟨z0, z1⟩ := boxes_ab w (.cells #[.int .i64 AP, .int .i64 AR, .int .i64 AC, .slice pA DA.length kA] 34) (.cells #[.int .i64 BP, .int .i64 BR, .int .i64 BC, .slice pB DB.length kB] 34)
  have ZA1 := Lib.hid z0
  have ZB1 := Lib.hid z1
  clear z0 z1
  have HB1 := Lib.hid (below_alloc2 w (.cells #[.int .i64 AP, .int .i64 AR, .int .i64 AC, .slice pA DA.length kA] 34) (.cells #[.int .i64 BP, .int .i64 BR, .int .i64 BC, .slice pB DB.length kB] 34))
  go_enter Try.func29, Try.ntmps29
  go_wp2_with fail
  have hs1 : ((w.alloc (.cells #[.int .i64 AP, .int .i64 AR, .int .i64 AC, .slice pA DA.length kA] 34)).alloc (.cells #[.int .i64 BP, .int .i64 BR, .int .i64 BC, .slice pB DB.length kB] 34)).heap.size = w.heap.size + 1 + 1 := by simp
  generalize (w.alloc (.cells #[.int .i64 AP, .int .i64 AR, .int .i64 AC, .slice pA DA.length kA] 34)).alloc (.cells #[.int .i64 BP, .int .i64 BR, .int .i64 BC, .slice pB DB.length kB] 34) = w1 at *
  obtain ⟨cA0, cA1, cA2, cA3, cAf, cAz⟩ := blk4 ZA1.out
  go_wp2_with fail
  refine (implIsSpace_yes _ _ _ _ _ Hka.out _ (HdA.out.below HB1.out)).mono ?_
  rintro e w2 ⟨rfl, hb⟩
  have hs2 := hb.size
  have HB2 := Lib.hid (HB1.out.trans (hb.mono HB1.out.size))
  have ZA2 := Lib.hid (blk_later ZA1.out hb)
  have ZB2 := Lib.hid (blk_later ZB1.out hb)
  clear hb ZA1 ZB1
  clear cA0 cA1 cA2 cA3 cAf cAz
  obtain ⟨cB0, cB1, cB2, cB3, cBf, cBz⟩ := blk4 ZB2.out
  go_wp2_with fail
  refine (implFlag_no _ _ _ _ _ Hkb.out _ (HdB.out.below HB2.out)).mono ?_
  rintro e w3 ⟨rfl, hb⟩
  have hs3 := hb.size
  have HB3 := Lib.hid (HB2.out.trans (hb.mono HB2.out.size))
  have ZA3 := Lib.hid (blk_later ZA2.out hb)
  have ZB3 := Lib.hid (blk_later ZB2.out hb)
  clear hb ZA2 ZB2
  clear cB0 cB1 cB2 cB3 cBf cBz
  go_wp2_with fail
  go_ret
  exact ⟨_, rfl, rfl, HB3.out⟩

set_option maxRecDepth 100000 in
set_option maxHeartbeats 4000000 in
theorem implMf_no3 (AP AR AC BP BR BC : Int) (dA dB dS : Value) (DA DB DS : List Int) (w : World) (hdA : Ints w dA DA) (hdB : Ints w dB DB) (hdS : Ints w dS DS) (ha : IsSp AP AR AC DA) (hb : IsFl BP BR BC DB) (hf : fitOk AP AC BP BC = false) :
    Calls Try.prog 29 #[.agg #[.int .i64 AP, .int .i64 AR, .int .i64 AC, dA], .agg #[.int .i64 BP, .int .i64 BR, .int .i64 BC, dB], dS] w fun e w' => ∃ b, e = .returned (.bool b) ∧ b = false ∧ Below w.heap.size w w' := by
  have Hka := Lib.hid ha
  have Hkb := Lib.hid hb
  clear ha hb
  have Hf := Lib.hid hf
  clear hf
  have HdA := Lib.hid hdA
  obtain ⟨pA, kA, rfl, ⟨_, mA⟩, _⟩ := hdA
  unfold maxLen at mA
  have HdB := Lib.hid hdB
  obtain ⟨pB, kB, rfl, ⟨_, mB⟩, _⟩ := hdB
  unfold maxLen at mB
  have HdS := Lib.hid hdS
  obtain ⟨pS, kS, rfl, ⟨_, mS⟩, _⟩ := hdS
  unfold maxLen at mS
  obtain ⟨z0, z1⟩ := boxes_ab w (.cells #[.int .i64 AP, .int .i64 AR, .int .i64 AC, .slice pA DA.length kA] 34) (.cells #[.int .i64 BP, .int .i64 BR, .int .i64 BC, .slice pB DB.length kB] 34)
  have ZA1 := Lib.hid z0
  have ZB1 := Lib.hid z1
  clear z0 z1
  have HB1 := Lib.hid (below_alloc2 w (.cells #[.int .i64 AP, .int .i64 AR, .int .i64 AC, .slice pA DA.length kA] 34) (.cells #[.int .i64 BP, .int .i64 BR, .int .i64 BC, .slice pB DB.length kB] 34))
  go_enter Try.func29, Try.ntmps29
  go_wp2_with fail
  have hs1 : ((w.alloc (.cells #[.int .i64 AP, .int .i64 AR, .int .i64 AC, .slice pA DA.length kA] 34)).alloc (.cells #[.int .i64 BP, .int .i64 BR, .int .i64 BC, .slice pB DB.length kB] 34)).heap.size = w.heap.size + 1 + 1 := by simp
  generalize (w.alloc (.cells #[.int .i64 AP, .int .i64 AR, .int .i64 AC, .slice pA DA.length kA] 34)).alloc (.cells #[.int .i64 BP, .int .i64 BR, .int .i64 BC, .slice pB DB.length kB] 34) = w1 at *
  obtain ⟨cA0, cA1, cA2, cA3, cAf, cAz⟩ := blk4 ZA1.out
  go_wp2_with fail
  refine (implIsSpace_yes _ _ _ _ _ Hka.out _ (HdA.out.below HB1.out)).mono ?_
  rintro e w2 ⟨rfl, hb⟩
  have hs2 := hb.size
  have HB2 := Lib.hid (HB1.out.trans (hb.mono HB1.out.size))
  have ZA2 := Lib.hid (blk_later ZA1.out hb)
  have ZB2 := Lib.hid (blk_later ZB1.out hb)
  clear hb ZA1 ZB1
  clear cA0 cA1 cA2 cA3 cAf cAz
  obtain ⟨cB0, cB1, cB2, cB3, cBf, cBz⟩ := blk4 ZB2.out
  go_wp2_with fail
  refine (implFlag_yes _ _ _ _ _ Hkb.out _ (HdB.out.below HB2.out)).mono ?_
  rintro e w3 ⟨rfl, hb⟩
  have hs3 := hb.size
  have HB3 := Lib.hid (HB2.out.trans (hb.mono HB2.out.size))
  have ZA3 := Lib.hid (blk_later ZA2.out hb)
  have ZB3 := Lib.hid (blk_later ZB2.out hb)
  clear hb ZA2 ZB2
  clear cB0 cB1 cB2 cB3 cBf cBz
  obtain ⟨cA0, cA1, cA2, cA3, cAf, cAz⟩ := blk4 ZA3.out
  obtain ⟨cB0, cB1, cB2, cB3, cBf, cBz⟩ := blk4 ZB3.out
  go_wp2_with fail
  refine (fitTogether_any _ _ _ _ _ _ _ _ DA DB _ (HdA.out.below HB3.out) (HdB.out.below HB3.out)).mono ?_
  rintro e w4 ⟨rfl, hb⟩
  have hs4 := hb.size
  have HB4 := Lib.hid (HB3.out.trans (hb.mono HB3.out.size))
  have ZA4 := Lib.hid (blk_later ZA3.out hb)
  have ZB4 := Lib.hid (blk_later ZB3.out hb)
  clear hb ZA3 ZB3
  clear cA0 cA1 cA2 cA3 cAf cAz cB0 cB1 cB2 cB3 cBf cBz
  rw [Hf.out]
  go_wp2_with fail
  go_ret
  exact ⟨_, rfl, rfl, HB4.out⟩

set_option maxRecDepth 100000 in
set_option maxHeartbeats 4000000 in
theorem implMf_no5 (AP AR AC BP BR BC : Int) (dA dB dS : Value) (DA DB DS : List Int) (w : World) (hdA : Ints w dA DA) (hdB : Ints w dB DB) (hdS : Ints w dS DS) (h : SfIs AP AR AC DA BP BR BC DB) (hx : bxOk DS AR.toNat AC.toNat = false) :
    Calls Try.prog 29 #[.agg #[.int .i64 AP, .int .i64 AR, .int .i64 AC, dA], .agg #[.int .i64 BP, .int .i64 BR, .int .i64 BC, dB], dS] w fun e w' => ∃ b, e = .returned (.bool b) ∧ b = false ∧ Below w.heap.size w w' := by
  obtain ⟨hs, hf, hPe, hCe⟩ := h
  subst hPe hCe
  obtain ⟨r, c, rfl, rfl, hr, hc0, hc, hlA, hDA, hP2, hP7, hpr, hkA⟩ := hs.facts
  obtain ⟨n, rfl, e2, _, _, hlB, hDB, _, _, _, hkB⟩ := hf.facts
  obtain rfl := Int.ofNat.inj e2
  clear e2
  have hrc : r ≤ c := hkA.leC
  have Hka := Lib.hid hs
  have Hkb := Lib.hid hf
  have HgA := Lib.hid (fun t => getD_range hDA (by omega) t)
  have HgB := Lib.hid (fun t => getD_range hDB (by omega) t)
  have HlA := Lib.hid hlA
  have HlB := Lib.hid hlB
  have Hpr := Lib.hid hpr
  have HkA := Lib.hid hkA
  have HkB := Lib.hid hkB
  clear hs hf hlA hlB hDA hDB hpr hkA hkB
  simp only [Int.toNat_natCast] at hx
  have Hbx := Lib.hid hx
  clear hx
  have Hf := Lib.hid (show fitOk AP c AP c = true by simp [fitOk])
  have HdA := Lib.hid hdA
  obtain ⟨pA, kA, rfl, ⟨_, mA⟩, _⟩ := hdA
  unfold maxLen at mA
  have HdB := Lib.hid hdB
  obtain ⟨pB, kB, rfl, ⟨_, mB⟩, _⟩ := hdB
  unfold maxLen at mB
  have HdS := Lib.hid hdS
  obtain ⟨pS, kS, rfl, ⟨_, mS⟩, _⟩ := hdS
  unfold maxLen at mS
  obtain ⟨z0, z1⟩ := boxes_ab w (.cells #[.int .i64 AP, .int .i64 (r : Int), .int .i64 (c : Int), .slice pA DA.length kA] 34) (.cells #[.int .i64 AP, .int .i64 (c : Int), .int .i64 (c : Int), .slice pB DB.length kB] 34)
  have ZA1 := Lib.hid z0
  have ZB1 := Lib.hid z1
  clear z0 z1
  have HB1 := Lib.hid (below_alloc2 w (.cells #[.int .i64 AP, .int .i64 (r : Int), .int .i64 (c : Int), .slice pA DA.length kA] 34) (.cells #[.int .i64 AP, .int .i64 (c : Int), .int .i64 (c : Int), .slice pB DB.length kB] 34))
  go_enter Try.func29, Try.ntmps29
  go_wp2_with fail
  have hs1 : ((w.alloc (.cells #[.int .i64 AP, .int .i64 (r : Int), .int .i64 (c : Int), .slice pA DA.length kA] 34)).alloc (.cells #[.int .i64 AP, .int .i64 (c : Int), .int .i64 (c : Int), .slice pB DB.length kB] 34)).heap.size = w.heap.size + 1 + 1 := by simp
  generalize (w.alloc (.cells #[.int .i64 AP, .int .i64 (r : Int), .int .i64 (c : Int), .slice pA DA.length kA] 34)).alloc (.cells #[.int .i64 AP, .int .i64 (c : Int), .int .i64 (c : Int), .slice pB DB.length kB] 34) = w1 at *
  obtain ⟨cA0, cA1, cA2, cA3, cAf, cAz⟩ := blk4 ZA1.out
  go_wp2_with fail
  refine (implIsSpace_yes _ _ _ _ _ Hka.out _ (HdA.out.below HB1.out)).mono ?_
  rintro e w2 ⟨rfl, hb⟩
  have hs2 := hb.size
  have HB2 := Lib.hid (HB1.out.trans (hb.mono HB1.out.size))
  have ZA2 := Lib.hid (blk_later ZA1.out hb)
  have ZB2 := Lib.hid (blk_later ZB1.out hb)
  clear hb ZA1 ZB1
  clear cA0 cA1 cA2 cA3 cAf cAz
  obtain ⟨cB0, cB1, cB2, cB3, cBf, cBz⟩ := blk4 ZB2.out
  go_wp2_with fail
  refine (implFlag_yes _ _ _ _ _ Hkb.out _ (HdB.out.below HB2.out)).mono ?_
  rintro e w3 ⟨rfl, hb⟩
  have hs3 := hb.size
  have HB3 := Lib.hid (HB2.out.trans (hb.mono HB2.out.size))
  have ZA3 := Lib.hid (blk_later ZA2.out hb)
  have ZB3 := Lib.hid (blk_later ZB2.out hb)
  clear hb ZA2 ZB2
  clear cB0 cB1 cB2 cB3 cBf cBz
  obtain ⟨cA0, cA1, cA2, cA3, cAf, cAz⟩ := blk4 ZA3.out
  obtain ⟨cB0, cB1, cB2, cB3, cBf, cBz⟩ := blk4 ZB3.out
  go_wp2_with fail
  refine (fitTogether_any _ _ _ _ _ _ _ _ DA DB _ (HdA.out.below HB3.out) (HdB.out.below HB3.out)).mono ?_
  rintro e w4 ⟨rfl, hb⟩
  have hs4 := hb.size
  have HB4 := Lib.hid (HB3.out.trans (hb.mono HB3.out.size))
  have ZA4 := Lib.hid (blk_later ZA3.out hb)
  have ZB4 := Lib.hid (blk_later ZB3.out hb)
  clear hb ZA3 ZB3
  clear cA0 cA1 cA2 cA3 cAf cAz cB0 cB1 cB2 cB3 cBf cBz
  rw [Hf.out]
  obtain ⟨cA0, cA1, cA2, cA3, cAf, cAz⟩ := blk4 ZA4.out
  go_wp2_with fail
  refine (IsInBox_any _ DS r c _ (HdS.out.below HB4.out) hrc hc0 hc).mono ?_
  rintro e w5 ⟨rfl, hq⟩
  have hb := hq.below w4.heap.size
  clear hq
  have hs5 := hb.size
  have HB5 := Lib.hid (HB4.out.trans (hb.mono HB4.out.size))
  have ZA5 := Lib.hid (blk_later ZA4.out hb)
  have ZB5 := Lib.hid (blk_later ZB4.out hb)
  clear hb ZA4 ZB4
  clear cA0 cA1 cA2 cA3 cAf cAz
  rw [Hbx.out]
  go_wp2_with fail
  go_ret
  exact ⟨_, rfl, rfl, HB5.out⟩

set_option maxRecDepth 100000 in
set_option maxHeartbeats 16000000 in
theorem implMf_yes (AP AR AC BP BR BC : Int) (dA dB dS : Value) (DA DB DS : List Int) (w : World) (hdA : Ints w dA DA) (hdB : Ints w dB DB) (hdS : Ints w dS DS) (h : SfIs AP AR AC DA BP BR BC DB) (hx : bxOk DS AR.toNat AC.toNat = true) :
    Calls Try.prog 29 #[.agg #[.int .i64 AP, .int .i64 AR, .int .i64 AC, dA], .agg #[.int .i64 BP, .int .i64 BR, .int .i64 BC, dB], dS] w fun e w' => ∃ b, e = .returned (.bool b) ∧ (b = true ↔ MfUp AP AR.toNat AC.toNat (mf AC.toNat fun t => DA.getD t 0) (mf AC.toNat fun t => DB.getD t 0) DS AR.toNat) ∧ Below w.heap.size w w' := by
  obtain ⟨hs, hf, hPe, hCe⟩ := h
  subst hPe hCe
  obtain ⟨r, c, rfl, rfl, hr, hc0, hc, hlA, hDA, hP2, hP7, hpr, hkA⟩ := hs.facts
  obtain ⟨n, rfl, e2, _, _, hlB, hDB, _, _, _, hkB⟩ := hf.facts
  obtain rfl := Int.ofNat.inj e2
  clear e2
  have hrc : r ≤ c := hkA.leC
  have Hka := Lib.hid hs
  have Hkb := Lib.hid hf
  have HgA := Lib.hid (fun t => getD_range hDA (by omega) t)
  have HgB := Lib.hid (fun t => getD_range hDB (by omega) t)
  have HlA := Lib.hid hlA
  have HlB := Lib.hid hlB
  have Hpr := Lib.hid hpr
  have HkA := Lib.hid hkA
  have HkB := Lib.hid hkB
  clear hs hf hlA hlB hDA hDB hpr hkA hkB
  simp only [Int.toNat_natCast] at hx ⊢
  have Hbx := Lib.hid hx
  have Hbf := Lib.hid (bx_facts hx hrc)
  clear hx
  have Hf := Lib.hid (show fitOk AP c AP c = true by simp [fitOk])
  have HdA := Lib.hid hdA
  obtain ⟨pA, kA, rfl, ⟨_, mA⟩, _⟩ := hdA
  unfold maxLen at mA
  have HdB := Lib.hid hdB
  obtain ⟨pB, kB, rfl, ⟨_, mB⟩, _⟩ := hdB
  unfold maxLen at mB
  have HdS := Lib.hid hdS
  obtain ⟨pS, kS, rfl, ⟨_, mS⟩, _⟩ := hdS
  unfold maxLen at mS
  obtain ⟨z0, z1⟩ := boxes_ab w (.cells #[.int .i64 AP, .int .i64 (r : Int), .int .i64 (c : Int), .slice pA DA.length kA] 34) (.cells #[.int .i64 AP, .int .i64 (c : Int), .int .i64 (c : Int), .slice pB DB.length kB] 34)
  have ZA1 := Lib.hid z0
  have ZB1 := Lib.hid z1
  clear z0 z1
  have HB1 := Lib.hid (below_alloc2 w (.cells #[.int .i64 AP, .int .i64 (r : Int), .int .i64 (c : Int), .slice pA DA.length kA] 34) (.cells #[.int .i64 AP, .int .i64 (c : Int), .int .i64 (c : Int), .slice pB DB.length kB] 34))
  go_enter Try.func29, Try.ntmps29
  go_wp2_with fail
  have hs1 : ((w.alloc (.cells #[.int .i64 AP, .int .i64 (r : Int), .int .i64 (c : Int), .slice pA DA.length kA] 34)).alloc (.cells #[.int .i64 AP, .int .i64 (c : Int), .int .i64 (c : Int), .slice pB DB.length kB] 34)).heap.size = w.heap.size + 1 + 1 := by simp
  generalize (w.alloc (.cells #[.int .i64 AP, .int .i64 (r : Int), .int .i64 (c : Int), .slice pA DA.length kA] 34)).alloc (.cells #[.int .i64 AP, .int .i64 (c : Int), .int .i64 (c : Int), .slice pB DB.length kB] 34) = w1 at *
  obtain ⟨cA0, cA1, cA2, cA3, cAf, cAz⟩ := blk4 ZA1.out
  go_wp2_with fail
  refine (implIsSpace_yes _ _ _ _ _ Hka.out _ (HdA.out.below HB1.out)).mono ?_
  rintro e w2 ⟨rfl, hb⟩
  have hs2 := hb.size
  have HB2 := Lib.hid (HB1.out.trans (hb.mono HB1.out.size))
  have ZA2 := Lib.hid (blk_later ZA1.out hb)
  have ZB2 := Lib.hid (blk_later ZB1.out hb)
  clear hb ZA1 ZB1
  clear cA0 cA1 cA2 cA3 cAf cAz
  obtain ⟨cB0, cB1, cB2, cB3, cBf, cBz⟩ := blk4 ZB2.out
  go_wp2_with fail
  refine (implFlag_yes _ _ _ _ _ Hkb.out _ (HdB.out.below HB2.out)).mono ?_
  rintro e w3 ⟨rfl, hb⟩
  have hs3 := hb.size
  have HB3 := Lib.hid (HB2.out.trans (hb.mono HB2.out.size))
  have ZA3 := Lib.hid (blk_later ZA2.out hb)
  have ZB3 := Lib.hid (blk_later ZB2.out hb)
  clear hb ZA2 ZB2
  clear cB0 cB1 cB2 cB3 cBf cBz
  obtain ⟨cA0, cA1, cA2, cA3, cAf, cAz⟩ := blk4 ZA3.out
  obtain ⟨cB0, cB1, cB2, cB3, cBf, cBz⟩ := blk4 ZB3.out
  go_wp2_with fail
  refine (fitTogether_any _ _ _ _ _ _ _ _ DA DB _ (HdA.out.below HB3.out) (HdB.out.below HB3.out)).mono ?_
  rintro e w4 ⟨rfl, hb⟩
  have hs4 := hb.size
  have HB4 := Lib.hid (HB3.out.trans (hb.mono HB3.out.size))
  have ZA4 := Lib.hid (blk_later ZA3.out hb)
  have ZB4 := Lib.hid (blk_later ZB3.out hb)
  clear hb ZA3 ZB3
  clear cA0 cA1 cA2 cA3 cAf cAz cB0 cB1 cB2 cB3 cBf cBz
  rw [Hf.out]
  obtain ⟨cA0, cA1, cA2, cA3, cAf, cAz⟩ := blk4 ZA4.out
  go_wp2_with fail
  refine (IsInBox_any _ DS r c _ (HdS.out.below HB4.out) hrc hc0 hc).mono ?_
  rintro e w5 ⟨rfl, hq⟩
  have hb := hq.below w4.heap.size
  clear hq
  have hs5 := hb.size
  have HB5 := Lib.hid (HB4.out.trans (hb.mono HB4.out.size))
  have ZA5 := Lib.hid (blk_later ZA4.out hb)
  have ZB5 := Lib.hid (blk_later ZB4.out hb)
  clear hb ZA4 ZB4
  clear cA0 cA1 cA2 cA3 cAf cAz
  rw [Hbx.out]
  have HS0 : Hid (S2 w AP (r : Int) (c : Int) (.slice pA DA.length kA) AP (c : Int) (c : Int) (.slice pB DB.length kB) w5) := Lib.hid (S2.of_blk ZA5.out ZB5.out HB5.out)
  clear ZA5 ZB5
  go_wp2_with fail
  obtain ⟨⟨cA0, cA1, cA2, cA3, cB0, cB1, cB2, cB3⟩, hBw⟩ := HS0.out
  go_region_held3 (fun w' => (w'.cell? ⟨w.heap.size, 0, none⟩ = some (.int .i64 AP) ∧ w'.cell? ⟨w.heap.size, 1, none⟩ = some (.int .i64 (r : Int)) ∧ w'.cell? ⟨w.heap.size, 2, none⟩ = some (.int .i64 (c : Int)) ∧ w'.cell? ⟨w.heap.size, 3, none⟩ = some (.slice pA DA.length kA) ∧ w'.cell? ⟨w.heap.size + 1, 0, none⟩ = some (.int .i64 AP) ∧ w'.cell? ⟨w.heap.size + 1, 1, none⟩ = some (.int .i64 (c : Int)) ∧ w'.cell? ⟨w.heap.size + 1, 2, none⟩ = some (.int .i64 (c : Int)) ∧ w'.cell? ⟨w.heap.size + 1, 3, none⟩ = some (.slice pB DB.length kB)) ∧ Below w.heap.size w w')
    (first | exact ⟨⟨cA0, cA1, cA2, cA3, cB0, cB1, cB2, cB3⟩, hBw.drew⟩ | exact keep8 hb1 (by assumption))
    (first
      | (go_at_call_of 41 (Value.slice pA DA.length kA); refine (lines_any AP r c _ DA _ (held_ints HdA.out (by assumption)) (by omega) (by omega) hc0 HlA.out).mono ?_; rintro e w' ⟨u, rfl, ho, hb1⟩; have hrA := ho.rd; clear ho; obtain ⟨qA, gA, rfl, hgA1, hgA2⟩ := hrA.shapeR (rowsOf_length _ _ _))
      | (go_at_call_of 41 (Value.slice pB DB.length kB); refine (lines_any AP c c _ DB _ (held_ints HdB.out (by assumption)) (by omega) (by omega) hc0 HlB.out).mono ?_; rintro e w' ⟨u, rfl, ho, hb1⟩; have hrB := ho.rd; clear ho; obtain ⟨qB, gB, rfl, hgB1, hgB2⟩ := hrB.shapeR (rowsOf_length _ _ _); have hrA := (RdII.below hrA (by first | exact Below.refl _ _ | exact (Below.refl _ _).drew)).below hb1))
  have hS1 : S2 w AP (r : Int) (c : Int) (.slice pA DA.length kA) AP (c : Int) (c : Int) (.slice pB DB.length kB) _ := (by assumption)
  obtain ⟨wk, rfl⟩ : ∃ x : World, x = w' := ⟨_, rfl⟩
  unfold maxLen at hgA2 hgB2
  have HRA := Lib.hid hrA
  have HRB := Lib.hid hrB
  have HS1 := Lib.hid hS1
  clear hrA hrB hS1 hb1 cA0 cA1 cA2 cA3 cB0 cB1 cB2 cB3 hBw
  obtain ⟨⟨cA0, cA1, cA2, cA3, cB0, cB1, cB2, cB3⟩, hBw⟩ := HS1.out
  go_wp2_with fail
  clear cA0 cA1 cA2 cA3 cB0 cB1 cB2 cB3 hBw
  go_loopg [9, 39] r (fun g s9 s39 wr => ∃ i : Nat, i ≤ r ∧ g = r - i ∧ s39 = .int .i64 i ∧ Hid (S2 w AP (r : Int) (c : Int) (.slice pA DA.length kA) AP (c : Int) (c : Int) (.slice pB DB.length kB) wr) ∧ Hid (MfUp AP r c (mf c fun t => DA.getD t 0) (mf c fun t => DB.getD t 0) DS i) ∧ Hid (Below wk.heap.size wk wr))
  case atStart => exact ⟨0, Nat.zero_le _, rfl, rfl, HS1.out, fun i hi => absurd hi (Nat.not_lt_zero _), Below.refl _ _⟩
  case round =>
    obtain ⟨i, hi, rfl, rfl, hS, hup, hbk⟩ := hrel
    obtain ⟨wj, rfl⟩ : ∃ x : World, x = wr := ⟨_, rfl⟩
    obtain ⟨⟨cA0, cA1, cA2, cA3, cB0, cB1, cB2, cB3⟩, hBw⟩ := hS.out
    by_cases hir : i < r
    · have hir2 : (i : Int) < (r : Int) := by omega
      obtain ⟨s, hs0⟩ : ∃ s, s = DS.getD i 0 := ⟨_, rfl⟩
      have hsb := Hbf.out i hir
      rw [← hs0] at hsb
      obtain ⟨hsb0, hsb1⟩ := hsb
      obtain ⟨jj, hjj⟩ : ∃ jj, jj = mfJ DS r c i := ⟨_, rfl⟩
      have hjv : (jj : Int) = (c : Int) - (r : Int) + (i : Int) + 1 - s := by rw [hjj]; unfold mfJ; rw [← hs0]; omega
      have hjc : jj ≤ c := by omega
      have Hi6 := Lib.hid (show i ≤ 1000000 by omega)
      have Hjj := Lib.hid hjj
      have Hs0 := Lib.hid hs0
      have Hw1 := Lib.hid (show IntKind.i64.wrap ((c : Int) - (r : Int)) = (c : Int) - (r : Int) from k64 (by omega) (by omega))
      have Hw2 := Lib.hid (show IntKind.i64.wrap ((c : Int) - (r : Int) + (i : Int)) = (c : Int) - (r : Int) + (i : Int) from k64 (by omega) (by omega))
      have Hw3 := Lib.hid (show IntKind.i64.wrap ((c : Int) - (r : Int) + (i : Int) + 1) = (c : Int) - (r : Int) + (i : Int) + 1 from k64 (by omega) (by omega))
      have Hw4 := Lib.hid (show IntKind.i64.wrap ((c : Int) - (r : Int) + (i : Int) + 1 - s) = (jj : Int) by rw [hjv]; exact k64 (by omega) (by omega))
      have Hw5 := Lib.hid (show IntKind.i64.wrap ((i : Int) + 1) = (i : Int) + 1 from k64 (by omega) (by omega))
      clear hjj hs0 hjv
      have HRAj := Lib.hid (HRA.out.below hbk.out)
      have HRBj := Lib.hid (HRB.out.below hbk.out)
      have hj0 : (0 : Int) ≤ (jj : Int) := by omega
      have hj3 : (jj : Int) ≤ (gB : Int) := by omega
      have hj5 : jj ≤ gB := by omega
      go_wp2_with fail
      have hw1 := Hw1.out
      have hw2 := Hw2.out
      have hw3 := Hw3.out
      have hw4 := Hw4.out
      have hw5 := Hw5.out
      go_region_held3 (fun w' => (w'.cell? ⟨w.heap.size, 0, none⟩ = some (.int .i64 AP) ∧ w'.cell? ⟨w.heap.size, 1, none⟩ = some (.int .i64 (r : Int)) ∧ w'.cell? ⟨w.heap.size, 2, none⟩ = some (.int .i64 (c : Int)) ∧ w'.cell? ⟨w.heap.size, 3, none⟩ = some (.slice pA DA.length kA) ∧ w'.cell? ⟨w.heap.size + 1, 0, none⟩ = some (.int .i64 AP) ∧ w'.cell? ⟨w.heap.size + 1, 1, none⟩ = some (.int .i64 (c : Int)) ∧ w'.cell? ⟨w.heap.size + 1, 2, none⟩ = some (.int .i64 (c : Int)) ∧ w'.cell? ⟨w.heap.size + 1, 3, none⟩ = some (.slice pB DB.length kB)) ∧ Below w.heap.size w w')
        (first | exact ⟨⟨cA0, cA1, cA2, cA3, cB0, cB1, cB2, cB3⟩, hBw.drew⟩ | exact keep8 hb1 (by assumption))
        (first
          | (go_at_call 63; refine (rowOf_s _ DS i s Hs0.out Hi6.out _ (held_ints HdS.out (by assumption))).mono ?_; rintro e w' ⟨rfl, hb1⟩; have hbz : Below wj.heap.size wj w' := (by first | exact below_trans hbz hb1 | exact below_trans hbz (below_of_drew hb1) | exact hb1 | exact below_of_drew hb1))
          | (go_at_call 60; refine (common_b AP r c c r jj _ _ DA DB _ (HRAj.out.below (by first | exact hbz | exact hbz.drew | exact Below.refl _ _ | exact (Below.refl _ _).drew)) (by rw [← rowsOf_take (R := c) hjc]; exact RdII.take (HRBj.out.below (by first | exact hbz | exact hbz.drew | exact Below.refl _ _ | exact (Below.refl _ _).drew)) (by rw [rowsOf_length]; exact hjc)) HlA.out HlB.out hr hc hc (Nat.le_refl _) hjc HgA.out HgB.out Hpr.out).mono ?_; rintro e w' ⟨ma, rfl, hma, hma1, hma2, hb1⟩; have hbz : Below wj.heap.size wj w' := (by first | exact below_trans hbz hb1 | exact below_trans hbz (below_of_drew hb1) | exact hb1 | exact below_of_drew hb1)))
      have hS2 : S2 w AP (r : Int) (c : Int) (.slice pA DA.length kA) AP (c : Int) (c : Int) (.slice pB DB.length kB) _ := (by assumption)
      obtain ⟨wn, rfl⟩ : ∃ x : World, x = w' := ⟨_, rfl⟩
      have HS2 := Lib.hid hS2
      have Hbz := Lib.hid hbz
      rw [Hjj.out] at hma
      have Hma := Lib.hid hma
      clear hS2 hbz hb1 hma hw1 hw2 hw3 hw4 hw5 cA0 cA1 cA2 cA3 cB0 cB1 cB2 cB3 hBw
      by_cases hlt : ma < (i : Int) + 1
      · go_wp2_with fail
        go_ret
        exact ⟨_, rfl, ⟨fun e => (by cases e), fun e => absurd e (mf_out hP2 hir Hma.out hlt)⟩, HS2.out.2⟩
      · go_wp2_with fail
        go_roundg (r - (i + 1))
        case measure => omega
        case rel => exact ⟨i + 1, hir, rfl, by go_num, HS2.out, hup.out.snoc hP2 Hma.out (by omega), hbk.out.trans (Hbz.out.mono hbk.out.size)⟩
    · obtain rfl : i = r := by omega
      go_wp2_with fail
      go_ret
      exact ⟨_, rfl, ⟨fun _ => hup.out, fun _ => rfl⟩, hBw⟩

theorem implMf_ex (AP AR AC BP BR BC : Int) (dA dB dS : Value) (DA DB DS : List Int) (w : World) (hdA : Ints w dA DA) (hdB : Ints w dB DB) (hdS : Ints w dS DS) :
    Calls Try.prog 29 #[.agg #[.int .i64 AP, .int .i64 AR, .int .i64 AC, dA], .agg #[.int .i64 BP, .int .i64 BR, .int .i64 BC, dB], dS] w fun e w' => ∃ b, e = .returned (.bool b) ∧ MfIs AP AR AC DA BP BR BC DB DS b ∧ Below w.heap.size w w' := by
  by_cases h : SfIs AP AR AC DA BP BR BC DB
  · cases hx : bxOk DS AR.toNat AC.toNat with
    | false => exact (implMf_no5 AP AR AC BP BR BC dA dB dS DA DB DS w hdA hdB hdS h hx).mono fun e w' ⟨b, r1, r2, r3⟩ => ⟨b, r1, (by subst r2; exact ⟨fun e => (by cases e), fun e => (by rw [hx] at e; cases e.2.1)⟩), r3⟩
    | true => exact (implMf_yes AP AR AC BP BR BC dA dB dS DA DB DS w hdA hdB hdS h hx).mono fun e w' ⟨b, r1, r2, r3⟩ => ⟨b, r1, ⟨fun e => ⟨h, hx, r2.1 e⟩, fun e => r2.2 e.2.2⟩, r3⟩
  have no : ∀ b, b = false → MfIs AP AR AC DA BP BR BC DB DS b := fun b hb => by
    subst hb
    exact ⟨fun e => (by cases e), fun e => absurd e.1 h⟩
  rcases Classical.em (IsSp AP AR AC DA) with ha | ha
  · rcases Classical.em (IsFl BP BR BC DB) with hb | hb
    ·
      refine (implMf_no3 AP AR AC BP BR BC dA dB dS DA DB DS w hdA hdB hdS ha hb ?_).mono fun e w' ⟨b, r1, r2, r3⟩ => ⟨b, r1, no b r2, r3⟩
      cases hf : fitOk AP AC BP BC with
      | false => rfl
      | true =>
        simp [fitOk] at hf
        exact absurd ⟨ha, hb, hf.1, hf.2⟩ h
    · exact (implMf_no2 AP AR AC BP BR BC dA dB dS DA DB DS w hdA hdB hdS ha hb).mono fun e w' ⟨b, r1, r2, r3⟩ => ⟨b, r1, no b r2, r3⟩
  · exact (implMf_no1 AP AR AC BP BR BC dA dB dS DA DB DS w hdA hdB hdS ha).mono fun e w' ⟨b, r1, r2, r3⟩ => ⟨b, r1, no b r2, r3⟩
theorem implMf_any (AP AR AC BP BR BC : Int) (dA dB dS : Value) (DA DB DS : List Int) (w : World) (hdA : Ints w dA DA) (hdB : Ints w dB DB) (hdS : Ints w dS DS) :
    Calls Try.prog 29 #[.agg #[.int .i64 AP, .int .i64 AR, .int .i64 AC, dA], .agg #[.int .i64 BP, .int .i64 BR, .int .i64 BC, dB], dS] w fun e w' => e = .returned (.bool (Classical.epsilon (MfIs AP AR AC DA BP BR BC DB DS))) ∧ Below w.heap.size w w' :=
  (implMf_ex AP AR AC BP BR BC dA dB dS DA DB DS w hdA hdB hdS).mono fun e w' ⟨b, h1, h2, h3⟩ => ⟨by rw [h1, h2.eps], h3⟩


end Go.Proofs.Ytoodgbflaaabmaa

namespace Go.Proofs.Ytoodgbflaaabmaa
set_option linter.all false
open Go.RowKit

/-- the numbers at the first i places -/
def gpA (sh : List Int) (k i : Nat) : List Int := (List.range i).map fun (t : Nat) => (t : Int) + sh.getD (k - 1 - t) 0
def gpB (A : List Int) (n : Nat) : List Int := ((List.range n).filter fun (x : Nat) => decide (¬ (x : Int) ∈ A)).map fun (x : Nat) => (x : Int)
def gpW (sh : List Int) (k n : Nat) : List Int := gpA sh k k ++ gpB (gpA sh k k) n
theorem gpA_length (sh : List Int) (k i : Nat) : (gpA sh k i).length = i := by simp [gpA]
theorem gpA_succ (sh : List Int) (k i : Nat) : gpA sh k (i + 1) = gpA sh k i ++ [(i : Int) + sh.getD (k - 1 - i) 0] := by simp [gpA, List.range_succ]
theorem gpA_getD {sh : List Int} {k i t : Nat} (h : t < i) : (gpA sh k i).getD t 0 = (t : Int) + sh.getD (k - 1 - t) 0 := by simp [gpA, List.getD_eq_getElem?_getD, h]
theorem gpB_len (A : List Int) (n : Nat) : (gpB A n).length ≤ n := by
  unfold gpB
  rw [List.length_map]
  exact Nat.le_trans (List.length_filter_le _ _) (by simp)
theorem gpB_no {A : List Int} {n : Nat} (h : (n : Int) ∈ A) : gpB A (n + 1) = gpB A n := by
  unfold gpB
  rw [List.range_succ, List.filter_append, List.map_append]
  simp [h]
theorem gpB_yes {A : List Int} {n : Nat} (h : ¬ (n : Int) ∈ A) : gpB A (n + 1) = gpB A n ++ [(n : Int)] := by
  unfold gpB
  rw [List.range_succ, List.filter_append, List.map_append]
  simp [h]

set_option maxRecDepth 100000 in
set_option maxHeartbeats 4000000 in
theorem GrassmannianPerm_any (v : Value) (sh : List Int) (k n : Nat) (w : World) (h : Ints w v sh) (hx : bxOk sh k n = true) (hkn : k ≤ n) (hn1 : 1 ≤ n) (hn7 : n ≤ 7) :
    Calls Try.prog 50 #[v, .int .i64 (k : Int), .int .i64 (n : Int)] w (RetI w (gpW sh k n)) := by
  have Hh := Lib.hid h
  have Hx := Lib.hid hx
  have Hr := Lib.hid (bx_facts hx hkn)
  obtain ⟨p, cap, rfl, ⟨hx1, hx2⟩, hxc⟩ := h
  unfold maxLen at hx2
  clear hx hxc
  go_enter Try.func50, Try.ntmps50
  go_wp2_with fail
  refine (IsInBox_any _ sh k n _ Hh.out hkn hn1 hn7).mono ?_
  rintro e w1 ⟨rfl, hq1⟩
  rw [Hx.out]
  have HQ1 := Lib.hid hq1
  have hs1 := hq1.size
  clear hq1
  go_wp2_with fail
  go_loopg [7, 8, 17] k (fun g s7 s8 s17 wr => ∃ i : Nat, i ≤ k ∧ g = k - i ∧ s17 = .int .i64 i ∧ Hid (OwnI 3 wr w.heap.size wr.heap.size s7 (gpA sh k i)) ∧ Hid (Below w.heap.size w wr))
  case atStart =>
    refine ⟨0, Nat.zero_le _, rfl, rfl, ?_, Lib.hid ((HQ1.out.below _).trans ((below_alloc w1 _).mono (by omega)))⟩
    have := (OwnF.ints (xs := []) (OwnF.made0 w1 3 (iv []))).mono (lo' := w.heap.size) (hi' := (w1.alloc (.cells #[] 3)).heap.size) (by omega) (by simp)
    rw [hs1] at this
    exact Lib.hid this
  case round =>
    obtain ⟨i, hi, rfl, rfl, ho, hb⟩ := hrel
    have hsr := hb.out.size
    by_cases hlt : i < k
    · have hlt2 : (i : Int) < (k : Int) := by omega
      obtain ⟨j, hj⟩ : ∃ j, j = k - 1 - i := ⟨_, rfl⟩
      have hji : (k : Int) - 1 - (i : Int) = (j : Int) := by omega
      obtain ⟨s, hs⟩ : ∃ s, s = sh.getD j 0 := ⟨_, rfl⟩
      have hsb := Hr.out j (by omega)
      rw [← hs] at hsb
      have Hs := Lib.hid hs
      have Hj := Lib.hid hj
      have Hji := Lib.hid hji
      have Hn := Lib.hid (show gpA sh k (i + 1) = gpA sh k i ++ [(i : Int) + s] by rw [gpA_succ, hs, hj])
      obtain ⟨q7, k7, e7, _, _⟩ := ho.out.shape
      rw [gpA_length] at e7
      subst e7
      have hofn := ho.out.fn
      rw [gpA_length] at hofn
      have Ho := Lib.hid hofn
      have Hb1 := Lib.hid (show i + 1 ≤ maxLen by unfold maxLen; omega)
      have Hb2 := Lib.hid (show (i + 1) * 8 ≤ 140737488355328 by omega)
      clear hs hj hji ho hofn
      go_wp2_with fail
      rw [Hji.out]
      refine (rowOf_s2 _ sh j s Hs.out (by have := Hj.out; omega) _ (Hh.out.below hb.out)).mono ?_
      rintro e w2 ⟨rfl, hq⟩
      have HQ := Lib.hid hq
      have hsq := hq.size
      clear hq
      go_wp2_with (at_builtin; go_must (refine wpList_append_F rfl (.tmp 20) (.tmp 29) 24 rfl 3 (.int .i64 0) 8 Try.underlying24 info_int rfl w.heap.size wr.heap.size _ i (iv (gpA sh k i)) rfl ((Ho.out.below (HQ.out.below _)).below (below_alloc _ _)) (by rw [size_alloc]; omega) (by rw [size_alloc]; omega) _ 1 _ rfl (rd_one _ _ _ HQ.out.size.symm) (fun j _ => rfl) Hb1.out Hb2.out ?_; intro v2 w3 ho2 hg2))
      go_roundg (k - (i + 1))
      case measure => omega
      case rel =>
        have hbx : Below w.heap.size wr w3 := ((HQ.out.below _).trans ((below_alloc w2 _).mono (by omega))).trans (grownBy_below hg2 Ho.out.blocks (Nat.le_refl _) (by rw [size_alloc]; omega))
        refine ⟨i + 1, by omega, rfl, by go_num, ?_, Lib.hid (hb.out.trans hbx)⟩
        rw [Hn.out]
        exact Lib.hid (OwnI.snoc1 (by rw [gpA_length]; exact ho2))
    · obtain rfl : i = k := by omega
      have hlt2 : ¬ (i : Int) < (i : Int) := by omega
      obtain ⟨A, hA⟩ : ∃ A, A = gpA sh i i := ⟨_, rfl⟩
      have hAl : A.length = i := by rw [hA, gpA_length]
      rw [← hA] at ho
      have HA := Lib.hid hA
      have HAl := Lib.hid hAl
      have Ho0 := Lib.hid ho.out
      obtain ⟨q7, k7, e7, _, _⟩ := ho.out.shape
      rw [hAl] at e7
      subst e7
      have Hb0 := Lib.hid hb.out
      clear hA hAl ho hb
      go_wp2_with fail
      obtain ⟨wa, rfl⟩ : ∃ x : World, x = wr := ⟨_, rfl⟩
      go_loopg [7, 9, 33] n (fun g s7 s9 s33 wr => ∃ x : Nat, x ≤ n ∧ g = n - x ∧ s33 = .int .i64 x ∧ Hid (OwnI 3 wr w.heap.size wr.heap.size s7 (A ++ gpB A x)) ∧ Hid (Below w.heap.size w wr))
      case atStart => exact ⟨0, Nat.zero_le _, rfl, rfl, by rw [show A ++ gpB A 0 = A by simp [gpB]]; exact Ho0, Hb0⟩
      case round =>
        obtain ⟨x, hxn, rfl, rfl, ho, hb⟩ := hrel
        have hsr := hb.out.size
        obtain ⟨L, hL⟩ : ∃ L, L = A ++ gpB A x := ⟨_, rfl⟩
        have hLl : L.length ≤ 14 := by rw [hL, List.length_append, HAl.out]; have := gpB_len A x; omega
        have hLi : i ≤ L.length := by rw [hL, List.length_append, HAl.out]; omega
        have hLt : L.take i = A := by rw [hL, List.take_append_of_le_length (by rw [HAl.out]; exact Nat.le_refl _), List.take_of_length_le (by rw [HAl.out]; exact Nat.le_refl _)]
        rw [← hL] at ho
        have HL := Lib.hid hL
        have Ho := Lib.hid ho.out
        have HLt := Lib.hid hLt
        obtain ⟨N, hN⟩ : ∃ N, N = L.length := ⟨_, rfl⟩
        obtain ⟨q8, k8, e8, hc8, hm8⟩ := ho.out.shape
        rw [← hN] at e8 hc8 hLl hLi
        unfold maxLen at hm8
        subst e8
        have hI := ho.out.ints
        rw [hN] at hI
        have HI := Lib.hid (show Ints wr (.slice q8 i k8) A by rw [← HLt.out]; exact ints_takeP hI (by rw [← hN]; exact hLi))
        have hofn := ho.out.fn
        rw [← hN] at hofn
        have Hof := Lib.hid hofn
        have HN := Lib.hid hN
        clear hL hLt ho hI hofn hN
        by_cases hxlt : x < n
        · have hx3 : (x : Int) < (n : Int) := by omega
          have hi3 : (i : Int) ≤ (k8 : Int) := by omega
          go_wp2_with fail
          refine (contains_any _ A x _ HI.out).mono ?_
          rintro e w2 ⟨rfl, hq⟩
          have hsq := hq.size
          by_cases hc : (x : Int) ∈ A
          · rw [decide_eq_true hc]
            have Hn := Lib.hid (show A ++ gpB A (x + 1) = L by rw [gpB_no hc, HL.out])
            have Ho2 := Lib.hid (Ho.out.below (hq.below _))
            have Hb2 := Lib.hid (hb.out.trans (hq.below _))
            clear hc hq
            go_wp2_with fail
            go_roundg (n - (x + 1))
            case measure => omega
            case rel => exact ⟨x + 1, by omega, rfl, by go_num, by rw [Hn.out, hsq]; exact Ho2, Hb2⟩
          · rw [decide_eq_false hc]
            have Hn := Lib.hid (show A ++ gpB A (x + 1) = L ++ [(x : Int)] by rw [gpB_yes hc, ← List.append_assoc, HL.out])
            have HQ := Lib.hid hq
            have Hc1 := Lib.hid (show N + 1 ≤ maxLen by unfold maxLen; omega)
            have Hc2 := Lib.hid (show (N + 1) * 8 ≤ 140737488355328 by omega)
            clear hc hq
            go_wp2_with (at_builtin; go_must (refine wpList_append_F rfl (.tmp 42) (.tmp 44) 24 rfl 3 (.int .i64 0) 8 Try.underlying24 info_int rfl w.heap.size wr.heap.size _ N (iv L) rfl ((Hof.out.below (HQ.out.below _)).below (below_alloc _ _)) (by rw [size_alloc]; omega) (by rw [size_alloc]; omega) _ 1 _ rfl (rd_one _ _ _ HQ.out.size.symm) (fun j _ => rfl) Hc1.out Hc2.out ?_; intro v2 w3 ho2 hg2))
            go_roundg (n - (x + 1))
            case measure => omega
            case rel =>
              have hbx : Below w.heap.size wr w3 := ((HQ.out.below _).trans ((below_alloc w2 _).mono (by omega))).trans (grownBy_below hg2 Hof.out.blocks (Nat.le_refl _) (by rw [size_alloc]; omega))
              refine ⟨x + 1, by omega, rfl, by go_num, ?_, Lib.hid (hb.out.trans hbx)⟩
              rw [Hn.out]
              exact Lib.hid (OwnI.snoc1 (by rw [← HN.out]; exact ho2))
        · obtain rfl : x = n := by omega
          have hx3 : ¬ (x : Int) < (x : Int) := by omega
          go_wp2_with fail
          go_ret
          refine ⟨_, rfl, ?_, hb.out⟩
          unfold gpW
          rw [← HA.out, ← HL.out]
          exact Ho.out

end Go.Proofs.Ytoodgbflaaabmaa

namespace Go.Proofs.Ytoodgbflaaabmaa
set_option linter.all false
open Go.RowKit

def gsK (A : List Int) (t : Nat) (j : Nat) : Int := if (j : Int) ∈ A.take t then 1 else 0
def gsL (sh : List Int) (k n : Nat) : List Int := (List.range n).map fun j => gsK (gpA sh k k) k j
theorem gsL_length (sh : List Int) (k n : Nat) : (gsL sh k n).length = n := by simp [gsL]
theorem gsL_getD {sh : List Int} {k n j : Nat} (h : j < n) : (gsL sh k n).getD j 0 = gsK (gpA sh k k) k j := by simp [gsL, List.getD_eq_getElem?_getD, h]
theorem gsK_succ {A : List Int} {t j : Nat} (ht : t < A.length) : gsK A (t + 1) j = if (j : Int) = A.getD t 0 then 1 else gsK A t j := by
  unfold gsK
  rw [List.take_succ, List.getElem?_eq_getElem ht, getD_lt ht]
  simp only [Option.toList, List.mem_append, List.mem_singleton]
  by_cases e : (j : Int) = A[t] <;> simp [e]

set_option maxRecDepth 100000 in
set_option maxHeartbeats 4000000 in
theorem StringOfShape_any (v : Value) (sh : List Int) (k n : Nat) (w : World) (h : Ints w v sh) (hx : bxOk sh k n = true) (hkn : k ≤ n) (hk1 : 1 ≤ k) (hn7 : n ≤ 7) :
    Calls Try.prog 19 #[v, .int .i64 (k : Int), .int .i64 (n : Int)] w (RetI w (gsL sh k n)) := by
  have Hh := Lib.hid h
  have Hx := Lib.hid hx
  have Hr := Lib.hid (bx_facts hx hkn)
  have hmk := run_make_row' (P := Try.prog) 24 3 (.int .i64 0) 8 Try.underlying24 info_int rfl .i64 .i64 n (by omega) (by omega)
  have Hmk := Lib.hid hmk
  obtain ⟨p, cap, rfl, ⟨hx1, hx2⟩, hxc⟩ := h
  unfold maxLen at hx2
  clear hx hxc hmk
  go_enter Try.func19, Try.ntmps19
  go_wp2_with fail
  refine (GrassmannianPerm_any _ sh k n _ Hh.out Hx.out hkn (by omega) hn7).mono ?_
  rintro e w1 ⟨u, rfl, hou, hb1⟩
  obtain ⟨N, hN⟩ : ∃ N, N = (gpW sh k n).length := ⟨_, rfl⟩
  have hkN : k ≤ N := by rw [hN]; unfold gpW; rw [List.length_append, gpA_length]; omega
  have hN14 : N ≤ 14 := by rw [hN]; unfold gpW; rw [List.length_append, gpA_length]; have := gpB_len (gpA sh k k) n; omega
  obtain ⟨A, hA⟩ : ∃ A, A = gpA sh k k := ⟨_, rfl⟩
  have hAl : A.length = k := by rw [hA, gpA_length]
  have hAt : (gpW sh k n).take k = A := by
    unfold gpW
    rw [← hA, List.take_append_of_le_length (by rw [hAl]; exact Nat.le_refl _), List.take_of_length_le (by rw [hAl]; exact Nat.le_refl _)]
  have hAr : ∀ t, t < k → ∃ m : Nat, A.getD t 0 = (m : Int) ∧ m < n := fun t ht => by
    have a := Hr.out (k - 1 - t) (by omega)
    rw [hA, gpA_getD ht]
    exact ⟨((t : Int) + sh.getD (k - 1 - t) 0).toNat, by omega, by omega⟩
  have hI := hou.ints
  obtain ⟨pu, ku, eu, hku, hku2⟩ := hou.shape
  rw [← hN] at eu hku
  unfold maxLen at hku2
  subst eu
  rw [hN] at hI
  have hI2 : Ints w1 (.slice pu k ku) A := by
    rw [← hAt]
    exact ints_takeP hI (by rw [← hN]; exact hkN)
  have HA := Lib.hid hA
  have HAl := Lib.hid hAl
  have HAr := Lib.hid hAr
  have HI2 := Lib.hid hI2
  have HB1 := Lib.hid hb1
  obtain ⟨_, _, e, _, hc0⟩ := hI2
  injection e with e1 e2 e3
  subst e1 e3
  rw [hAl] at hc0
  obtain ⟨b, off, hpb, hc⟩ := hc0 (by omega)
  subst hpb
  have Hc := Lib.hid hc
  have keq := Lib.run_eql_slice_nil (P := Try.prog) w1 24 3 (some ⟨b, off, none⟩) N ku 0 0 Try.underlying24
  have hmk := Hmk.out
  clear hou hb1 hI hA hAl hAt hAr hN hc hc0 e2
  have hki : (k : Int) ≤ (ku : Int) := by omega
  go_wp2_with fail
  clear keq hmk
  go_loopg [10, 23] k (fun g s10 s23 wr => ∃ t : Nat, t ≤ k ∧ g = k - t ∧ s23 = .int .i64 t ∧ Hid (Below w1.heap.size w1 wr) ∧ Hid (wr.rowIs w1.heap.size 3 n (fun j => .int .i64 (gsK A t j))))
  case atStart =>
    refine ⟨0, Nat.zero_le _, rfl, rfl, Lib.hid (below_alloc _ _), Lib.hid ?_⟩
    exact (World.rowIs_made w1 (.int .i64 0) n 3).congr fun j _ => by simp [gsK]
  case round =>
    obtain ⟨t, ht, rfl, rfl, hbw, hrow⟩ := hrel
    by_cases hlt : t < k
    · obtain ⟨m, hm, hmn⟩ := HAr.out t hlt
      have c1 : wr.cell? ⟨b, off + t, none⟩ = some (.int .i64 (m : Int)) := by
        rw [hbw.out.cell (p := ⟨b, off + t, none⟩) (World.block_lt_of_cell? _ _ (Hc.out t hlt)), Hc.out t hlt]; simp only [iv, hm]
      obtain ⟨z, c2⟩ : ∃ z, wr.cell? ⟨w1.heap.size, m, none⟩ = some (.int .i64 z) := ⟨_, hrow.out.cell hmn⟩
      have c3 := hrow.out.frozen m
      have i1 : (t : Int) < (k : Int) := by omega
      have i2 : (m : Int) < (n : Int) := by omega
      have Hm := Lib.hid hm
      have Hrow := Lib.hid hrow.out
      have Hbw := Lib.hid hbw.out
      clear hm hrow hbw
      go_wp2_with fail
      go_roundg (k - (t + 1))
      case measure => omega
      case rel =>
        refine ⟨t + 1, by omega, rfl, by go_num, Lib.hid (Hbw.out.setCell (Nat.le_refl _) _), Lib.hid ((Hrow.out.set m _).congr fun j hj => ?_)⟩
        rw [gsK_succ (by rw [HAl.out]; exact hlt), Hm.out]
        by_cases e : j = m
        · subst e; simp
        · simp [e, show ¬ (j : Int) = (m : Int) by omega]
    · obtain rfl : t = k := by omega
      have i1 : ¬ (t : Int) < (t : Int) := by omega
      have ho := rowIs_ints (xs := gsL sh t n) (by rw [gsL_length]; exact hrow.out.congr fun j hj => by rw [iv, gsL_getD hj, HA.out]) (by rw [gsL_length]; unfold maxLen; omega)
      rw [gsL_length] at ho
      have Ho := Lib.hid (ho.mono HB1.out.size (Nat.le_refl _))
      clear ho hrow
      go_wp2_with fail
      go_ret
      exact ⟨_, rfl, Ho.out, HB1.out.trans (hbw.out.mono HB1.out.size)⟩

end Go.Proofs.Ytoodgbflaaabmaa
