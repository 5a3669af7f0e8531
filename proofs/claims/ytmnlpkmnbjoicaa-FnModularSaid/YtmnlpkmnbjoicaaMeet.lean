/-
  MeetSpaces, the reference's side and the program's noes.
-/
import Derived.Test.YtmnlpkmnbjoicaaMeetS
namespace Go.Proofs.Ytmnlpkmnbjoicaa
set_option linter.all false
open Go.RowKit


set_option maxRecDepth 100000 in
set_option maxHeartbeats 4000000 in
theorem implMeet_no1 (AP AR AC BP BR BC : Int) (dA dB : Value) (DA DB : List Int) (w : World) (hdA : Ints w dA DA) (hdB : Ints w dB DB) (ha : ¬ IsSp AP AR AC DA) :
    Calls Try.prog 9 #[.agg #[.int .i64 AP, .int .i64 AR, .int .i64 AC, dA], .agg #[.int .i64 BP, .int .i64 BR, .int .i64 BC, dB]] w fun e w' => RetMB w mxZero false e w' := by
  have Hka := Lib.hid ha
  clear ha
  have HdA := Lib.hid hdA
  obtain ⟨pA, kA, rfl, ⟨_, mA⟩, _⟩ := hdA
  unfold maxLen at mA
  have HdB := Lib.hid hdB
  obtain ⟨pB, kB, rfl, ⟨_, mB⟩, _⟩ := hdB
  unfold maxLen at mB
  obtain ⟨z0, z1, z2⟩ := boxes_abz w (.cells #[.int .i64 AP, .int .i64 AR, .int .i64 AC, .slice pA DA.length kA] 26) (.cells #[.int .i64 BP, .int .i64 BR, .int .i64 BC, .slice pB DB.length kB] 26) (.cells #[.int .i64 0, .int .i64 0, .int .i64 0, .slice none 0 0] 26)
  have ZA1 := Lib.hid z0
  have ZB1 := Lib.hid z1
  have ZZ1 := Lib.hid z2
  clear z0 z1 z2
  have HB1 := Lib.hid (below_alloc3 w (.cells #[.int .i64 AP, .int .i64 AR, .int .i64 AC, .slice pA DA.length kA] 26) (.cells #[.int .i64 BP, .int .i64 BR, .int .i64 BC, .slice pB DB.length kB] 26) (.cells #[.int .i64 0, .int .i64 0, .int .i64 0, .slice none 0 0] 26))
  go_enter Try.func9, Try.ntmps9
  go_wp2_with fail
  have hs1 : (((w.alloc (.cells #[.int .i64 AP, .int .i64 AR, .int .i64 AC, .slice pA DA.length kA] 26)).alloc (.cells #[.int .i64 BP, .int .i64 BR, .int .i64 BC, .slice pB DB.length kB] 26)).alloc (.cells #[.int .i64 0, .int .i64 0, .int .i64 0, .slice none 0 0] 26)).heap.size = w.heap.size + 1 + 1 + 1 := by simp
  generalize ((w.alloc (.cells #[.int .i64 AP, .int .i64 AR, .int .i64 AC, .slice pA DA.length kA] 26)).alloc (.cells #[.int .i64 BP, .int .i64 BR, .int .i64 BC, .slice pB DB.length kB] 26)).alloc (.cells #[.int .i64 0, .int .i64 0, .int .i64 0, .slice none 0 0] 26) = w1 at *
  obtain ⟨cA0, cA1, cA2, cA3, cAf, cAz⟩ := blk4 ZA1.out
  go_wp2_with fail
  refine (implIsSpace_no _ _ _ _ _ Hka.out _ (HdA.out.below HB1.out)).mono ?_
  rintro e w2 ⟨rfl, hb⟩
  have hs2 := hb.size
  have HB2 := Lib.hid (HB1.out.trans (hb.mono HB1.out.size))
  have ZA2 := Lib.hid (blk_later ZA1.out hb)
  have ZB2 := Lib.hid (blk_later ZB1.out hb)
  have ZZ2 := Lib.hid (blk_later ZZ1.out hb)
  clear hb ZA1 ZB1 ZZ1
  clear cA0 cA1 cA2 cA3 cAf cAz
  obtain ⟨cZ0, cZ1, cZ2, cZ3, cZf, cZz⟩ := blk4 ZZ2.out
  go_wp2_with fail
  obtain ⟨f0, f1, f2, f3, ff, fz⟩ := blk4 (set4_all ZZ2.out (.int .i64 0) (.int .i64 0) (.int .i64 0) (.slice none 0 0))
  refine bodyPost_ret (v := .tuple #[.agg #[.int .i64 0, .int .i64 0, .int .i64 0, .slice none 0 0], .bool false]) (by simp [results, Try.results9, go_sem, f0, f1, f2, f3, fz]) rfl ⟨_, rfl, ?_, ?_⟩
  · exact ⟨World.ownsRow_nil _ _ _ _, fun k hk => by simp [Value.ownBlock] at hk⟩
  · exact below_set4 HB2.out (by omega) _ _ _ _

set_option maxRecDepth 100000 in
set_option maxHeartbeats 4000000 in
theorem implMeet_no2 (AP AR AC BP BR BC : Int) (dA dB : Value) (DA DB : List Int) (w : World) (hdA : Ints w dA DA) (hdB : Ints w dB DB) (ha : IsSp AP AR AC DA) (hb : ¬ IsSp BP BR BC DB) :
    Calls Try.prog 9 #[.agg #[.int .i64 AP, .int .i64 AR, .int .i64 AC, dA], .agg #[.int .i64 BP, .int .i64 BR, .int .i64 BC, dB]] w fun e w' => RetMB w mxZero false e w' := by
  have Hka := Lib.hid ha
  have Hkb := Lib.hid hb
  clear ha hb
  have HdA := Lib.hid hdA
  obtain ⟨pA, kA, rfl, ⟨_, mA⟩, _⟩ := hdA
  unfold maxLen at mA
  have HdB := Lib.hid hdB
  obtain ⟨pB, kB, rfl, ⟨_, mB⟩, _⟩ := hdB
  unfold maxLen at mB
  obtain ⟨z0, z1, z2⟩ := boxes_abz w (.cells #[.int .i64 AP, .int .i64 AR, .int .i64 AC, .slice pA DA.length kA] 26) (.cells #[.int .i64 BP, .int .i64 BR, .int .i64 BC, .slice pB DB.length kB] 26) (.cells #[.int .i64 0, .int .i64 0, .int .i64 0, .slice none 0 0] 26)
  have ZA1 := Lib.hid z0
  have ZB1 := Lib.hid z1
  have ZZ1 := Lib.hid z2
  clear z0 z1 z2
  have HB1 := Lib.hid (below_alloc3 w (.cells #[.int .i64 AP, .int .i64 AR, .int .i64 AC, .slice pA DA.length kA] 26) (.cells #[.int .i64 BP, .int .i64 BR, .int .i64 BC, .slice pB DB.length kB] 26) (.cells #[.int .i64 0, .int .i64 0, .int .i64 0, .slice none 0 0] 26))
  go_enter Try.func9, Try.ntmps9
  go_wp2_with fail
  have hs1 : (((w.alloc (.cells #[.int .i64 AP, .int .i64 AR, .int .i64 AC, .slice pA DA.length kA] 26)).alloc (.cells #[.int .i64 BP, .int .i64 BR, .int .i64 BC, .slice pB DB.length kB] 26)).alloc (.cells #[.int .i64 0, .int .i64 0, .int .i64 0, .slice none 0 0] 26)).heap.size = w.heap.size + 1 + 1 + 1 := by simp
  generalize ((w.alloc (.cells #[.int .i64 AP, .int .i64 AR, .int .i64 AC, .slice pA DA.length kA] 26)).alloc (.cells #[.int .i64 BP, .int .i64 BR, .int .i64 BC, .slice pB DB.length kB] 26)).alloc (.cells #[.int .i64 0, .int .i64 0, .int .i64 0, .slice none 0 0] 26) = w1 at *
  obtain ⟨cA0, cA1, cA2, cA3, cAf, cAz⟩ := blk4 ZA1.out
  go_wp2_with fail
  refine (implIsSpace_yes _ _ _ _ _ Hka.out _ (HdA.out.below HB1.out)).mono ?_
  rintro e w2 ⟨rfl, hb⟩
  have hs2 := hb.size
  have HB2 := Lib.hid (HB1.out.trans (hb.mono HB1.out.size))
  have ZA2 := Lib.hid (blk_later ZA1.out hb)
  have ZB2 := Lib.hid (blk_later ZB1.out hb)
  have ZZ2 := Lib.hid (blk_later ZZ1.out hb)
  clear hb ZA1 ZB1 ZZ1
  clear cA0 cA1 cA2 cA3 cAf cAz
  obtain ⟨cB0, cB1, cB2, cB3, cBf, cBz⟩ := blk4 ZB2.out
  go_wp2_with fail
  refine (implIsSpace_no _ _ _ _ _ Hkb.out _ (HdB.out.below HB2.out)).mono ?_
  rintro e w3 ⟨rfl, hb⟩
  have hs3 := hb.size
  have HB3 := Lib.hid (HB2.out.trans (hb.mono HB2.out.size))
  have ZA3 := Lib.hid (blk_later ZA2.out hb)
  have ZB3 := Lib.hid (blk_later ZB2.out hb)
  have ZZ3 := Lib.hid (blk_later ZZ2.out hb)
  clear hb ZA2 ZB2 ZZ2
  clear cB0 cB1 cB2 cB3 cBf cBz
  obtain ⟨cZ0, cZ1, cZ2, cZ3, cZf, cZz⟩ := blk4 ZZ3.out
  go_wp2_with fail
  obtain ⟨f0, f1, f2, f3, ff, fz⟩ := blk4 (set4_all ZZ3.out (.int .i64 0) (.int .i64 0) (.int .i64 0) (.slice none 0 0))
  refine bodyPost_ret (v := .tuple #[.agg #[.int .i64 0, .int .i64 0, .int .i64 0, .slice none 0 0], .bool false]) (by simp [results, Try.results9, go_sem, f0, f1, f2, f3, fz]) rfl ⟨_, rfl, ?_, ?_⟩
  · exact ⟨World.ownsRow_nil _ _ _ _, fun k hk => by simp [Value.ownBlock] at hk⟩
  · exact below_set4 HB3.out (by omega) _ _ _ _

set_option maxRecDepth 100000 in
set_option maxHeartbeats 4000000 in
theorem implMeet_no3 (AP AR AC BP BR BC : Int) (dA dB : Value) (DA DB : List Int) (w : World) (hdA : Ints w dA DA) (hdB : Ints w dB DB) (ha : IsSp AP AR AC DA) (hb : IsSp BP BR BC DB) (hf : fitOk AP AC BP BC = false) :
    Calls Try.prog 9 #[.agg #[.int .i64 AP, .int .i64 AR, .int .i64 AC, dA], .agg #[.int .i64 BP, .int .i64 BR, .int .i64 BC, dB]] w fun e w' => RetMB w mxZero false e w' := by
  have Hka := Lib.hid ha
  have Hkb := Lib.hid hb
  have Hf := Lib.hid hf
  clear ha hb hf
  have HdA := Lib.hid hdA
  obtain ⟨pA, kA, rfl, ⟨_, mA⟩, _⟩ := hdA
  unfold maxLen at mA
  have HdB := Lib.hid hdB
  obtain ⟨pB, kB, rfl, ⟨_, mB⟩, _⟩ := hdB
  unfold maxLen at mB
  obtain ⟨z0, z1, z2⟩ := boxes_abz w (.cells #[.int .i64 AP, .int .i64 AR, .int .i64 AC, .slice pA DA.length kA] 26) (.cells #[.int .i64 BP, .int .i64 BR, .int .i64 BC, .slice pB DB.length kB] 26) (.cells #[.int .i64 0, .int .i64 0, .int .i64 0, .slice none 0 0] 26)
  have ZA1 := Lib.hid z0
  have ZB1 := Lib.hid z1
  have ZZ1 := Lib.hid z2
  clear z0 z1 z2
  have HB1 := Lib.hid (below_alloc3 w (.cells #[.int .i64 AP, .int .i64 AR, .int .i64 AC, .slice pA DA.length kA] 26) (.cells #[.int .i64 BP, .int .i64 BR, .int .i64 BC, .slice pB DB.length kB] 26) (.cells #[.int .i64 0, .int .i64 0, .int .i64 0, .slice none 0 0] 26))
  go_enter Try.func9, Try.ntmps9
  go_wp2_with fail
  have hs1 : (((w.alloc (.cells #[.int .i64 AP, .int .i64 AR, .int .i64 AC, .slice pA DA.length kA] 26)).alloc (.cells #[.int .i64 BP, .int .i64 BR, .int .i64 BC, .slice pB DB.length kB] 26)).alloc (.cells #[.int .i64 0, .int .i64 0, .int .i64 0, .slice none 0 0] 26)).heap.size = w.heap.size + 1 + 1 + 1 := by simp
  generalize ((w.alloc (.cells #[.int .i64 AP, .int .i64 AR, .int .i64 AC, .slice pA DA.length kA] 26)).alloc (.cells #[.int .i64 BP, .int .i64 BR, .int .i64 BC, .slice pB DB.length kB] 26)).alloc (.cells #[.int .i64 0, .int .i64 0, .int .i64 0, .slice none 0 0] 26) = w1 at *
  obtain ⟨cA0, cA1, cA2, cA3, cAf, cAz⟩ := blk4 ZA1.out
  go_wp2_with fail
  refine (implIsSpace_yes _ _ _ _ _ Hka.out _ (HdA.out.below HB1.out)).mono ?_
  rintro e w2 ⟨rfl, hb⟩
  have hs2 := hb.size
  have HB2 := Lib.hid (HB1.out.trans (hb.mono HB1.out.size))
  have ZA2 := Lib.hid (blk_later ZA1.out hb)
  have ZB2 := Lib.hid (blk_later ZB1.out hb)
  have ZZ2 := Lib.hid (blk_later ZZ1.out hb)
  clear hb ZA1 ZB1 ZZ1
  clear cA0 cA1 cA2 cA3 cAf cAz
  obtain ⟨cB0, cB1, cB2, cB3, cBf, cBz⟩ := blk4 ZB2.out
  go_wp2_with fail
  refine (implIsSpace_yes _ _ _ _ _ Hkb.out _ (HdB.out.below HB2.out)).mono ?_
  rintro e w3 ⟨rfl, hb⟩
  have hs3 := hb.size
  have HB3 := Lib.hid (HB2.out.trans (hb.mono HB2.out.size))
  have ZA3 := Lib.hid (blk_later ZA2.out hb)
  have ZB3 := Lib.hid (blk_later ZB2.out hb)
  have ZZ3 := Lib.hid (blk_later ZZ2.out hb)
  clear hb ZA2 ZB2 ZZ2
  clear cB0 cB1 cB2 cB3 cBf cBz
  obtain ⟨cA0, cA1, cA2, cA3, cAf, cAz⟩ := blk4 ZA3.out
  obtain ⟨cB0, cB1, cB2, cB3, cBf, cBz⟩ := blk4 ZB3.out
  go_wp2_with fail
  refine (fitTogether_any _ _ _ _ _ _ _ _ DA DB _ (HdA.out.below HB3.out) (HdB.out.below HB3.out)).mono ?_
  rintro e w4 ⟨rfl, hb⟩
  have hs4 := hb.size
  have HB4 := Lib.hid (HB3.out.trans (hb.mono HB3.out.size))
  have ZA4 := Lib.hid (blk_later ZA3.out hb)
  have ZB4 := Lib.hid (blk_later ZB3.out hb)
  have ZZ4 := Lib.hid (blk_later ZZ3.out hb)
  clear hb ZA3 ZB3 ZZ3
  clear cA0 cA1 cA2 cA3 cAf cAz cB0 cB1 cB2 cB3 cBf cBz
  rw [Hf.out]
  obtain ⟨cZ0, cZ1, cZ2, cZ3, cZf, cZz⟩ := blk4 ZZ4.out
  go_wp2_with fail
  obtain ⟨f0, f1, f2, f3, ff, fz⟩ := blk4 (set4_all ZZ4.out (.int .i64 0) (.int .i64 0) (.int .i64 0) (.slice none 0 0))
  refine bodyPost_ret (v := .tuple #[.agg #[.int .i64 0, .int .i64 0, .int .i64 0, .slice none 0 0], .bool false]) (by simp [results, Try.results9, go_sem, f0, f1, f2, f3, fz]) rfl ⟨_, rfl, ?_, ?_⟩
  · exact ⟨World.ownsRow_nil _ _ _ _, fun k hk => by simp [Value.ownBlock] at hk⟩
  · exact below_set4 HB4.out (by omega) _ _ _ _

/-- the rows of the big matrix, the first k of them -/
def rrL (k c ra : Nat) (DA DB : List Int) : List (List Int) := (List.range k).map (rr c ra DA DB)
theorem rrL_length (k c ra : Nat) (DA DB : List Int) : (rrL k c ra DA DB).length = k := by simp [rrL]
theorem rrL_succ (k c ra : Nat) (DA DB : List Int) : rrL (k + 1) c ra DA DB = rrL k c ra DA DB ++ [rr c ra DA DB k] := by
  simp [rrL, List.range_succ]
theorem rrL_getD {k c ra i : Nat} {DA DB : List Int} (h : i < k) : (rrL k c ra DA DB).getD i [] = rr c ra DA DB i := by
  simp [rrL, List.getD_eq_getElem?_getD, h]
theorem rrL_same {P : Int} {c ra rb : Nat} {DA DB : List Int} (hA : DA.length = ra * c) (hB : DB.length = rb * c) :
    SameSp P (2 * c) (ra + rb) (mtM c ra (mf c fun t => DA.getD t 0) (mf c fun t => DB.getD t 0)) (rrL (ra + rb) c ra DA DB).length (mt (rrL (ra + rb) c ra DA DB)) := by
  rw [rrL_length]
  refine SameSp.of_eqv fun i hi => .of_eq fun j hj => ?_
  unfold mt
  rw [rrL_getD hi]
  exact (rr_mt hA hB hi hj).symm


theorem rrL_ok {P : Int} {c ra rb : Nat} {DA DB : List Int} (hP : 0 < P) (hA : DA.length = ra * c) (hB : DB.length = rb * c) (ha : ∀ t, 0 ≤ DA.getD t 0 ∧ DA.getD t 0 < P) (hb : ∀ t, 0 ≤ DB.getD t 0 ∧ DB.getD t 0 < P) : RowsOk P (2 * c) (rrL (ra + rb) c ra DA DB) := fun i hi => by
  rw [rrL_length] at hi
  rw [rrL_getD hi]
  refine ⟨rr_length hA hB i hi, fun j => ?_⟩
  by_cases hj : j < 2 * c
  · have := rr_rng hP hA hB ha hb (i * (2 * c) + j)
    rw [rowsF_getD (rr_length hA hB) hi hj] at this
    exact this
  · rw [getD_out (by rw [rr_length hA hB i hi]; omega)]; omega
/-- the right halves of the rows whose pivots lie right, of the first k rows -/
def cmL (k c : Nat) (q : Nat → Nat) (L : List (List Int)) : List (List Int) := (keptL k c q).map fun i => (L.getD i []).drop c
theorem cmL_length (k c : Nat) (q : Nat → Nat) (L : List (List Int)) : (cmL k c q L).length = (keptL k c q).length := by simp [cmL]
theorem cmL_yes {k c : Nat} {q : Nat → Nat} {L : List (List Int)} (h : c ≤ q k) : cmL (k + 1) c q L = cmL k c q L ++ [(L.getD k []).drop c] := by
  simp [cmL, keptL_succ, h]
theorem cmL_no {k c : Nat} {q : Nat → Nat} {L : List (List Int)} (h : ¬ c ≤ q k) : cmL (k + 1) c q L = cmL k c q L := by
  simp [cmL, keptL_succ, h]
theorem cmL_getD {k c i : Nat} {q : Nat → Nat} {L : List (List Int)} (h : i < (keptL k c q).length) : (cmL k c q L).getD i [] = (L.getD ((keptL k c q).getD i 0) []).drop c := by
  simp [cmL, List.getD_eq_getElem?_getD, h]
theorem cmL_mt {k c i j : Nat} {q : Nat → Nat} {L : List (List Int)} (h : i < (keptL k c q).length) : mt (cmL k c q L) i j = keptM c (mt L) (keptL k c q) i j := by
  unfold keptM mt
  rw [cmL_getD h]
  simp [List.getD_eq_getElem?_getD, List.getElem?_drop]
theorem cmL_ok {P : Int} {c : Nat} {q : Nat → Nat} {L : List (List Int)} (h : RowsOk P (2 * c) L) : RowsOk P c (cmL L.length c q L) := fun i hi => by
  rw [cmL_length] at hi
  rw [cmL_getD hi]
  have h1 := h _ (keptL_lt hi)
  refine ⟨by rw [List.length_drop, h1.1]; omega, fun j => ?_⟩
  have h2 := h1.2 (c + j)
  simpa [List.getD_eq_getElem?_getD, List.getElem?_drop] using h2
theorem cmL_same {P : Int} {c : Nat} {q : Nat → Nat} {L : List (List Int)} : SameSp P c (keptL L.length c q).length (keptM c (mt L) (keptL L.length c q)) (cmL L.length c q L).length (mt (cmL L.length c q L)) := by
  rw [cmL_length]
  exact SameSp.of_eqv fun i hi => .of_eq fun j hj => (cmL_mt hi).symm


end Go.Proofs.Ytmnlpkmnbjoicaa
