/-
  PositionOf, on both sides.
  IsShape, and a shape in a box, on both sides.
  A shape in a box, on both sides.
-/
import Derived.Test.YtoodgbflaaabmaaJ9
import Derived.Test.YtoodgbflaaabmaaJ3
import Derived.Test.YtoodgbflaaabmaaJ4
namespace Go.Proofs.Ytoodgbflaaabmaa
set_option linter.all false
open Go.RowKit

/-- what has been found so far -/
def PoUp (P : Int) (C : Nat) (A : Nat → Nat → Int) (R : Nat) (B : Nat → Nat → Int) (l : List Int) : Prop := ∀ j, j < l.length → ∃ a b, CmIs P C A R B (j + 1) a ∧ CmIs P C A R B j b ∧ l.getD j 0 = a - b
/-- what PositionOf returns -/
def PoIs (P R C : Int) (D : List Int) (P' R' C' : Int) (D' : List Int) (l : List Int) : Prop :=
  (SfIs P R C D P' R' C' D' ∧ l.length = C.toNat ∧ PoUp P C.toNat (mf C.toNat fun t => D.getD t 0) R.toNat (mf C.toNat fun t => D'.getD t 0) l) ∨ (¬ SfIs P R C D P' R' C' D' ∧ l = [])
theorem PoIs.one {P R C : Int} {D : List Int} {P' R' C' : Int} {D' : List Int} (l l' : List Int) (h : PoIs P R C D P' R' C' D' l) (h' : PoIs P R C D P' R' C' D' l') : l = l' := by
  rcases h with ⟨t, h1, h2⟩ | ⟨t, rfl⟩
  · rcases h' with ⟨_, h1', h2'⟩ | ⟨t', _⟩
    · obtain ⟨_, _, _, _, _, _, _, _, _, hP, _⟩ := mxOk_facts t.1.1
      refine getD_eq_list (by rw [h1, h1']) fun j hj => ?_
      obtain ⟨a, b, k1, k2, k3⟩ := h2 j (by omega)
      obtain ⟨a', b', k1', k2', k3'⟩ := h2' j (by omega)
      rw [k3, k3', k1.one hP k1', k2.one hP k2']
    · exact absurd t t'
  · rcases h' with ⟨t', _⟩ | ⟨_, rfl⟩
    · exact absurd t' t
    · rfl
theorem PoIs.len {P R C : Int} {D : List Int} {P' R' C' : Int} {D' : List Int} (l : List Int) (h : PoIs P R C D P' R' C' D' l) : l.length ≤ 1000 := by
  rcases h with ⟨t, h1, h2⟩ | ⟨t, rfl⟩
  · obtain ⟨r, c, _, rfl, _, _, hc, _⟩ := mxOk_facts t.1.1
    rw [h1]; simp; omega
  · simp
theorem pos_len (P R C : Int) (D : List Int) (P' R' C' : Int) (D' : List Int) : (Classical.epsilon (LsQ (PoIs P R C D P' R' C' D'))).length ≤ 1000 := LsQ.len PoIs.len
theorem PoUp.snoc {P : Int} {C R j : Nat} {A B : Nat → Nat → Int} {l : List Int} {a b : Int} (h : PoUp P C A R B l) (hl : l.length = j) (h1 : CmIs P C A R B (j + 1) a) (h2 : CmIs P C A R B j b) : PoUp P C A R B (l ++ [a - b]) := fun t ht => by
  rw [List.length_append, List.length_singleton] at ht
  by_cases e : t < l.length
  · rw [show (l ++ [a - b]).getD t 0 = l.getD t 0 by simp [List.getD_eq_getElem?_getD, List.getElem?_append_left e]]
    exact h t e
  · obtain rfl : t = j := by omega
    subst hl
    exact ⟨a, b, h1, h2, by simp [List.getD_eq_getElem?_getD]⟩
theorem RdII.shapeR {w : World} {v : Value} {rows : List (List Int)} {n : Nat} (h : RdII w v rows) (hl : rows.length = n) : ∃ p cap, v = .slice p n cap ∧ n ≤ cap ∧ cap ≤ maxLen := by
  obtain ⟨f, ⟨p, cap, e, ⟨h1, h2⟩, _⟩, _⟩ := h
  subst hl
  exact ⟨p, cap, e, h1, h2⟩


/-- the boxes of two matrices still hold what they held, and nothing that was there has changed -/
def S2 (w : World) (P R1 C1 : Int) (d1 : Value) (P2 R2 C2 : Int) (d2 : Value) (W : World) : Prop :=
  (W.cell? ⟨w.heap.size, 0, none⟩ = some (.int .i64 P) ∧ W.cell? ⟨w.heap.size, 1, none⟩ = some (.int .i64 R1) ∧ W.cell? ⟨w.heap.size, 2, none⟩ = some (.int .i64 C1) ∧ W.cell? ⟨w.heap.size, 3, none⟩ = some d1 ∧
   W.cell? ⟨w.heap.size + 1, 0, none⟩ = some (.int .i64 P2) ∧ W.cell? ⟨w.heap.size + 1, 1, none⟩ = some (.int .i64 R2) ∧ W.cell? ⟨w.heap.size + 1, 2, none⟩ = some (.int .i64 C2) ∧ W.cell? ⟨w.heap.size + 1, 3, none⟩ = some d2) ∧ Below w.heap.size w W
theorem S2.later {w : World} {P R1 C1 : Int} {d1 : Value} {P2 R2 C2 : Int} {d2 : Value} {W W' : World} (h : S2 w P R1 C1 d1 P2 R2 C2 d2 W) (hb : Below W.heap.size W W') : S2 w P R1 C1 d1 P2 R2 C2 d2 W' := keep8 hb h
theorem S2.laterB {w : World} {P R1 C1 : Int} {d1 : Value} {P2 R2 C2 : Int} {d2 : Value} {W W' : World} {B : Nat} (h : S2 w P R1 C1 d1 P2 R2 C2 d2 W) (hb : Below B W W') (hB : w.heap.size + 1 + 1 ≤ B) : S2 w P R1 C1 d1 P2 R2 C2 d2 W' :=
  keep8B hb (by omega) (by omega) (by omega) h
theorem S2.size {w : World} {P R1 C1 : Int} {d1 : Value} {P2 R2 C2 : Int} {d2 : Value} {W : World} (h : S2 w P R1 C1 d1 P2 R2 C2 d2 W) : w.heap.size + 1 + 1 ≤ W.heap.size := by
  have := World.block_lt_of_cell? _ _ h.1.2.2.2.2.1
  exact this
theorem le_alloc {w W : World} {B : Nat} (o : Obj) (h : B ≤ w.heap.size) (hb : Below w.heap.size w W) : B ≤ (W.alloc o).heap.size := by
  have := hb.size
  simp only [size_alloc]
  omega
theorem S2.of_blk {w : World} {P R1 C1 : Int} {d1 : Value} {P2 R2 C2 : Int} {d2 : Value} {W : World} {T : TypeId} (h1 : W.heap[w.heap.size]? = some (.cells #[.int .i64 P, .int .i64 R1, .int .i64 C1, d1] T (0, 0)))
    (h2 : W.heap[w.heap.size + 1]? = some (.cells #[.int .i64 P2, .int .i64 R2, .int .i64 C2, d2] T (0, 0))) (hB : Below w.heap.size w W) : S2 w P R1 C1 d1 P2 R2 C2 d2 W := by
  obtain ⟨a0, a1, a2, a3, _, _⟩ := blk4 h1
  obtain ⟨b0, b1, b2, b3, _, _⟩ := blk4 h2
  exact ⟨⟨a0, a1, a2, a3, b0, b1, b2, b3⟩, hB⟩


set_option maxRecDepth 100000 in
set_option maxHeartbeats 4000000 in
theorem implPos_no1 (AP AR AC BP BR BC : Int) (dA dB : Value) (DA DB : List Int) (w : World) (hdA : Ints w dA DA) (hdB : Ints w dB DB) (ha : ¬ IsSp AP AR AC DA) :
    Calls Try.prog 26 #[.agg #[.int .i64 AP, .int .i64 AR, .int .i64 AC, dA], .agg #[.int .i64 BP, .int .i64 BR, .int .i64 BC, dB]] w fun e w' => RetI w [] e w' := by
  have Hka := Lib.hid ha
  clear ha
  have HdA := Lib.hid hdA
  obtain ⟨pA, kA, rfl, ⟨_, mA⟩, _⟩ := hdA
  unfold maxLen at mA
  have HdB := Lib.hid hdB
  obtain ⟨pB, kB, rfl, ⟨_, mB⟩, _⟩ := hdB
  unfold maxLen at mB
  obtain ⟨z0, z1⟩ := boxes_ab w (.cells #[.int .i64 AP, .int .i64 AR, .int .i64 AC, .slice pA DA.length kA] 34) (.cells #[.int .i64 BP, .int .i64 BR, .int .i64 BC, .slice pB DB.length kB] 34)
  have ZA1 := Lib.hid z0
  have ZB1 := Lib.hid z1
  clear z0 z1
  have HB1 := Lib.hid (below_alloc2 w (.cells #[.int .i64 AP, .int .i64 AR, .int .i64 AC, .slice pA DA.length kA] 34) (.cells #[.int .i64 BP, .int .i64 BR, .int .i64 BC, .slice pB DB.length kB] 34))
  go_enter Try.func26, Try.ntmps26
  go_wp2_with fail
  have hs1 : ((w.alloc (.cells #[.int .i64 AP, .int .i64 AR, .int .i64 AC, .slice pA DA.length kA] 34)).alloc (.cells #[.int .i64 BP, .int .i64 BR, .int .i64 BC, .slice pB DB.length kB] 34)).heap.size = w.heap.size + 1 + 1 := by simp
  generalize (w.alloc (.cells #[.int .i64 AP, .int .i64 AR, .int .i64 AC, .slice pA DA.length kA] 34)).alloc (.cells #[.int .i64 BP, .int .i64 BR, .int .i64 BC, .slice pB DB.length kB] 34) = w1 at *
  obtain ⟨cA0, cA1, cA2, cA3, cAf, cAz⟩ := blk4 ZA1.out
  go_wp2_with fail
  refine (implIsSpace_no _ _ _ _ _ Hka.out _ (HdA.out.below HB1.out)).mono ?_
  rintro e w2 ⟨rfl, hb⟩
  have hs2 := hb.size
  have HB2 := Lib.hid (HB1.out.trans (hb.mono HB1.out.size))
  have ZA2 := Lib.hid (blk_later ZA1.out hb)
  have ZB2 := Lib.hid (blk_later ZB1.out hb)
  clear hb ZA1 ZB1
  clear cA0 cA1 cA2 cA3 cAf cAz
  go_wp2_with fail
  go_ret
  refine ⟨_, rfl, ⟨World.ownsRow_nil _ _ _ _, fun k hk => by simp [Value.ownBlock] at hk⟩, HB2.out⟩

set_option maxRecDepth 100000 in
set_option maxHeartbeats 4000000 in
theorem implPos_no2 (AP AR AC BP BR BC : Int) (dA dB : Value) (DA DB : List Int) (w : World) (hdA : Ints w dA DA) (hdB : Ints w dB DB) (ha : IsSp AP AR AC DA) (hb : ¬ IsFl BP BR BC DB) :
    Calls Try.prog 26 #[.agg #[.int .i64 AP, .int .i64 AR, .int .i64 AC, dA], .agg #[.int .i64 BP, .int .i64 BR, .int .i64 BC, dB]] w fun e w' => RetI w [] e w' := by
  have Hka := Lib.hid ha
  have Hkb := Lib.hid hb
  clear ha hb
  have HdA := Lib.hid hdA
  obtain ⟨pA, kA, rfl, ⟨_, mA⟩, _⟩ := hdA
  unfold maxLen at mA
  have HdB := Lib.hid hdB
  obtain ⟨pB, kB, rfl, ⟨_, mB⟩, _⟩ := hdB
  unfold maxLen at mB
  obtain ⟨z0, z1⟩ := boxes_ab w (.cells #[.int .i64 AP, .int .i64 AR, .int .i64 AC, .slice pA DA.length kA] 34) (.cells #[.int .i64 BP, .int .i64 BR, .int .i64 BC, .slice pB DB.length kB] 34)
  have ZA1 := Lib.hid z0
  have ZB1 := Lib.hid z1
  clear z0 z1
  have HB1 := Lib.hid (below_alloc2 w (.cells #[.int .i64 AP, .int .i64 AR, .int .i64 AC, .slice pA DA.length kA] 34) (.cells #[.int .i64 BP, .int .i64 BR, .int .i64 BC, .slice pB DB.length kB] 34))
  go_enter Try.func26, Try.ntmps26
  go_wp2_with fail
  have hs1 : ((w.alloc (.cells #[.int .i64 AP, .int .i64 AR, .int .i64 AC, .slice pA DA.length kA] 34)).alloc (.cells #[.int .i64 BP, .int .i64 BR, .int .i64 BC, .slice pB DB.length kB] 34)).heap.size = w.heap.size + 1 + 1 := by simp
  generalize (w.alloc (.cells #[.int .i64 AP, .int .i64 AR, .int .i64 AC, .slice pA DA.length kA] 34)).alloc (.cells #[.int .i64 BP, .int .i64 BR, .int .i64 BC, .slice pB DB.length kB] 34) = w1 at *
  obtain ⟨cA0, cA1, cA2, cA3, cAf, cAz⟩ := blk4 ZA1.out
  go_wp2_with fail
  refine (implIsSpace_yes _ _ _ _ _ Hka.out _ (HdA.out.below HB1.out)).mono ?_
  rintro e w2 ⟨rfl, hb⟩
  have hs2 := hb.size
  have HB2 := Lib.hid (HB1.out.trans (hb.mono HB1.out.size))
  have ZA2 := Lib.hid (blk_later ZA1.out hb)
  have ZB2 := Lib.hid (blk_later ZB1.out hb)
  clear hb ZA1 ZB1
  clear cA0 cA1 cA2 cA3 cAf cAz
  obtain ⟨cB0, cB1, cB2, cB3, cBf, cBz⟩ := blk4 ZB2.out
  go_wp2_with fail
  refine (implFlag_no _ _ _ _ _ Hkb.out _ (HdB.out.below HB2.out)).mono ?_
  rintro e w3 ⟨rfl, hb⟩
  have hs3 := hb.size
  have HB3 := Lib.hid (HB2.out.trans (hb.mono HB2.out.size))
  have ZA3 := Lib.hid (blk_later ZA2.out hb)
  have ZB3 := Lib.hid (blk_later ZB2.out hb)
  clear hb ZA2 ZB2
  clear cB0 cB1 cB2 cB3 cBf cBz
  go_wp2_with fail
  go_ret
  refine ⟨_, rfl, ⟨World.ownsRow_nil _ _ _ _, fun k hk => by simp [Value.ownBlock] at hk⟩, HB3.out⟩

set_option maxRecDepth 100000 in
set_option maxHeartbeats 4000000 in
theorem implPos_no3 (AP AR AC BP BR BC : Int) (dA dB : Value) (DA DB : List Int) (w : World) (hdA : Ints w dA DA) (hdB : Ints w dB DB) (ha : IsSp AP AR AC DA) (hb : IsFl BP BR BC DB) (hf : fitOk AP AC BP BC = false) :
    Calls Try.prog 26 #[.agg #[.int .i64 AP, .int .i64 AR, .int .i64 AC, dA], .agg #[.int .i64 BP, .int .i64 BR, .int .i64 BC, dB]] w fun e w' => RetI w [] e w' := by
  have Hka := Lib.hid ha
  have Hkb := Lib.hid hb
  clear ha hb
  have Hf := Lib.hid hf
  clear hf
  have HdA := Lib.hid hdA
  obtain ⟨pA, kA, rfl, ⟨_, mA⟩, _⟩ := hdA
  unfold maxLen at mA
  have HdB := Lib.hid hdB
  obtain ⟨pB, kB, rfl, ⟨_, mB⟩, _⟩ := hdB
  unfold maxLen at mB
  obtain ⟨z0, z1⟩ := boxes_ab w (.cells #[.int .i64 AP, .int .i64 AR, .int .i64 AC, .slice pA DA.length kA] 34) (.cells #[.int .i64 BP, .int .i64 BR, .int .i64 BC, .slice pB DB.length kB] 34)
  have ZA1 := Lib.hid z0
  have ZB1 := Lib.hid z1
  clear z0 z1
  have HB1 := Lib.hid (below_alloc2 w (.cells #[.int .i64 AP, .int .i64 AR, .int .i64 AC, .slice pA DA.length kA] 34) (.cells #[.int .i64 BP, .int .i64 BR, .int .i64 BC, .slice pB DB.length kB] 34))
  go_enter Try.func26, Try.ntmps26
  go_wp2_with fail
  have hs1 : ((w.alloc (.cells #[.int .i64 AP, .int .i64 AR, .int .i64 AC, .slice pA DA.length kA] 34)).alloc (.cells #[.int .i64 BP, .int .i64 BR, .int .i64 BC, .slice pB DB.length kB] 34)).heap.size = w.heap.size + 1 + 1 := by simp
  generalize (w.alloc (.cells #[.int .i64 AP, .int .i64 AR, .int .i64 AC, .slice pA DA.length kA] 34)).alloc (.cells #[.int .i64 BP, .int .i64 BR, .int .i64 BC, .slice pB DB.length kB] 34) = w1 at *
  obtain ⟨cA0, cA1, cA2, cA3, cAf, cAz⟩ := blk4 ZA1.out
  go_wp2_with fail
  refine (implIsSpace_yes _ _ _ _ _ Hka.out _ (HdA.out.below HB1.out)).mono ?_
  rintro e w2 ⟨rfl, hb⟩
  have hs2 := hb.size
  have HB2 := Lib.hid (HB1.out.trans (hb.mono HB1.out.size))
  have ZA2 := Lib.hid (blk_later ZA1.out hb)
  have ZB2 := Lib.hid (blk_later ZB1.out hb)
  clear hb ZA1 ZB1
  clear cA0 cA1 cA2 cA3 cAf cAz
  obtain ⟨cB0, cB1, cB2, cB3, cBf, cBz⟩ := blk4 ZB2.out
  go_wp2_with fail
  refine (implFlag_yes _ _ _ _ _ Hkb.out _ (HdB.out.below HB2.out)).mono ?_
  rintro e w3 ⟨rfl, hb⟩
  have hs3 := hb.size
  have HB3 := Lib.hid (HB2.out.trans (hb.mono HB2.out.size))
  have ZA3 := Lib.hid (blk_later ZA2.out hb)
  have ZB3 := Lib.hid (blk_later ZB2.out hb)
  clear hb ZA2 ZB2
  clear cB0 cB1 cB2 cB3 cBf cBz
  obtain ⟨cA0, cA1, cA2, cA3, cAf, cAz⟩ := blk4 ZA3.out
  obtain ⟨cB0, cB1, cB2, cB3, cBf, cBz⟩ := blk4 ZB3.out
  go_wp2_with fail
  refine (fitTogether_any _ _ _ _ _ _ _ _ DA DB _ (HdA.out.below HB3.out) (HdB.out.below HB3.out)).mono ?_
  rintro e w4 ⟨rfl, hb⟩
  have hs4 := hb.size
  have HB4 := Lib.hid (HB3.out.trans (hb.mono HB3.out.size))
  have ZA4 := Lib.hid (blk_later ZA3.out hb)
  have ZB4 := Lib.hid (blk_later ZB3.out hb)
  clear hb ZA3 ZB3
  clear cA0 cA1 cA2 cA3 cAf cAz cB0 cB1 cB2 cB3 cBf cBz
  rw [Hf.out]
  go_wp2_with fail
  go_ret
  refine ⟨_, rfl, ⟨World.ownsRow_nil _ _ _ _, fun k hk => by simp [Value.ownBlock] at hk⟩, HB4.out⟩

set_option maxRecDepth 100000 in
set_option maxHeartbeats 16000000 in
theorem implPos_yes (AP AR AC BP BR BC : Int) (dA dB : Value) (DA DB : List Int) (w : World) (hdA : Ints w dA DA) (hdB : Ints w dB DB) (h : SfIs AP AR AC DA BP BR BC DB) :
    Calls Try.prog 26 #[.agg #[.int .i64 AP, .int .i64 AR, .int .i64 AC, dA], .agg #[.int .i64 BP, .int .i64 BR, .int .i64 BC, dB]] w fun e w' => ∃ l, RetI w l e w' ∧ l.length = AC.toNat ∧ PoUp AP AC.toNat (mf AC.toNat fun t => DA.getD t 0) AR.toNat (mf AC.toNat fun t => DB.getD t 0) l := by
  obtain ⟨hs, hf, hPe, hCe⟩ := h
  subst hPe hCe
  obtain ⟨r, c, rfl, rfl, hr, hc0, hc, hlA, hDA, hP2, hP7, hpr, hkA⟩ := hs.facts
  obtain ⟨n, rfl, e2, _, _, hlB, hDB, _, _, _, hkB⟩ := hf.facts
  obtain rfl := Int.ofNat.inj e2
  clear e2
  have Hka := Lib.hid hs
  have Hkb := Lib.hid hf
  have HgA := Lib.hid (fun t => getD_range hDA (by omega) t)
  have HgB := Lib.hid (fun t => getD_range hDB (by omega) t)
  have HlA := Lib.hid hlA
  have HlB := Lib.hid hlB
  have Hpr := Lib.hid hpr
  have HkA := Lib.hid hkA
  have HkB := Lib.hid hkB
  clear hs hf hlA hlB hDA hDB hpr hkA hkB
  have Hf := Lib.hid (show fitOk AP c AP c = true by simp [fitOk])
  simp only [Int.toNat_natCast]
  have HdA := Lib.hid hdA
  obtain ⟨pA, kA, rfl, ⟨_, mA⟩, _⟩ := hdA
  unfold maxLen at mA
  have HdB := Lib.hid hdB
  obtain ⟨pB, kB, rfl, ⟨_, mB⟩, _⟩ := hdB
  unfold maxLen at mB
  obtain ⟨z0, z1⟩ := boxes_ab w (.cells #[.int .i64 AP, .int .i64 (r : Int), .int .i64 (c : Int), .slice pA DA.length kA] 34) (.cells #[.int .i64 AP, .int .i64 (c : Int), .int .i64 (c : Int), .slice pB DB.length kB] 34)
  have ZA1 := Lib.hid z0
  have ZB1 := Lib.hid z1
  clear z0 z1
  have HB1 := Lib.hid (below_alloc2 w (.cells #[.int .i64 AP, .int .i64 (r : Int), .int .i64 (c : Int), .slice pA DA.length kA] 34) (.cells #[.int .i64 AP, .int .i64 (c : Int), .int .i64 (c : Int), .slice pB DB.length kB] 34))
  go_enter Try.func26, Try.ntmps26
  go_wp2_with fail
  have hs1 : ((w.alloc (.cells #[.int .i64 AP, .int .i64 (r : Int), .int .i64 (c : Int), .slice pA DA.length kA] 34)).alloc (.cells #[.int .i64 AP, .int .i64 (c : Int), .int .i64 (c : Int), .slice pB DB.length kB] 34)).heap.size = w.heap.size + 1 + 1 := by simp
  generalize (w.alloc (.cells #[.int .i64 AP, .int .i64 (r : Int), .int .i64 (c : Int), .slice pA DA.length kA] 34)).alloc (.cells #[.int .i64 AP, .int .i64 (c : Int), .int .i64 (c : Int), .slice pB DB.length kB] 34) = w1 at *
  obtain ⟨cA0, cA1, cA2, cA3, cAf, cAz⟩ := blk4 ZA1.out
  go_wp2_with fail
  refine (implIsSpace_yes _ _ _ _ _ Hka.out _ (HdA.out.below HB1.out)).mono ?_
  rintro e w2 ⟨rfl, hb⟩
  have hs2 := hb.size
  have HB2 := Lib.hid (HB1.out.trans (hb.mono HB1.out.size))
  have ZA2 := Lib.hid (blk_later ZA1.out hb)
  have ZB2 := Lib.hid (blk_later ZB1.out hb)
  clear hb ZA1 ZB1
  clear cA0 cA1 cA2 cA3 cAf cAz
  obtain ⟨cB0, cB1, cB2, cB3, cBf, cBz⟩ := blk4 ZB2.out
  go_wp2_with fail
  refine (implFlag_yes _ _ _ _ _ Hkb.out _ (HdB.out.below HB2.out)).mono ?_
  rintro e w3 ⟨rfl, hb⟩
  have hs3 := hb.size
  have HB3 := Lib.hid (HB2.out.trans (hb.mono HB2.out.size))
  have ZA3 := Lib.hid (blk_later ZA2.out hb)
  have ZB3 := Lib.hid (blk_later ZB2.out hb)
  clear hb ZA2 ZB2
  clear cB0 cB1 cB2 cB3 cBf cBz
  obtain ⟨cA0, cA1, cA2, cA3, cAf, cAz⟩ := blk4 ZA3.out
  obtain ⟨cB0, cB1, cB2, cB3, cBf, cBz⟩ := blk4 ZB3.out
  go_wp2_with fail
  refine (fitTogether_any _ _ _ _ _ _ _ _ DA DB _ (HdA.out.below HB3.out) (HdB.out.below HB3.out)).mono ?_
  rintro e w4 ⟨rfl, hb⟩
  have hs4 := hb.size
  have HB4 := Lib.hid (HB3.out.trans (hb.mono HB3.out.size))
  have ZA4 := Lib.hid (blk_later ZA3.out hb)
  have ZB4 := Lib.hid (blk_later ZB3.out hb)
  clear hb ZA3 ZB3
  clear cA0 cA1 cA2 cA3 cAf cAz cB0 cB1 cB2 cB3 cBf cBz
  rw [Hf.out]
  have HS0 : Hid (S2 w AP (r : Int) (c : Int) (.slice pA DA.length kA) AP (c : Int) (c : Int) (.slice pB DB.length kB) w4) := Lib.hid (S2.of_blk ZA4.out ZB4.out HB4.out)
  clear ZA4 ZB4
  go_wp2_with fail
  obtain ⟨⟨cA0, cA1, cA2, cA3, cB0, cB1, cB2, cB3⟩, hBw⟩ := HS0.out
  go_region_held3 (fun w' => (w'.cell? ⟨w.heap.size, 0, none⟩ = some (.int .i64 AP) ∧ w'.cell? ⟨w.heap.size, 1, none⟩ = some (.int .i64 (r : Int)) ∧ w'.cell? ⟨w.heap.size, 2, none⟩ = some (.int .i64 (c : Int)) ∧ w'.cell? ⟨w.heap.size, 3, none⟩ = some (.slice pA DA.length kA) ∧ w'.cell? ⟨w.heap.size + 1, 0, none⟩ = some (.int .i64 AP) ∧ w'.cell? ⟨w.heap.size + 1, 1, none⟩ = some (.int .i64 (c : Int)) ∧ w'.cell? ⟨w.heap.size + 1, 2, none⟩ = some (.int .i64 (c : Int)) ∧ w'.cell? ⟨w.heap.size + 1, 3, none⟩ = some (.slice pB DB.length kB)) ∧ Below w.heap.size w w')
    (first | exact ⟨⟨cA0, cA1, cA2, cA3, cB0, cB1, cB2, cB3⟩, hBw.drew⟩ | exact keep8 hb1 (by assumption) | exact keep8B hbB hk1 hk2 hk3 (by assumption) | exact keep8 (below_alloc _ _) (by assumption))
    (first
      | (go_at_call_of 41 (Value.slice pA DA.length kA); refine (lines_any AP r c _ DA _ (held_ints HdA.out (by assumption)) (by omega) (by omega) hc0 HlA.out).mono ?_; rintro e w' ⟨u, rfl, ho, hb1⟩; have hrA := ho.rd; clear ho; obtain ⟨qA, gA, rfl, hgA1, hgA2⟩ := hrA.shapeR (rowsOf_length _ _ _))
      | (go_at_call_of 41 (Value.slice pB DB.length kB); refine (lines_any AP c c _ DB _ (held_ints HdB.out (by assumption)) (by omega) (by omega) hc0 HlB.out).mono ?_; rintro e w' ⟨u, rfl, ho, hb1⟩; have hrB := ho.rd; clear ho; obtain ⟨qB, gB, rfl, hgB1, hgB2⟩ := hrB.shapeR (rowsOf_length _ _ _); have hrA := (RdII.below hrA (by first | exact Below.refl _ _ | exact (Below.refl _ _).drew)).below hb1))
  have hS1 : S2 w AP (r : Int) (c : Int) (.slice pA DA.length kA) AP (c : Int) (c : Int) (.slice pB DB.length kB) _ := (by assumption)
  obtain ⟨wk, rfl⟩ : ∃ x : World, x = w' := ⟨_, rfl⟩
  unfold maxLen at hgA2 hgB2
  have HRA := Lib.hid hrA
  have HRB := Lib.hid hrB
  have HS1 := Lib.hid hS1
  clear hrA hrB hS1 hb1 cA0 cA1 cA2 cA3 cB0 cB1 cB2 cB3 hBw
  obtain ⟨⟨cA0, cA1, cA2, cA3, cB0, cB1, cB2, cB3⟩, hBw⟩ := HS1.out
  go_wp2_with fail
  clear cA0 cA1 cA2 cA3 cB0 cB1 cB2 cB3 hBw
  have hz0 := S2.size HS1.out
  go_loopg [7, 8, 30] c (fun g s5 s8 s30 wr => ∃ (j : Nat) (l : List Int), j ≤ c ∧ g = c - j ∧ s30 = .int .i64 j ∧ Hid (l.length = j) ∧ Hid (S2 w AP (r : Int) (c : Int) (.slice pA DA.length kA) AP (c : Int) (c : Int) (.slice pB DB.length kB) wr) ∧ Hid (OwnI 3 wr (wk.heap.size) wr.heap.size s5 l) ∧ Hid (PoUp AP c (mf c fun t => DA.getD t 0) r (mf c fun t => DB.getD t 0) l) ∧ Hid (Below wk.heap.size wk wr))
  case atStart =>
    have hm0 := OwnF.made0 wk 3 (iv [])
    have hz := S2.size HS1.out
    refine ⟨0, [], Nat.zero_le _, rfl, rfl, rfl, HS1.out.later (below_alloc _ _), ?_, fun j hj => absurd hj (Nat.not_lt_zero _), below_alloc _ _⟩
    exact Lib.hid (OwnF.ints (xs := []) (hm0.mono (Nat.le_refl _) (by simp)))
  case round =>
    obtain ⟨j, l, hj, rfl, rfl, hjl, hS, hol, hup, hbk⟩ := hrel
    obtain ⟨wj, rfl⟩ : ∃ x : World, x = wr := ⟨_, rfl⟩
    obtain ⟨p5, k5, rfl, hk5, hk5b⟩ := hol.out.shape
    unfold maxLen at hk5b
    obtain ⟨⟨cA0, cA1, cA2, cA3, cB0, cB1, cB2, cB3⟩, hBw⟩ := hS.out
    by_cases hjc : j < c
    · have hjc2 : (j : Int) < (c : Int) := by omega
      have hl5 : l.length ≤ 7 := by have := hjl.out; omega
      have Hl1 := Lib.hid (show l.length + 1 ≤ maxLen by unfold maxLen; omega)
      have Hl2 := Lib.hid (show (l.length + 1) * 8 ≤ 140737488355328 by omega)
      have hsz : wk.heap.size ≤ wj.heap.size := hbk.out.size
      have hk1 : w.heap.size < wk.heap.size := by omega
      have hk2 : w.heap.size + 1 < wk.heap.size := by omega
      have hk3 : w.heap.size ≤ wk.heap.size := by omega
      have HRAj := Lib.hid (HRA.out.below hbk.out)
      have HRBj := Lib.hid (HRB.out.below hbk.out)
      have hj0 : (0 : Int) ≤ (j : Int) + 1 := by omega
      have hj1 : ((j : Int) + 1).toNat = j + 1 := by omega
      have hj2 : j + 1 ≤ gB := by omega
      have hj3 : (j : Int) + 1 ≤ (gB : Int) := by omega
      have hj4 : (j : Int) ≤ (gB : Int) := by omega
      have hj5 : j ≤ gB := by omega
      have Hw1 := Lib.hid (show IntKind.i64.wrap ((j : Int) + 1) = (j : Int) + 1 from k64 (by omega) (by omega))
      go_wp2_with fail
      have hw1 := Hw1.out
      go_region_held3 (fun w' => (w'.cell? ⟨w.heap.size, 0, none⟩ = some (.int .i64 AP) ∧ w'.cell? ⟨w.heap.size, 1, none⟩ = some (.int .i64 (r : Int)) ∧ w'.cell? ⟨w.heap.size, 2, none⟩ = some (.int .i64 (c : Int)) ∧ w'.cell? ⟨w.heap.size, 3, none⟩ = some (.slice pA DA.length kA) ∧ w'.cell? ⟨w.heap.size + 1, 0, none⟩ = some (.int .i64 AP) ∧ w'.cell? ⟨w.heap.size + 1, 1, none⟩ = some (.int .i64 (c : Int)) ∧ w'.cell? ⟨w.heap.size + 1, 2, none⟩ = some (.int .i64 (c : Int)) ∧ w'.cell? ⟨w.heap.size + 1, 3, none⟩ = some (.slice pB DB.length kB)) ∧ Below w.heap.size w w')
        (first | exact ⟨⟨cA0, cA1, cA2, cA3, cB0, cB1, cB2, cB3⟩, hBw.drew⟩ | exact keep8 hb1 (by assumption) | exact keep8B hbB hk1 hk2 hk3 (by assumption) | exact keep8 (below_alloc _ _) (by assumption))
        (first
          | (go_at_call_of 60 (Value.slice qB j gB); refine (common_b AP r c c r (j) _ _ DA DB _ (HRAj.out.below (by first | exact hbz | exact hbz.drew | exact Below.refl _ _ | exact (Below.refl _ _).drew)) (by rw [← rowsOf_take (R := c) hj]; exact RdII.take (HRBj.out.below (by first | exact hbz | exact hbz.drew | exact Below.refl _ _ | exact (Below.refl _ _).drew)) (by rw [rowsOf_length]; exact hj)) HlA.out HlB.out hr hc hc (Nat.le_refl _) hj HgA.out HgB.out Hpr.out).mono ?_; rintro e w' ⟨mb, rfl, hmb, hmb1, hmb2, hb1⟩; have hbz : Below wj.heap.size wj w' := (by first | exact below_trans hbz hb1 | exact below_trans hbz (below_of_drew hb1) | exact hb1 | exact below_of_drew hb1))
          | (go_at_call 60; refine (common_b AP r c c r (j + 1) _ _ DA DB _ (HRAj.out.below (by first | exact hbz | exact hbz.drew | exact Below.refl _ _ | exact (Below.refl _ _).drew)) (by rw [← rowsOf_take (R := c) hjc]; exact RdII.take (HRBj.out.below (by first | exact hbz | exact hbz.drew | exact Below.refl _ _ | exact (Below.refl _ _).drew)) (by rw [rowsOf_length]; exact hjc)) HlA.out HlB.out hr hc hc (Nat.le_refl _) hjc HgA.out HgB.out Hpr.out).mono ?_; rintro e w' ⟨ma, rfl, hma, hma1, hma2, hb1⟩; have hbz : Below wj.heap.size wj w' := (by first | exact below_trans hbz hb1 | exact below_trans hbz (below_of_drew hb1) | exact hb1 | exact below_of_drew hb1))
          | (refine step_append_F rfl _ _ 24 rfl 3 (.int .i64 0) 8 Try.underlying24 info_int rfl wk.heap.size _ _ l.length _ rfl (OwnF.below (OwnI.below hol.out hbz).fn (below_alloc _ _)) (le_alloc _ hsz hbz) (le_alloc _ (Nat.le_refl _) hbz) _ 1 _ rfl (rd_one _ _ _ rfl) (fun j _ => rfl) Hl1.out Hl2.out ?_; clear hb1; intro v' w' ho' hg'; have hbB := grownBy_below2 hg' (OwnF.below (OwnI.below hol.out hbz).fn (below_alloc _ _)) (Nat.le_refl _) (le_alloc _ hsz hbz)))
      have hS2 : S2 w AP (r : Int) (c : Int) (.slice pA DA.length kA) AP (c : Int) (c : Int) (.slice pB DB.length kB) _ := (by assumption)
      obtain ⟨wn, rfl⟩ : ∃ x : World, x = w' := ⟨_, rfl⟩
      have hol2 := OwnI.snoc1 ho'
      have hwv : IntKind.i64.wrap (ma - mb) = ma - mb := k64 (by omega) (by omega)
      rw [hwv] at hol2
      have hbn : Below wk.heap.size wk wn := (hbk.out.trans ((Below.alloc hbz (by first | exact hbz.size | exact Nat.le_refl _) _).mono hsz)).trans hbB
      have HS2 := Lib.hid hS2
      have Hol2 := Lib.hid hol2
      have Hup2 := Lib.hid (hup.out.snoc hjl.out hma hmb)
      have Hbn := Lib.hid hbn
      have Hl3 := Lib.hid (show (l ++ [ma - mb]).length = j + 1 by rw [List.length_append, hjl.out]; rfl)
      clear hS2 hol2 hwv hbn hbB hbz ho' hg' hma hmb hw1 cA0 cA1 cA2 cA3 cB0 cB1 cB2 cB3 hBw
      go_wp2_with fail
      go_roundg (c - (j + 1))
      case measure => omega
      case rel => exact ⟨j + 1, l ++ [ma - mb], hjc, rfl, by go_num, Hl3.out, HS2.out, Hol2.out, Hup2.out, Hbn.out⟩
    · obtain rfl : j = c := by omega
      go_wp2_with fail
      go_ret
      have hsz : wk.heap.size ≤ wj.heap.size := hbk.out.size
      exact ⟨l, ⟨_, rfl, hol.out.mono (by omega) (Nat.le_refl _), hBw⟩, hjl.out, hup.out⟩

theorem implPos_ex (AP AR AC BP BR BC : Int) (dA dB : Value) (DA DB : List Int) (w : World) (hdA : Ints w dA DA) (hdB : Ints w dB DB) :
    Calls Try.prog 26 #[.agg #[.int .i64 AP, .int .i64 AR, .int .i64 AC, dA], .agg #[.int .i64 BP, .int .i64 BR, .int .i64 BC, dB]] w fun e w' => ∃ l, PoIs AP AR AC DA BP BR BC DB l ∧ RetI w l e w' := by
  by_cases h : SfIs AP AR AC DA BP BR BC DB
  · exact (implPos_yes AP AR AC BP BR BC dA dB DA DB w hdA hdB h).mono fun e w' ⟨l, r1, r2⟩ => ⟨l, .inl ⟨h, r2⟩, r1⟩
  rcases Classical.em (IsSp AP AR AC DA) with ha | ha
  · rcases Classical.em (IsFl BP BR BC DB) with hb | hb
    ·
      refine (implPos_no3 AP AR AC BP BR BC dA dB DA DB w hdA hdB ha hb ?_).mono fun e w' r => ⟨_, .inr ⟨h, rfl⟩, r⟩
      cases hf : fitOk AP AC BP BC with
      | false => rfl
      | true =>
        simp [fitOk] at hf
        exact absurd ⟨ha, hb, hf.1, hf.2⟩ h
    · exact (implPos_no2 AP AR AC BP BR BC dA dB DA DB w hdA hdB ha hb).mono fun e w' r => ⟨_, .inr ⟨h, rfl⟩, r⟩
  · exact (implPos_no1 AP AR AC BP BR BC dA dB DA DB w hdA hdB ha).mono fun e w' r => ⟨_, .inr ⟨h, rfl⟩, r⟩
theorem implPos_any (AP AR AC BP BR BC : Int) (dA dB : Value) (DA DB : List Int) (w : World) (hdA : Ints w dA DA) (hdB : Ints w dB DB) :
    Calls Try.prog 26 #[.agg #[.int .i64 AP, .int .i64 AR, .int .i64 AC, dA], .agg #[.int .i64 BP, .int .i64 BR, .int .i64 BC, dB]] w (RetI w (Classical.epsilon (LsQ (PoIs AP AR AC DA BP BR BC DB)))) :=
  (implPos_ex AP AR AC BP BR BC dA dB DA DB w hdA hdB).mono fun e w' ⟨l, h1, h2⟩ => LsQ.eps PoIs.one h1 ▸ h2

end Go.Proofs.Ytoodgbflaaabmaa

namespace Go.Proofs.Ytoodgbflaaabmaa
set_option linter.all false
open Go.RowKit

def shAt (xs : List Int) (j : Nat) : Prop := 1 ≤ xs.getD j 0 ∧ xs.getD j 0 ≤ 16 ∧ (0 < j → xs.getD j 0 ≤ xs.getD (j - 1) 0)
instance (xs : List Int) (j : Nat) : Decidable (shAt xs j) := by unfold shAt; exact inferInstance
/-- numbers from 1 to 16, at most 16 of them, that do not grow -/
def shOk (xs : List Int) : Bool := decide (xs.length ≤ 16 ∧ ∀ j, j < xs.length → shAt xs j)
theorem shOk_no {xs : List Int} {j : Nat} (hj : j < xs.length) (h : ¬ shAt xs j) : shOk xs = false := by
  unfold shOk
  exact decide_eq_false fun e => h (e.2 j hj)
theorem shOk_len {xs : List Int} (h : ¬ xs.length ≤ 16) : shOk xs = false := by
  unfold shOk
  exact decide_eq_false fun e => h e.1
theorem shOk_yes {xs : List Int} (h : xs.length ≤ 16) (hj : ∀ j, j < xs.length → shAt xs j) : shOk xs = true := by
  unfold shOk
  exact decide_eq_true ⟨h, hj⟩
theorem shOk_facts {xs : List Int} (h : shOk xs = true) : xs.length ≤ 16 ∧ ∀ j, j < xs.length → shAt xs j := by
  unfold shOk at h
  exact of_decide_eq_true h

set_option maxRecDepth 100000 in
set_option maxHeartbeats 2000000 in
theorem implIsShape_any (v : Value) (xs : List Int) (w : World) (h : Ints w v xs) :
    Calls Try.prog 64 #[v] w fun e w' => e = .returned (.bool (shOk xs)) ∧ Qt w w' := by
  obtain ⟨p, cap, rfl, ⟨hx1, hx2⟩, hxc⟩ := h
  unfold maxLen at hx2
  go_enter Try.func64, Try.ntmps64
  go_wp2_with fail
  go_loopg [3, 4, 7] xs.length (fun g s3 s4 i wr => ∃ k : Nat, k ≤ xs.length ∧ g = xs.length - k ∧ i = .int .i64 k ∧ Qt w wr ∧ Hid (∀ j, j < k → shAt xs j))
  case atStart => exact ⟨0, Nat.zero_le _, rfl, rfl, Qt.refl _, fun j hj => absurd hj (Nat.not_lt_zero _)⟩
  case round =>
    obtain ⟨k, hk, rfl, rfl, hq, hp⟩ := hrel
    by_cases hlt : k < xs.length
    · obtain ⟨b, off, rfl, hc⟩ := hxc (by omega)
      obtain ⟨x, hx⟩ : ∃ x, x = xs.getD k 0 := ⟨_, rfl⟩
      have c1 := hq.cell (hc k hlt)
      unfold iv at c1
      rw [← hx] at c1
      have Hx := Lib.hid hx
      have Hc := Lib.hid hc
      clear hx hc hxc
      have hk1 : (k : Int) < (xs.length : Int) := by omega
      by_cases hx1' : x < 1
      · go_wp2_with fail
        go_ret
        exact ⟨ret_bool (shOk_no hlt fun e => by have := e.1; rw [← Hx.out] at this; omega).symm, hq⟩
      by_cases hx16 : 16 < x
      · go_wp2_with fail
        go_ret
        exact ⟨ret_bool (shOk_no hlt fun e => by have := e.2.1; rw [← Hx.out] at this; omega).symm, hq⟩
      by_cases hk0 : k = 0
      · subst hk0
        rw [Nat.add_zero] at c1
        go_wp2_with fail
        go_roundg (xs.length - (0 + 1))
        case measure => omega
        case rel =>
          refine ⟨0 + 1, by omega, rfl, by go_num, hq, fun j hj => ?_⟩
          obtain rfl : j = 0 := by omega
          exact ⟨by rw [← Hx.out]; omega, by rw [← Hx.out]; omega, fun h => absurd h (Nat.lt_irrefl _)⟩
      · obtain ⟨m, hm⟩ : ∃ m, m = k - 1 := ⟨_, rfl⟩
        have hkm : k = m + 1 := by omega
        obtain ⟨y, hy⟩ : ∃ y, y = xs.getD m 0 := ⟨_, rfl⟩
        have c2 := hq.cell (Hc.out m (by omega))
        unfold iv at c2
        rw [← hy] at c2
        have Hy := Lib.hid hy
        have hg0 : (0 : Int) < (k : Int) := by omega
        have hm1 : m < xs.length := by omega
        have hm2 : (m : Int) < (xs.length : Int) := by omega
        have hm3 : (0 : Int) ≤ (m : Int) := by omega
        have Hkm := Lib.hid hkm
        have hw0 : (k : Int) - 1 = (m : Int) := by omega
        clear hy hm hkm hk0
        by_cases hyx : y < x
        · go_wp2_with fail
          go_ret
          refine ⟨ret_bool (shOk_no hlt fun e => ?_).symm, hq⟩
          have := e.2.2 (by have := Hkm.out; omega)
          rw [← Hx.out, show k - 1 = m by have := Hkm.out; omega, ← Hy.out] at this
          omega
        · go_wp2_with fail
          go_roundg (xs.length - (k + 1))
          case measure => omega
          case rel =>
            refine ⟨k + 1, by omega, rfl, by go_num, hq, fun j hj => ?_⟩
            by_cases e : j = k
            · subst e
              exact ⟨by rw [← Hx.out]; omega, by rw [← Hx.out]; omega, fun _ => by rw [← Hx.out, show j - 1 = m by have := Hkm.out; omega, ← Hy.out]; omega⟩
            · exact hp.out j (by omega)
    · by_cases hl : xs.length ≤ 16
      · have e1 : (xs.length : Int) ≤ 16 := by omega
        go_wp2_with fail
        go_ret
        exact ⟨ret_bool (by rw [shOk_yes hl fun j hj => hp.out j (by omega)]), hq⟩
      · have e1 : ¬ (xs.length : Int) ≤ 16 := by omega
        go_wp2_with fail
        go_ret
        exact ⟨ret_bool (by rw [shOk_len hl]), hq⟩

theorem rowOf_any (v : Value) (xs : List Int) (i : Nat) (w : World) (h : Ints w v xs) (hi : i ≤ 1000000) :
    Calls Try.prog 63 #[v, .int .i64 (i : Int)] w fun e w' => e = .returned (.int .i64 (xs.getD i 0)) ∧ Qt w w' := by
  obtain ⟨p, cap, rfl, ⟨hx1, hx2⟩, hxc⟩ := h
  unfold maxLen at hx2
  by_cases hlt : i < xs.length
  · obtain ⟨b, off, rfl, hc⟩ := hxc (by omega)
    obtain ⟨x, hx⟩ : ∃ x, x = xs.getD i 0 := ⟨_, rfl⟩
    have c1 := hc i hlt
    unfold iv at c1
    rw [← hx] at c1 ⊢
    have hi1 : (i : Int) < (xs.length : Int) := by omega
    clear hx hc hxc
    go_enter Try.func63, Try.ntmps63
    go_wp2_with fail
    go_ret
    exact ⟨rfl, Qt.refl _⟩
  · have e : xs.getD i 0 = 0 := by simp [List.getD_eq_getElem?_getD, Nat.le_of_not_lt hlt]
    rw [e]
    have hi1 : ¬ (i : Int) < (xs.length : Int) := by omega
    go_enter Try.func63, Try.ntmps63
    go_wp2_with fail
    go_ret
    exact ⟨rfl, Qt.refl _⟩

end Go.Proofs.Ytoodgbflaaabmaa

namespace Go.Proofs.Ytoodgbflaaabmaa
set_option linter.all false
open Go.RowKit

/-- a shape in the box of r rows and c - r columns -/
def bxOk (xs : List Int) (r c : Nat) : Bool := shOk xs && decide (xs.length ≤ r) && decide (xs.getD 0 0 ≤ (c : Int) - (r : Int))
theorem bx_no1 {xs : List Int} {r c : Nat} (h : shOk xs = false) : bxOk xs r c = false := by simp [bxOk, h]
theorem bx_no2 {xs : List Int} {r c : Nat} (h : ¬ xs.length ≤ r) : bxOk xs r c = false := by simp [bxOk, h]
theorem bx_end {xs : List Int} {r c : Nat} (h : shOk xs = true) (h2 : xs.length ≤ r) : bxOk xs r c = decide (xs.getD 0 0 ≤ (c : Int) - (r : Int)) := by simp only [bxOk, h, h2, decide_true, Bool.and_true, Bool.true_and]

set_option maxHeartbeats 400000 in
theorem isBox_yes (r c : Nat) (w : World) (hrc : r ≤ c) (hc0 : 1 ≤ c) (hc7 : c ≤ 7) :
    Calls Try.prog 55 #[.int .i64 (r : Int), .int .i64 (c : Int)] w fun e w' => e = .returned (.bool true) ∧ w = w' := by
  have h1 : (1 : Int) ≤ (c : Int) := by omega
  have h2 : (c : Int) ≤ 7 := by omega
  have h3 : (0 : Int) ≤ (r : Int) := by omega
  have h4 : (r : Int) ≤ (c : Int) := by omega
  have hs : ∀ w, Calls Try.prog 78 #[.int .i64 (c : Int)] w fun e w' => e = .returned (.bool true) ∧ w = w' := fun w => by
    go_enter Try.func78, Try.ntmps78
    go_wp2_with fail
    go_ret
    exact ⟨rfl, rfl⟩
  go_enter Try.func55, Try.ntmps55
  go_wp2_with fail
  refine (hs w).mono ?_
  rintro e w1 ⟨rfl, rfl⟩
  go_wp2_with fail
  go_ret
  exact ⟨rfl, rfl⟩

set_option maxRecDepth 100000 in
set_option maxHeartbeats 1000000 in
theorem IsInBox_any (v : Value) (xs : List Int) (r c : Nat) (w : World) (h : Ints w v xs) (hrc : r ≤ c) (hc0 : 1 ≤ c) (hc7 : c ≤ 7) :
    Calls Try.prog 62 #[v, .int .i64 (r : Int), .int .i64 (c : Int)] w fun e w' => e = .returned (.bool (bxOk xs r c)) ∧ Qt w w' := by
  have Hd := Lib.hid h
  obtain ⟨p, cap, rfl, ⟨hx1, hx2⟩, _⟩ := h
  unfold maxLen at hx2
  cases hs : shOk xs with
  | false =>
    rw [bx_no1 hs]
    have Hs := Lib.hid hs
    clear hs
    go_enter Try.func62, Try.ntmps62
    go_wp2_with fail
    refine (isBox_yes _ _ _ hrc hc0 hc7).mono ?_
    rintro e w1 ⟨rfl, rfl⟩
    go_wp2_with fail
    refine (implIsShape_any _ xs _ Hd.out).mono ?_
    rintro e w2 ⟨rfl, hq2⟩
    rw [Hs.out]
    go_wp2_with fail
    go_ret
    exact ⟨rfl, hq2⟩
  | true =>
  have Hs := Lib.hid hs
  by_cases hl : xs.length ≤ r
  case neg =>
    rw [bx_no2 hl]
    have hl1 : ¬ (xs.length : Int) ≤ (r : Int) := by omega
    clear hs hl
    go_enter Try.func62, Try.ntmps62
    go_wp2_with fail
    refine (isBox_yes _ _ _ hrc hc0 hc7).mono ?_
    rintro e w1 ⟨rfl, rfl⟩
    go_wp2_with fail
    refine (implIsShape_any _ xs _ Hd.out).mono ?_
    rintro e w2 ⟨rfl, hq2⟩
    rw [Hs.out]
    go_wp2_with fail
    go_ret
    exact ⟨rfl, hq2⟩
  rw [bx_end hs hl]
  have hl1 : (xs.length : Int) ≤ (r : Int) := by omega
  obtain ⟨s, hs0⟩ : ∃ s, s = xs.getD 0 0 := ⟨_, rfl⟩
  rw [← hs0]
  have Hs0 := Lib.hid hs0
  clear hs hl hs0
  by_cases hsc : s ≤ (c : Int) - (r : Int)
  · have hd : decide (s ≤ (c : Int) - (r : Int)) = true := decide_eq_true hsc
    rw [hd]
    clear hd
    go_enter Try.func62, Try.ntmps62
    go_wp2_with fail
    refine (isBox_yes _ _ _ hrc hc0 hc7).mono ?_
    rintro e w1 ⟨rfl, rfl⟩
    go_wp2_with fail
    refine (implIsShape_any _ xs _ Hd.out).mono ?_
    rintro e w2 ⟨rfl, hq2⟩
    rw [Hs.out]
    go_wp2_with fail
    refine (rowOf_any _ xs 0 _ (Hd.out.qt hq2) (by omega)).mono ?_
    rintro e w3 ⟨rfl, hq3⟩
    rw [← Hs0.out]
    go_wp2_with fail
    go_ret
    exact ⟨rfl, hq2.trans hq3⟩
  · have hd : decide (s ≤ (c : Int) - (r : Int)) = false := decide_eq_false hsc
    rw [hd]
    clear hd
    go_enter Try.func62, Try.ntmps62
    go_wp2_with fail
    refine (isBox_yes _ _ _ hrc hc0 hc7).mono ?_
    rintro e w1 ⟨rfl, rfl⟩
    go_wp2_with fail
    refine (implIsShape_any _ xs _ Hd.out).mono ?_
    rintro e w2 ⟨rfl, hq2⟩
    rw [Hs.out]
    go_wp2_with fail
    refine (rowOf_any _ xs 0 _ (Hd.out.qt hq2) (by omega)).mono ?_
    rintro e w3 ⟨rfl, hq3⟩
    rw [← Hs0.out]
    go_wp2_with fail
    go_ret
    exact ⟨ret_bool (decide_eq_false (by omega)), hq2.trans hq3⟩

end Go.Proofs.Ytoodgbflaaabmaa
