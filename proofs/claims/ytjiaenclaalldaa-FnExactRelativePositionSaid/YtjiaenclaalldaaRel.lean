/-
  RelativePosition, on both sides.
-/
import Derived.Test.YtjiaenclaalldaaPos
namespace Go.Proofs.Ytjiaenclaalldaa
set_option linter.all false
open Go.RowKit

/-- two flags that lie in one -/
def FfIs (P R C : Int) (D : List Int) (P' R' C' : Int) (D' : List Int) : Prop := IsFl P R C D ∧ IsFl P' R' C' D' ∧ P = P' ∧ C = C'
/-- the column at which row i of one comes in -/
def RpAt (P : Int) (C : Nat) (A B : Nat → Nat → Int) (i : Nat) (x : Int) : Prop :=
  ∃ j : Nat, x = j ∧ j < C ∧ (∃ a b, CmIs P C A (i + 1) B (j + 1) a ∧ CmIs P C A i B (j + 1) b ∧ a ≠ b) ∧ ∀ k, k < j → ∀ a b, CmIs P C A (i + 1) B (k + 1) a → CmIs P C A i B (k + 1) b → a = b
theorem CmIs.ex {P : Int} {C i j : Nat} {A B : Nat → Nat → Int} (hp : primeOk P = true) (ha : ∀ t c, t < i → c < C → 0 ≤ A t c ∧ A t c < P) (hb : ∀ t c, t < j → c < C → 0 ≤ B t c ∧ B t c < P) : ∃ m, CmIs P C A i B j m := by
  obtain ⟨f, _, h, _⟩ := ranks_ex hp (i + j) (stackM_rng ha hb)
  exact ⟨_, f (i + j), h _ (Nat.le_refl _), rfl⟩
theorem RpAt.one {P : Int} {C i : Nat} {A B : Nat → Nat → Int} {x x' : Int} (h : RpAt P C A B i x) (h' : RpAt P C A B i x') : x = x' := by
  obtain ⟨j, rfl, hj, ⟨a, b, h1, h2, h3⟩, h4⟩ := h
  obtain ⟨j', rfl, hj', ⟨a', b', h1', h2', h3'⟩, h4'⟩ := h'
  rcases Nat.lt_trichotomy j j' with h | h | h
  · exact absurd (h4' j h a b h1 h2) h3
  · rw [h]
  · exact absurd (h4 j' h a' b' h1' h2') h3'
/-- a row more: the dimension is the same or one more -/
theorem CmIs.step {P : Int} {C i j : Nat} {A B : Nat → Nat → Int} {a b : Int} (hp : primeOk P = true) (ha : ∀ c, c < C → 0 ≤ A i c ∧ A i c < P) (h : CmIs P C A (i + 1) B j a) (h' : CmIs P C A i B j b) : a = b ∨ a = b + 1 := by
  obtain ⟨k, h1, rfl⟩ := h
  obtain ⟨k', h1', rfl⟩ := h'
  rcases stack_step hp ha h1' h1 with e | e
  · right; omega
  · left; omega
theorem HasRank.stackB {P : Int} {C : Nat} {A B : Nat → Nat → Int} (hp : primeOk P = true) (ha : ∀ t c, c < C → 0 ≤ A t c ∧ A t c < P) (hb : ∀ t c, c < C → 0 ≤ B t c ∧ B t c < P) (h : HasRank P C C B C) :
    ∀ i k, HasRank P C (i + C) (stackM i A B) k → C ≤ k
  | 0, k, hk => by
    have h2 : HasRank P C C B k := by
      rw [Nat.zero_add] at hk
      exact hk.congr fun t c _ _ => by rw [stackM_ge (Nat.not_lt_zero _)]; rfl
    exact Nat.le_of_eq (h.one (primeOk_range hp).1 h2)
  | i + 1, k, hk => by
    obtain ⟨m, k0, h0, _⟩ := CmIs.ex (i := i) (j := C) hp (fun t c _ hc => ha t c hc) (fun t c _ hc => hb t c hc)
    have := HasRank.stackB hp ha hb h i k0 h0
    rcases stack_step hp (fun c hc => ha i c hc) h0 hk with e | e <;> omega
/-- at the last column the dimensions differ -/
theorem CmIs.last {P : Int} {C i : Nat} {A B : Nat → Nat → Int} {a b : Int} (hp : primeOk P = true) (ha : ∀ t c, c < C → 0 ≤ A t c ∧ A t c < P) (hb : ∀ t c, c < C → 0 ≤ B t c ∧ B t c < P) (h : HasRank P C C B C)
    (h1 : CmIs P C A (i + 1) B C a) (h2 : CmIs P C A i B C b) : a ≠ b := by
  obtain ⟨k, k1, rfl⟩ := h1
  obtain ⟨k', k1', rfl⟩ := h2
  have e1 := HasRank.stackB hp ha hb h _ _ k1
  have e2 := HasRank.stackB hp ha hb h _ _ k1'
  have e3 := k1.leC
  have e4 := k1'.leC
  omega
theorem mf_rng {P : Int} {C : Nat} {D : List Int} (h : ∀ t, 0 ≤ D.getD t 0 ∧ D.getD t 0 < P) : ∀ t c, c < C → 0 ≤ mf C (fun t => D.getD t 0) t c ∧ mf C (fun t => D.getD t 0) t c < P := fun t c _ => h _

def RpUp (P : Int) (C : Nat) (A B : Nat → Nat → Int) (l : List Int) : Prop := ∀ i, i < l.length → RpAt P C A B i (l.getD i 0)
/-- what RelativePosition returns -/
def RpIs (P R C : Int) (D : List Int) (P' R' C' : Int) (D' : List Int) (l : List Int) : Prop :=
  (FfIs P R C D P' R' C' D' ∧ l.length = C.toNat ∧ RpUp P C.toNat (mf C.toNat fun t => D.getD t 0) (mf C.toNat fun t => D'.getD t 0) l) ∨ (¬ FfIs P R C D P' R' C' D' ∧ l = [])
theorem RpIs.one {P R C : Int} {D : List Int} {P' R' C' : Int} {D' : List Int} (l l' : List Int) (h : RpIs P R C D P' R' C' D' l) (h' : RpIs P R C D P' R' C' D' l') : l = l' := by
  rcases h with ⟨t, h1, h2⟩ | ⟨t, rfl⟩
  · rcases h' with ⟨_, h1', h2'⟩ | ⟨t', _⟩
    · exact getD_eq_list (by rw [h1, h1']) fun j hj => (h2 j (by omega)).one (h2' j (by omega))
    · exact absurd t t'
  · rcases h' with ⟨t', _⟩ | ⟨_, rfl⟩
    · exact absurd t' t
    · rfl
theorem RpIs.len {P R C : Int} {D : List Int} {P' R' C' : Int} {D' : List Int} (l : List Int) (h : RpIs P R C D P' R' C' D' l) : l.length ≤ 1000 := by
  rcases h with ⟨t, h1, h2⟩ | ⟨t, rfl⟩
  · obtain ⟨r, c, _, rfl, _, _, hc, _⟩ := mxOk_facts t.1.1
    rw [h1]; simp; omega
  · simp
theorem rel_len (P R C : Int) (D : List Int) (P' R' C' : Int) (D' : List Int) : (Classical.epsilon (LsQ (RpIs P R C D P' R' C' D'))).length ≤ 1000 := LsQ.len RpIs.len
theorem RpUp.snoc {P : Int} {C i : Nat} {A B : Nat → Nat → Int} {l : List Int} {x : Int} (h : RpUp P C A B l) (hl : l.length = i) (h1 : RpAt P C A B i x) : RpUp P C A B (l ++ [x]) := fun t ht => by
  rw [List.length_append, List.length_singleton] at ht
  by_cases e : t < l.length
  · rw [show (l ++ [x]).getD t 0 = l.getD t 0 by simp [List.getD_eq_getElem?_getD, List.getElem?_append_left e]]
    exact h t e
  · obtain rfl : t = i := by omega
    subst hl
    rw [show (l ++ [x]).getD l.length 0 = x by simp [List.getD_eq_getElem?_getD]]
    exact h1


set_option maxRecDepth 100000 in
set_option maxHeartbeats 4000000 in
theorem specRel_no1 (AP AR AC BP BR BC : Int) (dA dB : Value) (DA DB : List Int) (w : World) (hdA : Ints w dA DA) (hdB : Ints w dB DB) (ha : ¬ IsFl AP AR AC DA) :
    Calls Try.prog 18 #[.agg #[.int .i64 AP, .int .i64 AR, .int .i64 AC, dA], .agg #[.int .i64 BP, .int .i64 BR, .int .i64 BC, dB]] w fun e w' => RetI w [] e w' := by
  have Hka := Lib.hid ha
  clear ha
  have HdA := Lib.hid hdA
  obtain ⟨pA, kA, rfl, ⟨_, mA⟩, _⟩ := hdA
  unfold maxLen at mA
  have HdB := Lib.hid hdB
  obtain ⟨pB, kB, rfl, ⟨_, mB⟩, _⟩ := hdB
  unfold maxLen at mB
  obtain ⟨z0, z1⟩ := boxes_ab w (.cells #[.int .i64 AP, .int .i64 AR, .int .i64 AC, .slice pA DA.length kA] 27) (.cells #[.int .i64 BP, .int .i64 BR, .int .i64 BC, .slice pB DB.length kB] 27)
  have ZA1 := Lib.hid z0
  have ZB1 := Lib.hid z1
  clear z0 z1
  have HB1 := Lib.hid (below_alloc2 w (.cells #[.int .i64 AP, .int .i64 AR, .int .i64 AC, .slice pA DA.length kA] 27) (.cells #[.int .i64 BP, .int .i64 BR, .int .i64 BC, .slice pB DB.length kB] 27))
  go_enter Try.func18, Try.ntmps18
  go_wp2_with fail
  have hs1 : ((w.alloc (.cells #[.int .i64 AP, .int .i64 AR, .int .i64 AC, .slice pA DA.length kA] 27)).alloc (.cells #[.int .i64 BP, .int .i64 BR, .int .i64 BC, .slice pB DB.length kB] 27)).heap.size = w.heap.size + 1 + 1 := by simp
  generalize (w.alloc (.cells #[.int .i64 AP, .int .i64 AR, .int .i64 AC, .slice pA DA.length kA] 27)).alloc (.cells #[.int .i64 BP, .int .i64 BR, .int .i64 BC, .slice pB DB.length kB] 27) = w1 at *
  obtain ⟨cA0, cA1, cA2, cA3, cAf, cAz⟩ := blk4 ZA1.out
  go_wp2_with fail
  refine (specFlag_no _ _ _ _ _ Hka.out _ (HdA.out.below HB1.out)).mono ?_
  rintro e w2 ⟨rfl, hb⟩
  have hs2 := hb.size
  have HB2 := Lib.hid (HB1.out.trans (hb.mono HB1.out.size))
  have ZA2 := Lib.hid (blk_later ZA1.out hb)
  have ZB2 := Lib.hid (blk_later ZB1.out hb)
  clear hb ZA1 ZB1
  clear cA0 cA1 cA2 cA3 cAf cAz
  go_wp2_with fail
  go_ret
  refine ⟨_, rfl, ⟨World.ownsRow_nil _ _ _ _, fun k hk => by simp [Value.ownBlock] at hk⟩, HB2.out⟩

set_option maxRecDepth 100000 in
set_option maxHeartbeats 4000000 in
theorem specRel_no2 (AP AR AC BP BR BC : Int) (dA dB : Value) (DA DB : List Int) (w : World) (hdA : Ints w dA DA) (hdB : Ints w dB DB) (ha : IsFl AP AR AC DA) (hb : ¬ IsFl BP BR BC DB) :
    Calls Try.prog 18 #[.agg #[.int .i64 AP, .int .i64 AR, .int .i64 AC, dA], .agg #[.int .i64 BP, .int .i64 BR, .int .i64 BC, dB]] w fun e w' => RetI w [] e w' := by
  have Hka := Lib.hid ha
  have Hkb := Lib.hid hb
  clear ha hb
  have HdA := Lib.hid hdA
  obtain ⟨pA, kA, rfl, ⟨_, mA⟩, _⟩ := hdA
  unfold maxLen at mA
  have HdB := Lib.hid hdB
  obtain ⟨pB, kB, rfl, ⟨_, mB⟩, _⟩ := hdB
  unfold maxLen at mB
  obtain ⟨z0, z1⟩ := boxes_ab w (.cells #[.int .i64 AP, .int .i64 AR, .int .i64 AC, .slice pA DA.length kA] 27) (.cells #[.int .i64 BP, .int .i64 BR, .int .i64 BC, .slice pB DB.length kB] 27)
  have ZA1 := Lib.hid z0
  have ZB1 := Lib.hid z1
  clear z0 z1
  have HB1 := Lib.hid (below_alloc2 w (.cells #[.int .i64 AP, .int .i64 AR, .int .i64 AC, .slice pA DA.length kA] 27) (.cells #[.int .i64 BP, .int .i64 BR, .int .i64 BC, .slice pB DB.length kB] 27))
  go_enter Try.func18, Try.ntmps18
  go_wp2_with fail
  have hs1 : ((w.alloc (.cells #[.int .i64 AP, .int .i64 AR, .int .i64 AC, .slice pA DA.length kA] 27)).alloc (.cells #[.int .i64 BP, .int .i64 BR, .int .i64 BC, .slice pB DB.length kB] 27)).heap.size = w.heap.size + 1 + 1 := by simp
  generalize (w.alloc (.cells #[.int .i64 AP, .int .i64 AR, .int .i64 AC, .slice pA DA.length kA] 27)).alloc (.cells #[.int .i64 BP, .int .i64 BR, .int .i64 BC, .slice pB DB.length kB] 27) = w1 at *
  obtain ⟨cA0, cA1, cA2, cA3, cAf, cAz⟩ := blk4 ZA1.out
  go_wp2_with fail
  refine (specFlag_yes _ _ _ _ _ Hka.out _ (HdA.out.below HB1.out)).mono ?_
  rintro e w2 ⟨rfl, hb⟩
  have hs2 := hb.size
  have HB2 := Lib.hid (HB1.out.trans (hb.mono HB1.out.size))
  have ZA2 := Lib.hid (blk_later ZA1.out hb)
  have ZB2 := Lib.hid (blk_later ZB1.out hb)
  clear hb ZA1 ZB1
  clear cA0 cA1 cA2 cA3 cAf cAz
  obtain ⟨cB0, cB1, cB2, cB3, cBf, cBz⟩ := blk4 ZB2.out
  go_wp2_with fail
  refine (specFlag_no _ _ _ _ _ Hkb.out _ (HdB.out.below HB2.out)).mono ?_
  rintro e w3 ⟨rfl, hb⟩
  have hs3 := hb.size
  have HB3 := Lib.hid (HB2.out.trans (hb.mono HB2.out.size))
  have ZA3 := Lib.hid (blk_later ZA2.out hb)
  have ZB3 := Lib.hid (blk_later ZB2.out hb)
  clear hb ZA2 ZB2
  clear cB0 cB1 cB2 cB3 cBf cBz
  go_wp2_with fail
  go_ret
  refine ⟨_, rfl, ⟨World.ownsRow_nil _ _ _ _, fun k hk => by simp [Value.ownBlock] at hk⟩, HB3.out⟩

set_option maxRecDepth 100000 in
set_option maxHeartbeats 4000000 in
theorem specRel_no3 (AP AR AC BP BR BC : Int) (dA dB : Value) (DA DB : List Int) (w : World) (hdA : Ints w dA DA) (hdB : Ints w dB DB) (ha : IsFl AP AR AC DA) (hb : IsFl BP BR BC DB) (h1 : AP ≠ BP) :
    Calls Try.prog 18 #[.agg #[.int .i64 AP, .int .i64 AR, .int .i64 AC, dA], .agg #[.int .i64 BP, .int .i64 BR, .int .i64 BC, dB]] w fun e w' => RetI w [] e w' := by
  have Hka := Lib.hid ha
  have Hkb := Lib.hid hb
  clear ha hb
  have e1 : (AP != BP) = true := by simpa using h1
  clear h1
  have HdA := Lib.hid hdA
  obtain ⟨pA, kA, rfl, ⟨_, mA⟩, _⟩ := hdA
  unfold maxLen at mA
  have HdB := Lib.hid hdB
  obtain ⟨pB, kB, rfl, ⟨_, mB⟩, _⟩ := hdB
  unfold maxLen at mB
  obtain ⟨z0, z1⟩ := boxes_ab w (.cells #[.int .i64 AP, .int .i64 AR, .int .i64 AC, .slice pA DA.length kA] 27) (.cells #[.int .i64 BP, .int .i64 BR, .int .i64 BC, .slice pB DB.length kB] 27)
  have ZA1 := Lib.hid z0
  have ZB1 := Lib.hid z1
  clear z0 z1
  have HB1 := Lib.hid (below_alloc2 w (.cells #[.int .i64 AP, .int .i64 AR, .int .i64 AC, .slice pA DA.length kA] 27) (.cells #[.int .i64 BP, .int .i64 BR, .int .i64 BC, .slice pB DB.length kB] 27))
  go_enter Try.func18, Try.ntmps18
  go_wp2_with fail
  have hs1 : ((w.alloc (.cells #[.int .i64 AP, .int .i64 AR, .int .i64 AC, .slice pA DA.length kA] 27)).alloc (.cells #[.int .i64 BP, .int .i64 BR, .int .i64 BC, .slice pB DB.length kB] 27)).heap.size = w.heap.size + 1 + 1 := by simp
  generalize (w.alloc (.cells #[.int .i64 AP, .int .i64 AR, .int .i64 AC, .slice pA DA.length kA] 27)).alloc (.cells #[.int .i64 BP, .int .i64 BR, .int .i64 BC, .slice pB DB.length kB] 27) = w1 at *
  obtain ⟨cA0, cA1, cA2, cA3, cAf, cAz⟩ := blk4 ZA1.out
  go_wp2_with fail
  refine (specFlag_yes _ _ _ _ _ Hka.out _ (HdA.out.below HB1.out)).mono ?_
  rintro e w2 ⟨rfl, hb⟩
  have hs2 := hb.size
  have HB2 := Lib.hid (HB1.out.trans (hb.mono HB1.out.size))
  have ZA2 := Lib.hid (blk_later ZA1.out hb)
  have ZB2 := Lib.hid (blk_later ZB1.out hb)
  clear hb ZA1 ZB1
  clear cA0 cA1 cA2 cA3 cAf cAz
  obtain ⟨cB0, cB1, cB2, cB3, cBf, cBz⟩ := blk4 ZB2.out
  go_wp2_with fail
  refine (specFlag_yes _ _ _ _ _ Hkb.out _ (HdB.out.below HB2.out)).mono ?_
  rintro e w3 ⟨rfl, hb⟩
  have hs3 := hb.size
  have HB3 := Lib.hid (HB2.out.trans (hb.mono HB2.out.size))
  have ZA3 := Lib.hid (blk_later ZA2.out hb)
  have ZB3 := Lib.hid (blk_later ZB2.out hb)
  clear hb ZA2 ZB2
  clear cB0 cB1 cB2 cB3 cBf cBz
  obtain ⟨cA0, cA1, cA2, cA3, cAf, cAz⟩ := blk4 ZA3.out
  obtain ⟨cB0, cB1, cB2, cB3, cBf, cBz⟩ := blk4 ZB3.out
  go_wp2_with fail
  go_ret
  refine ⟨_, rfl, ⟨World.ownsRow_nil _ _ _ _, fun k hk => by simp [Value.ownBlock] at hk⟩, HB3.out⟩

set_option maxRecDepth 100000 in
set_option maxHeartbeats 4000000 in
theorem specRel_no4 (AP AR AC BP BR BC : Int) (dA dB : Value) (DA DB : List Int) (w : World) (hdA : Ints w dA DA) (hdB : Ints w dB DB) (ha : IsFl AP AR AC DA) (hb : IsFl BP BR BC DB) (h1 : AP = BP) (h2 : AC ≠ BC) :
    Calls Try.prog 18 #[.agg #[.int .i64 AP, .int .i64 AR, .int .i64 AC, dA], .agg #[.int .i64 BP, .int .i64 BR, .int .i64 BC, dB]] w fun e w' => RetI w [] e w' := by
  have Hka := Lib.hid ha
  have Hkb := Lib.hid hb
  clear ha hb
  have e1 : (AP != BP) = false := by simpa using h1
  have e2 : (AC != BC) = true := by simpa using h2
  clear h1 h2
  have HdA := Lib.hid hdA
  obtain ⟨pA, kA, rfl, ⟨_, mA⟩, _⟩ := hdA
  unfold maxLen at mA
  have HdB := Lib.hid hdB
  obtain ⟨pB, kB, rfl, ⟨_, mB⟩, _⟩ := hdB
  unfold maxLen at mB
  obtain ⟨z0, z1⟩ := boxes_ab w (.cells #[.int .i64 AP, .int .i64 AR, .int .i64 AC, .slice pA DA.length kA] 27) (.cells #[.int .i64 BP, .int .i64 BR, .int .i64 BC, .slice pB DB.length kB] 27)
  have ZA1 := Lib.hid z0
  have ZB1 := Lib.hid z1
  clear z0 z1
  have HB1 := Lib.hid (below_alloc2 w (.cells #[.int .i64 AP, .int .i64 AR, .int .i64 AC, .slice pA DA.length kA] 27) (.cells #[.int .i64 BP, .int .i64 BR, .int .i64 BC, .slice pB DB.length kB] 27))
  go_enter Try.func18, Try.ntmps18
  go_wp2_with fail
  have hs1 : ((w.alloc (.cells #[.int .i64 AP, .int .i64 AR, .int .i64 AC, .slice pA DA.length kA] 27)).alloc (.cells #[.int .i64 BP, .int .i64 BR, .int .i64 BC, .slice pB DB.length kB] 27)).heap.size = w.heap.size + 1 + 1 := by simp
  generalize (w.alloc (.cells #[.int .i64 AP, .int .i64 AR, .int .i64 AC, .slice pA DA.length kA] 27)).alloc (.cells #[.int .i64 BP, .int .i64 BR, .int .i64 BC, .slice pB DB.length kB] 27) = w1 at *
  obtain ⟨cA0, cA1, cA2, cA3, cAf, cAz⟩ := blk4 ZA1.out
  go_wp2_with fail
  refine (specFlag_yes _ _ _ _ _ Hka.out _ (HdA.out.below HB1.out)).mono ?_
  rintro e w2 ⟨rfl, hb⟩
  have hs2 := hb.size
  have HB2 := Lib.hid (HB1.out.trans (hb.mono HB1.out.size))
  have ZA2 := Lib.hid (blk_later ZA1.out hb)
  have ZB2 := Lib.hid (blk_later ZB1.out hb)
  clear hb ZA1 ZB1
  clear cA0 cA1 cA2 cA3 cAf cAz
  obtain ⟨cB0, cB1, cB2, cB3, cBf, cBz⟩ := blk4 ZB2.out
  go_wp2_with fail
  refine (specFlag_yes _ _ _ _ _ Hkb.out _ (HdB.out.below HB2.out)).mono ?_
  rintro e w3 ⟨rfl, hb⟩
  have hs3 := hb.size
  have HB3 := Lib.hid (HB2.out.trans (hb.mono HB2.out.size))
  have ZA3 := Lib.hid (blk_later ZA2.out hb)
  have ZB3 := Lib.hid (blk_later ZB2.out hb)
  clear hb ZA2 ZB2
  clear cB0 cB1 cB2 cB3 cBf cBz
  obtain ⟨cA0, cA1, cA2, cA3, cAf, cAz⟩ := blk4 ZA3.out
  obtain ⟨cB0, cB1, cB2, cB3, cBf, cBz⟩ := blk4 ZB3.out
  go_wp2_with fail
  go_ret
  refine ⟨_, rfl, ⟨World.ownsRow_nil _ _ _ _, fun k hk => by simp [Value.ownBlock] at hk⟩, HB3.out⟩

set_option maxRecDepth 100000 in
set_option maxHeartbeats 4000000 in
theorem implRel_no1 (AP AR AC BP BR BC : Int) (dA dB : Value) (DA DB : List Int) (w : World) (hdA : Ints w dA DA) (hdB : Ints w dB DB) (ha : ¬ IsFl AP AR AC DA) :
    Calls Try.prog 19 #[.agg #[.int .i64 AP, .int .i64 AR, .int .i64 AC, dA], .agg #[.int .i64 BP, .int .i64 BR, .int .i64 BC, dB]] w fun e w' => RetI w [] e w' := by
  have Hka := Lib.hid ha
  clear ha
  have HdA := Lib.hid hdA
  obtain ⟨pA, kA, rfl, ⟨_, mA⟩, _⟩ := hdA
  unfold maxLen at mA
  have HdB := Lib.hid hdB
  obtain ⟨pB, kB, rfl, ⟨_, mB⟩, _⟩ := hdB
  unfold maxLen at mB
  obtain ⟨z0, z1⟩ := boxes_ab w (.cells #[.int .i64 AP, .int .i64 AR, .int .i64 AC, .slice pA DA.length kA] 27) (.cells #[.int .i64 BP, .int .i64 BR, .int .i64 BC, .slice pB DB.length kB] 27)
  have ZA1 := Lib.hid z0
  have ZB1 := Lib.hid z1
  clear z0 z1
  have HB1 := Lib.hid (below_alloc2 w (.cells #[.int .i64 AP, .int .i64 AR, .int .i64 AC, .slice pA DA.length kA] 27) (.cells #[.int .i64 BP, .int .i64 BR, .int .i64 BC, .slice pB DB.length kB] 27))
  go_enter Try.func19, Try.ntmps19
  go_wp2_with fail
  have hs1 : ((w.alloc (.cells #[.int .i64 AP, .int .i64 AR, .int .i64 AC, .slice pA DA.length kA] 27)).alloc (.cells #[.int .i64 BP, .int .i64 BR, .int .i64 BC, .slice pB DB.length kB] 27)).heap.size = w.heap.size + 1 + 1 := by simp
  generalize (w.alloc (.cells #[.int .i64 AP, .int .i64 AR, .int .i64 AC, .slice pA DA.length kA] 27)).alloc (.cells #[.int .i64 BP, .int .i64 BR, .int .i64 BC, .slice pB DB.length kB] 27) = w1 at *
  obtain ⟨cA0, cA1, cA2, cA3, cAf, cAz⟩ := blk4 ZA1.out
  go_wp2_with fail
  refine (implFlag_no _ _ _ _ _ Hka.out _ (HdA.out.below HB1.out)).mono ?_
  rintro e w2 ⟨rfl, hb⟩
  have hs2 := hb.size
  have HB2 := Lib.hid (HB1.out.trans (hb.mono HB1.out.size))
  have ZA2 := Lib.hid (blk_later ZA1.out hb)
  have ZB2 := Lib.hid (blk_later ZB1.out hb)
  clear hb ZA1 ZB1
  clear cA0 cA1 cA2 cA3 cAf cAz
  go_wp2_with fail
  go_ret
  refine ⟨_, rfl, ⟨World.ownsRow_nil _ _ _ _, fun k hk => by simp [Value.ownBlock] at hk⟩, HB2.out⟩

set_option maxRecDepth 100000 in
set_option maxHeartbeats 4000000 in
theorem implRel_no2 (AP AR AC BP BR BC : Int) (dA dB : Value) (DA DB : List Int) (w : World) (hdA : Ints w dA DA) (hdB : Ints w dB DB) (ha : IsFl AP AR AC DA) (hb : ¬ IsFl BP BR BC DB) :
    Calls Try.prog 19 #[.agg #[.int .i64 AP, .int .i64 AR, .int .i64 AC, dA], .agg #[.int .i64 BP, .int .i64 BR, .int .i64 BC, dB]] w fun e w' => RetI w [] e w' := by
  have Hka := Lib.hid ha
  have Hkb := Lib.hid hb
  clear ha hb
  have HdA := Lib.hid hdA
  obtain ⟨pA, kA, rfl, ⟨_, mA⟩, _⟩ := hdA
  unfold maxLen at mA
  have HdB := Lib.hid hdB
  obtain ⟨pB, kB, rfl, ⟨_, mB⟩, _⟩ := hdB
  unfold maxLen at mB
  obtain ⟨z0, z1⟩ := boxes_ab w (.cells #[.int .i64 AP, .int .i64 AR, .int .i64 AC, .slice pA DA.length kA] 27) (.cells #[.int .i64 BP, .int .i64 BR, .int .i64 BC, .slice pB DB.length kB] 27)
  have ZA1 := Lib.hid z0
  have ZB1 := Lib.hid z1
  clear z0 z1
  have HB1 := Lib.hid (below_alloc2 w (.cells #[.int .i64 AP, .int .i64 AR, .int .i64 AC, .slice pA DA.length kA] 27) (.cells #[.int .i64 BP, .int .i64 BR, .int .i64 BC, .slice pB DB.length kB] 27))
  go_enter Try.func19, Try.ntmps19
  go_wp2_with fail
  have hs1 : ((w.alloc (.cells #[.int .i64 AP, .int .i64 AR, .int .i64 AC, .slice pA DA.length kA] 27)).alloc (.cells #[.int .i64 BP, .int .i64 BR, .int .i64 BC, .slice pB DB.length kB] 27)).heap.size = w.heap.size + 1 + 1 := by simp
  generalize (w.alloc (.cells #[.int .i64 AP, .int .i64 AR, .int .i64 AC, .slice pA DA.length kA] 27)).alloc (.cells #[.int .i64 BP, .int .i64 BR, .int .i64 BC, .slice pB DB.length kB] 27) = w1 at *
  obtain ⟨cA0, cA1, cA2, cA3, cAf, cAz⟩ := blk4 ZA1.out
  go_wp2_with fail
  refine (implFlag_yes _ _ _ _ _ Hka.out _ (HdA.out.below HB1.out)).mono ?_
  rintro e w2 ⟨rfl, hb⟩
  have hs2 := hb.size
  have HB2 := Lib.hid (HB1.out.trans (hb.mono HB1.out.size))
  have ZA2 := Lib.hid (blk_later ZA1.out hb)
  have ZB2 := Lib.hid (blk_later ZB1.out hb)
  clear hb ZA1 ZB1
  clear cA0 cA1 cA2 cA3 cAf cAz
  obtain ⟨cB0, cB1, cB2, cB3, cBf, cBz⟩ := blk4 ZB2.out
  go_wp2_with fail
  refine (implFlag_no _ _ _ _ _ Hkb.out _ (HdB.out.below HB2.out)).mono ?_
  rintro e w3 ⟨rfl, hb⟩
  have hs3 := hb.size
  have HB3 := Lib.hid (HB2.out.trans (hb.mono HB2.out.size))
  have ZA3 := Lib.hid (blk_later ZA2.out hb)
  have ZB3 := Lib.hid (blk_later ZB2.out hb)
  clear hb ZA2 ZB2
  clear cB0 cB1 cB2 cB3 cBf cBz
  go_wp2_with fail
  go_ret
  refine ⟨_, rfl, ⟨World.ownsRow_nil _ _ _ _, fun k hk => by simp [Value.ownBlock] at hk⟩, HB3.out⟩

set_option maxRecDepth 100000 in
set_option maxHeartbeats 4000000 in
theorem implRel_no3 (AP AR AC BP BR BC : Int) (dA dB : Value) (DA DB : List Int) (w : World) (hdA : Ints w dA DA) (hdB : Ints w dB DB) (ha : IsFl AP AR AC DA) (hb : IsFl BP BR BC DB) (hf : fitOk AP AC BP BC = false) :
    Calls Try.prog 19 #[.agg #[.int .i64 AP, .int .i64 AR, .int .i64 AC, dA], .agg #[.int .i64 BP, .int .i64 BR, .int .i64 BC, dB]] w fun e w' => RetI w [] e w' := by
  have Hka := Lib.hid ha
  have Hkb := Lib.hid hb
  clear ha hb
  have Hf := Lib.hid hf
  clear hf
  have HdA := Lib.hid hdA
  obtain ⟨pA, kA, rfl, ⟨_, mA⟩, _⟩ := hdA
  unfold maxLen at mA
  have HdB := Lib.hid hdB
  obtain ⟨pB, kB, rfl, ⟨_, mB⟩, _⟩ := hdB
  unfold maxLen at mB
  obtain ⟨z0, z1⟩ := boxes_ab w (.cells #[.int .i64 AP, .int .i64 AR, .int .i64 AC, .slice pA DA.length kA] 27) (.cells #[.int .i64 BP, .int .i64 BR, .int .i64 BC, .slice pB DB.length kB] 27)
  have ZA1 := Lib.hid z0
  have ZB1 := Lib.hid z1
  clear z0 z1
  have HB1 := Lib.hid (below_alloc2 w (.cells #[.int .i64 AP, .int .i64 AR, .int .i64 AC, .slice pA DA.length kA] 27) (.cells #[.int .i64 BP, .int .i64 BR, .int .i64 BC, .slice pB DB.length kB] 27))
  go_enter Try.func19, Try.ntmps19
  go_wp2_with fail
  have hs1 : ((w.alloc (.cells #[.int .i64 AP, .int .i64 AR, .int .i64 AC, .slice pA DA.length kA] 27)).alloc (.cells #[.int .i64 BP, .int .i64 BR, .int .i64 BC, .slice pB DB.length kB] 27)).heap.size = w.heap.size + 1 + 1 := by simp
  generalize (w.alloc (.cells #[.int .i64 AP, .int .i64 AR, .int .i64 AC, .slice pA DA.length kA] 27)).alloc (.cells #[.int .i64 BP, .int .i64 BR, .int .i64 BC, .slice pB DB.length kB] 27) = w1 at *
  obtain ⟨cA0, cA1, cA2, cA3, cAf, cAz⟩ := blk4 ZA1.out
  go_wp2_with fail
  refine (implFlag_yes _ _ _ _ _ Hka.out _ (HdA.out.below HB1.out)).mono ?_
  rintro e w2 ⟨rfl, hb⟩
  have hs2 := hb.size
  have HB2 := Lib.hid (HB1.out.trans (hb.mono HB1.out.size))
  have ZA2 := Lib.hid (blk_later ZA1.out hb)
  have ZB2 := Lib.hid (blk_later ZB1.out hb)
  clear hb ZA1 ZB1
  clear cA0 cA1 cA2 cA3 cAf cAz
  obtain ⟨cB0, cB1, cB2, cB3, cBf, cBz⟩ := blk4 ZB2.out
  go_wp2_with fail
  refine (implFlag_yes _ _ _ _ _ Hkb.out _ (HdB.out.below HB2.out)).mono ?_
  rintro e w3 ⟨rfl, hb⟩
  have hs3 := hb.size
  have HB3 := Lib.hid (HB2.out.trans (hb.mono HB2.out.size))
  have ZA3 := Lib.hid (blk_later ZA2.out hb)
  have ZB3 := Lib.hid (blk_later ZB2.out hb)
  clear hb ZA2 ZB2
  clear cB0 cB1 cB2 cB3 cBf cBz
  obtain ⟨cA0, cA1, cA2, cA3, cAf, cAz⟩ := blk4 ZA3.out
  obtain ⟨cB0, cB1, cB2, cB3, cBf, cBz⟩ := blk4 ZB3.out
  go_wp2_with fail
  refine (fitTogether_any _ _ _ _ _ _ _ _ DA DB _ (HdA.out.below HB3.out) (HdB.out.below HB3.out)).mono ?_
  rintro e w4 ⟨rfl, hb⟩
  have hs4 := hb.size
  have HB4 := Lib.hid (HB3.out.trans (hb.mono HB3.out.size))
  have ZA4 := Lib.hid (blk_later ZA3.out hb)
  have ZB4 := Lib.hid (blk_later ZB3.out hb)
  clear hb ZA3 ZB3
  clear cA0 cA1 cA2 cA3 cAf cAz cB0 cB1 cB2 cB3 cBf cBz
  rw [Hf.out]
  go_wp2_with fail
  go_ret
  refine ⟨_, rfl, ⟨World.ownsRow_nil _ _ _ _, fun k hk => by simp [Value.ownBlock] at hk⟩, HB4.out⟩

set_option maxRecDepth 100000 in
set_option maxHeartbeats 16000000 in
theorem specRel_yes (AP AR AC BP BR BC : Int) (dA dB : Value) (DA DB : List Int) (w : World) (hdA : Ints w dA DA) (hdB : Ints w dB DB) (h : FfIs AP AR AC DA BP BR BC DB) :
    Calls Try.prog 18 #[.agg #[.int .i64 AP, .int .i64 AR, .int .i64 AC, dA], .agg #[.int .i64 BP, .int .i64 BR, .int .i64 BC, dB]] w fun e w' => ∃ l, RetI w l e w' ∧ l.length = AC.toNat ∧ RpUp AP AC.toNat (mf AC.toNat fun t => DA.getD t 0) (mf AC.toNat fun t => DB.getD t 0) l := by
  obtain ⟨hs, hf, hPe, hCe⟩ := h
  subst hPe hCe
  obtain ⟨c, rfl, rfl, hc0, hc, hlA, hDA, hP2, hP7, hpr, hkA⟩ := hs.facts
  obtain ⟨n, rfl, e2, _, _, hlB, hDB, _, _, _, hkB⟩ := hf.facts
  obtain rfl := Int.ofNat.inj e2
  clear e2
  have Hka := Lib.hid hs
  have Hkb := Lib.hid hf
  have HgA := Lib.hid (fun t => getD_range hDA (by omega) t)
  have HgB := Lib.hid (fun t => getD_range hDB (by omega) t)
  have HlA := Lib.hid hlA
  have HlB := Lib.hid hlB
  have Hpr := Lib.hid hpr
  have HkA := Lib.hid hkA
  have HkB := Lib.hid hkB
  clear hs hf hlA hlB hDA hDB hpr hkA hkB
  simp only [Int.toNat_natCast]
  have HdA := Lib.hid hdA
  obtain ⟨pA, kA, rfl, ⟨_, mA⟩, _⟩ := hdA
  unfold maxLen at mA
  have HdB := Lib.hid hdB
  obtain ⟨pB, kB, rfl, ⟨_, mB⟩, _⟩ := hdB
  unfold maxLen at mB
  obtain ⟨z0, z1⟩ := boxes_ab w (.cells #[.int .i64 AP, .int .i64 (c : Int), .int .i64 (c : Int), .slice pA DA.length kA] 27) (.cells #[.int .i64 AP, .int .i64 (c : Int), .int .i64 (c : Int), .slice pB DB.length kB] 27)
  have ZA1 := Lib.hid z0
  have ZB1 := Lib.hid z1
  clear z0 z1
  have HB1 := Lib.hid (below_alloc2 w (.cells #[.int .i64 AP, .int .i64 (c : Int), .int .i64 (c : Int), .slice pA DA.length kA] 27) (.cells #[.int .i64 AP, .int .i64 (c : Int), .int .i64 (c : Int), .slice pB DB.length kB] 27))
  go_enter Try.func18, Try.ntmps18
  go_wp2_with fail
  have hs1 : ((w.alloc (.cells #[.int .i64 AP, .int .i64 (c : Int), .int .i64 (c : Int), .slice pA DA.length kA] 27)).alloc (.cells #[.int .i64 AP, .int .i64 (c : Int), .int .i64 (c : Int), .slice pB DB.length kB] 27)).heap.size = w.heap.size + 1 + 1 := by simp
  generalize (w.alloc (.cells #[.int .i64 AP, .int .i64 (c : Int), .int .i64 (c : Int), .slice pA DA.length kA] 27)).alloc (.cells #[.int .i64 AP, .int .i64 (c : Int), .int .i64 (c : Int), .slice pB DB.length kB] 27) = w1 at *
  obtain ⟨cA0, cA1, cA2, cA3, cAf, cAz⟩ := blk4 ZA1.out
  go_wp2_with fail
  refine (specFlag_yes _ _ _ _ _ Hka.out _ (HdA.out.below HB1.out)).mono ?_
  rintro e w2 ⟨rfl, hb⟩
  have hs2 := hb.size
  have HB2 := Lib.hid (HB1.out.trans (hb.mono HB1.out.size))
  have ZA2 := Lib.hid (blk_later ZA1.out hb)
  have ZB2 := Lib.hid (blk_later ZB1.out hb)
  clear hb ZA1 ZB1
  clear cA0 cA1 cA2 cA3 cAf cAz
  obtain ⟨cB0, cB1, cB2, cB3, cBf, cBz⟩ := blk4 ZB2.out
  go_wp2_with fail
  refine (specFlag_yes _ _ _ _ _ Hkb.out _ (HdB.out.below HB2.out)).mono ?_
  rintro e w3 ⟨rfl, hb⟩
  have hs3 := hb.size
  have HB3 := Lib.hid (HB2.out.trans (hb.mono HB2.out.size))
  have ZA3 := Lib.hid (blk_later ZA2.out hb)
  have ZB3 := Lib.hid (blk_later ZB2.out hb)
  clear hb ZA2 ZB2
  clear cB0 cB1 cB2 cB3 cBf cBz
  have HS0 : Hid (S2 w AP (c : Int) (c : Int) (.slice pA DA.length kA) AP (c : Int) (c : Int) (.slice pB DB.length kB) w3) := Lib.hid (S2.of_blk ZA3.out ZB3.out HB3.out)
  clear ZA3 ZB3
  obtain ⟨⟨cA0, cA1, cA2, cA3, cB0, cB1, cB2, cB3⟩, hBw⟩ := HS0.out
  go_wp2_with fail
  clear cA0 cA1 cA2 cA3 cB0 cB1 cB2 cB3 hBw
  go_loopg [5, 6] c (fun g s5 s6 wr => ∃ (i : Nat) (l : List Int), i ≤ c ∧ g = c - i ∧ s6 = .int .i64 i ∧ Hid (l.length = i) ∧ Hid (S2 w AP (c : Int) (c : Int) (.slice pA DA.length kA) AP (c : Int) (c : Int) (.slice pB DB.length kB) wr) ∧ Hid (OwnI 3 wr (w3.heap.size) wr.heap.size s5 l) ∧ Hid (RpUp AP c (mf c fun t => DA.getD t 0) (mf c fun t => DB.getD t 0) l) ∧ Hid (Below w3.heap.size w3 wr))
  case atStart =>
    have hm0 := OwnF.made0 w3 3 (iv [])
    refine ⟨0, [], Nat.zero_le _, rfl, rfl, rfl, HS0.out.later (below_alloc _ _), ?_, fun j hj => absurd hj (Nat.not_lt_zero _), below_alloc _ _⟩
    exact Lib.hid (OwnF.ints (xs := []) (hm0.mono (Nat.le_refl _) (by simp)))
  case round =>
    obtain ⟨i, l, hi, rfl, rfl, hil, hSi, hol, hup, hbk⟩ := hrel
    obtain ⟨wi, rfl⟩ : ∃ x : World, x = wr := ⟨_, rfl⟩
    obtain ⟨p5, k5, rfl, hk5, hk5b⟩ := hol.out.shape
    unfold maxLen at hk5b
    obtain ⟨⟨cA0, cA1, cA2, cA3, cB0, cB1, cB2, cB3⟩, hBw⟩ := hSi.out
    by_cases hic : i < c
    · have hic2 : (i : Int) < (c : Int) := by omega
      have hl5 : l.length ≤ 7 := by have := hil.out; omega
      have Hl1 := Lib.hid (show l.length + 1 ≤ maxLen by unfold maxLen; omega)
      have Hl2 := Lib.hid (show (l.length + 1) * 8 ≤ 140737488355328 by omega)
      go_wp2_with fail
      clear cA0 cA1 cA2 cA3 cB0 cB1 cB2 cB3 hBw
      go_loopg [7] c (fun g s7 wr => ∃ j : Nat, j ≤ c ∧ g = c - j ∧ s7 = .int .i64 j ∧ Hid (S2 w AP (c : Int) (c : Int) (.slice pA DA.length kA) AP (c : Int) (c : Int) (.slice pB DB.length kB) wr) ∧ Hid (Below wi.heap.size wi wr) ∧ Hid (∀ k, k < j → ∀ a b, CmIs AP c (mf c fun t => DA.getD t 0) (i + 1) (mf c fun t => DB.getD t 0) (k + 1) a → CmIs AP c (mf c fun t => DA.getD t 0) i (mf c fun t => DB.getD t 0) (k + 1) b → a = b) ∧ j < c)
      case atStart => exact ⟨0, Nat.zero_le _, rfl, rfl, hSi.out, Below.refl _ _, fun k hk => absurd hk (Nat.not_lt_zero _), hc0⟩
      case round =>
        obtain ⟨j, hj, rfl, rfl, hS, hbi, hno, hjc⟩ := hrel
        obtain ⟨wj, rfl⟩ : ∃ x : World, x = wr := ⟨_, rfl⟩
        obtain ⟨⟨cA0, cA1, cA2, cA3, cB0, cB1, cB2, cB3⟩, hBw⟩ := hS.out
        have Hw1 := Lib.hid (show IntKind.i64.wrap ((j : Int) + 1) = (j : Int) + 1 from k64 (by omega) (by omega))
        have Hw2 := Lib.hid (show IntKind.i64.wrap ((i : Int) + 1) = (i : Int) + 1 from k64 (by omega) (by omega))
        go_wp2_with fail
        have hw1 := Hw1.out
        have hw2 := Hw2.out
        go_region_held3 (fun w' => (w'.cell? ⟨w.heap.size, 0, none⟩ = some (.int .i64 AP) ∧ w'.cell? ⟨w.heap.size, 1, none⟩ = some (.int .i64 (c : Int)) ∧ w'.cell? ⟨w.heap.size, 2, none⟩ = some (.int .i64 (c : Int)) ∧ w'.cell? ⟨w.heap.size, 3, none⟩ = some (.slice pA DA.length kA) ∧ w'.cell? ⟨w.heap.size + 1, 0, none⟩ = some (.int .i64 AP) ∧ w'.cell? ⟨w.heap.size + 1, 1, none⟩ = some (.int .i64 (c : Int)) ∧ w'.cell? ⟨w.heap.size + 1, 2, none⟩ = some (.int .i64 (c : Int)) ∧ w'.cell? ⟨w.heap.size + 1, 3, none⟩ = some (.slice pB DB.length kB)) ∧ Below w.heap.size w w')
          (first | exact ⟨⟨cA0, cA1, cA2, cA3, cB0, cB1, cB2, cB3⟩, hBw.drew⟩ | exact keep8 hb1 (by assumption))
          (first
            | (go_at_call_of 40 (Value.int .i64 (i : Int)); refine (l7Common_b AP c c c (i) (j + 1) _ _ DA DB _ (held_ints HdA.out (by assumption)) (held_ints HdB.out (by assumption)) HlA.out HlB.out hc hc hc hi hjc HgA.out HgB.out Hpr.out HkA.out HkB.out).mono ?_; rintro e w' ⟨mb, rfl, hmb, hmb1, hmb2, hb1⟩; have hbz : Below wj.heap.size wj w' := (by first | exact below_trans hbz hb1 | exact below_trans hbz (below_of_drew hb1) | exact hb1 | exact below_of_drew hb1))
            | (go_at_call 40; refine (l7Common_b AP c c c (i + 1) (j + 1) _ _ DA DB _ (held_ints HdA.out (by assumption)) (held_ints HdB.out (by assumption)) HlA.out HlB.out hc hc hc hic hjc HgA.out HgB.out Hpr.out HkA.out HkB.out).mono ?_; rintro e w' ⟨ma, rfl, hma, hma1, hma2, hb1⟩; have hbz : Below wj.heap.size wj w' := (by first | exact below_trans hbz hb1 | exact below_trans hbz (below_of_drew hb1) | exact hb1 | exact below_of_drew hb1)))
        have hS2 : S2 w AP (c : Int) (c : Int) (.slice pA DA.length kA) AP (c : Int) (c : Int) (.slice pB DB.length kB) _ := (by assumption)
        obtain ⟨wn, rfl⟩ : ∃ x : World, x = w' := ⟨_, rfl⟩
        have HS2 := Lib.hid hS2
        have Hbz := Lib.hid hbz
        have Hma := Lib.hid hma
        have Hmb := Lib.hid hmb
        have hst := CmIs.step Hpr.out (fun x hx => mf_rng HgA.out i x hx) hma hmb
        clear hS2 hbz hb1 hma hmb hw1 hw2 cA0 cA1 cA2 cA3 cB0 cB1 cB2 cB3 hBw
        by_cases hab : ma = mb
        · have hjc1 : j + 1 < c := by
            rcases Nat.lt_or_ge (j + 1) c with h | h
            · exact h
            · obtain rfl : c = j + 1 := by omega
              exact absurd hab (CmIs.last Hpr.out (mf_rng HgA.out) (mf_rng HgB.out) HkB.out Hma.out Hmb.out)
          have heq : (ma == mb) = true := by simpa using hab
          go_wp2_with fail
          go_roundg (c - (j + 1))
          case measure => omega
          case rel =>
            refine ⟨j + 1, by omega, rfl, by go_num, HS2.out, hbi.out.trans (Hbz.out.mono hbi.out.size), fun k hk a b ha hb => ?_, hjc1⟩
            by_cases e : k = j
            · subst e; rw [ha.one (primeOk_range Hpr.out).1 Hma.out, hb.one (primeOk_range Hpr.out).1 Hmb.out]; exact hab
            · exact hno.out k (by omega) a b ha hb
        · have heq : (ma == mb) = false := by simpa using hab
          have hrp : RpAt AP c (mf c fun t => DA.getD t 0) (mf c fun t => DB.getD t 0) i ((j : Nat) : Int) := ⟨j, rfl, hjc, ⟨ma, mb, Hma.out, Hmb.out, hab⟩, hno.out⟩
          have Hup2 := Lib.hid (hup.out.snoc hil.out hrp)
          have Hl3 := Lib.hid (show (l ++ [((j : Nat) : Int)]).length = i + 1 by rw [List.length_append, hil.out]; rfl)
          have Hol := Lib.hid (hol.out.below (hbi.out.trans (Hbz.out.mono hbi.out.size)))
          have hsk : w3.heap.size ≤ wi.heap.size := hbk.out.size
          have hsi : wi.heap.size ≤ wn.heap.size := Nat.le_trans hbi.out.size Hbz.out.size
          have Hb2 := Lib.hid (Below.trans hbk.out ((Below.trans hbi.out (Hbz.out.mono hbi.out.size)).mono hsk))
          clear hrp
          go_wp2_with (at_builtin; go_must (refine wpList_append_F rfl (.tmp 53) (.tmp 55) 22 rfl 3 (.int .i64 0) 8 Try.underlying22 info_int rfl w3.heap.size wi.heap.size _ l.length _ rfl (Hol.out.fn.below (below_alloc _ _)) (by simp; omega) (by simp; omega) _ _ _ rfl (rd_one _ _ _ rfl) (fun j _ => rfl) Hl1.out Hl2.out ?_; intro v' w' ho' hg'))
          have hol2 := OwnI.snoc1 ho'
          have hb3 : Below w3.heap.size w3 w' := Hb2.out.trans (((below_alloc wn _).mono (by omega)).trans (grownBy_below hg' (OwnF.blocks (Hol.out.fn)) (Nat.le_refl _) (by simp; omega)))
          have hS3 := HS2.out.laterB (((below_alloc wn _).mono (by omega)).trans (grownBy_below hg' (OwnF.blocks (Hol.out.fn)) (Nat.le_refl _) (by simp; omega))) (S2.size HS0.out)
          go_roundg (c - (i + 1))
          case measure => omega
          case rel => exact ⟨i + 1, l ++ [((j : Nat) : Int)], hic, rfl, by go_num, Hl3.out, hS3, hol2, Hup2.out, hb3⟩
    · obtain rfl : i = c := by omega
      go_wp2_with fail
      go_ret
      have hsz : w3.heap.size ≤ wi.heap.size := hbk.out.size
      have hs0 := S2.size HS0.out
      exact ⟨l, ⟨_, rfl, hol.out.mono (by omega) (Nat.le_refl _), hBw⟩, hil.out, hup.out⟩

set_option maxRecDepth 100000 in
set_option maxHeartbeats 16000000 in
theorem implRel_yes (AP AR AC BP BR BC : Int) (dA dB : Value) (DA DB : List Int) (w : World) (hdA : Ints w dA DA) (hdB : Ints w dB DB) (h : FfIs AP AR AC DA BP BR BC DB) :
    Calls Try.prog 19 #[.agg #[.int .i64 AP, .int .i64 AR, .int .i64 AC, dA], .agg #[.int .i64 BP, .int .i64 BR, .int .i64 BC, dB]] w fun e w' => ∃ l, RetI w l e w' ∧ l.length = AC.toNat ∧ RpUp AP AC.toNat (mf AC.toNat fun t => DA.getD t 0) (mf AC.toNat fun t => DB.getD t 0) l := by
  obtain ⟨hs, hf, hPe, hCe⟩ := h
  subst hPe hCe
  obtain ⟨c, rfl, rfl, hc0, hc, hlA, hDA, hP2, hP7, hpr, hkA⟩ := hs.facts
  obtain ⟨n, rfl, e2, _, _, hlB, hDB, _, _, _, hkB⟩ := hf.facts
  obtain rfl := Int.ofNat.inj e2
  clear e2
  have Hka := Lib.hid hs
  have Hkb := Lib.hid hf
  have HgA := Lib.hid (fun t => getD_range hDA (by omega) t)
  have HgB := Lib.hid (fun t => getD_range hDB (by omega) t)
  have HlA := Lib.hid hlA
  have HlB := Lib.hid hlB
  have Hpr := Lib.hid hpr
  have HkA := Lib.hid hkA
  have HkB := Lib.hid hkB
  clear hs hf hlA hlB hDA hDB hpr hkA hkB
  have Hf := Lib.hid (show fitOk AP c AP c = true by simp [fitOk])
  simp only [Int.toNat_natCast]
  have HdA := Lib.hid hdA
  obtain ⟨pA, kA, rfl, ⟨_, mA⟩, _⟩ := hdA
  unfold maxLen at mA
  have HdB := Lib.hid hdB
  obtain ⟨pB, kB, rfl, ⟨_, mB⟩, _⟩ := hdB
  unfold maxLen at mB
  obtain ⟨z0, z1⟩ := boxes_ab w (.cells #[.int .i64 AP, .int .i64 (c : Int), .int .i64 (c : Int), .slice pA DA.length kA] 27) (.cells #[.int .i64 AP, .int .i64 (c : Int), .int .i64 (c : Int), .slice pB DB.length kB] 27)
  have ZA1 := Lib.hid z0
  have ZB1 := Lib.hid z1
  clear z0 z1
  have HB1 := Lib.hid (below_alloc2 w (.cells #[.int .i64 AP, .int .i64 (c : Int), .int .i64 (c : Int), .slice pA DA.length kA] 27) (.cells #[.int .i64 AP, .int .i64 (c : Int), .int .i64 (c : Int), .slice pB DB.length kB] 27))
  go_enter Try.func19, Try.ntmps19
  go_wp2_with fail
  have hs1 : ((w.alloc (.cells #[.int .i64 AP, .int .i64 (c : Int), .int .i64 (c : Int), .slice pA DA.length kA] 27)).alloc (.cells #[.int .i64 AP, .int .i64 (c : Int), .int .i64 (c : Int), .slice pB DB.length kB] 27)).heap.size = w.heap.size + 1 + 1 := by simp
  generalize (w.alloc (.cells #[.int .i64 AP, .int .i64 (c : Int), .int .i64 (c : Int), .slice pA DA.length kA] 27)).alloc (.cells #[.int .i64 AP, .int .i64 (c : Int), .int .i64 (c : Int), .slice pB DB.length kB] 27) = w1 at *
  obtain ⟨cA0, cA1, cA2, cA3, cAf, cAz⟩ := blk4 ZA1.out
  go_wp2_with fail
  refine (implFlag_yes _ _ _ _ _ Hka.out _ (HdA.out.below HB1.out)).mono ?_
  rintro e w2 ⟨rfl, hb⟩
  have hs2 := hb.size
  have HB2 := Lib.hid (HB1.out.trans (hb.mono HB1.out.size))
  have ZA2 := Lib.hid (blk_later ZA1.out hb)
  have ZB2 := Lib.hid (blk_later ZB1.out hb)
  clear hb ZA1 ZB1
  clear cA0 cA1 cA2 cA3 cAf cAz
  obtain ⟨cB0, cB1, cB2, cB3, cBf, cBz⟩ := blk4 ZB2.out
  go_wp2_with fail
  refine (implFlag_yes _ _ _ _ _ Hkb.out _ (HdB.out.below HB2.out)).mono ?_
  rintro e w3 ⟨rfl, hb⟩
  have hs3 := hb.size
  have HB3 := Lib.hid (HB2.out.trans (hb.mono HB2.out.size))
  have ZA3 := Lib.hid (blk_later ZA2.out hb)
  have ZB3 := Lib.hid (blk_later ZB2.out hb)
  clear hb ZA2 ZB2
  clear cB0 cB1 cB2 cB3 cBf cBz
  obtain ⟨cA0, cA1, cA2, cA3, cAf, cAz⟩ := blk4 ZA3.out
  obtain ⟨cB0, cB1, cB2, cB3, cBf, cBz⟩ := blk4 ZB3.out
  go_wp2_with fail
  refine (fitTogether_any _ _ _ _ _ _ _ _ DA DB _ (HdA.out.below HB3.out) (HdB.out.below HB3.out)).mono ?_
  rintro e w4 ⟨rfl, hb⟩
  have hs4 := hb.size
  have HB4 := Lib.hid (HB3.out.trans (hb.mono HB3.out.size))
  have ZA4 := Lib.hid (blk_later ZA3.out hb)
  have ZB4 := Lib.hid (blk_later ZB3.out hb)
  clear hb ZA3 ZB3
  clear cA0 cA1 cA2 cA3 cAf cAz cB0 cB1 cB2 cB3 cBf cBz
  rw [Hf.out]
  have HS0 : Hid (S2 w AP (c : Int) (c : Int) (.slice pA DA.length kA) AP (c : Int) (c : Int) (.slice pB DB.length kB) w4) := Lib.hid (S2.of_blk ZA4.out ZB4.out HB4.out)
  clear ZA4 ZB4
  go_wp2_with fail
  obtain ⟨⟨cA0, cA1, cA2, cA3, cB0, cB1, cB2, cB3⟩, hBw⟩ := HS0.out
  go_region_held3 (fun w' => (w'.cell? ⟨w.heap.size, 0, none⟩ = some (.int .i64 AP) ∧ w'.cell? ⟨w.heap.size, 1, none⟩ = some (.int .i64 (c : Int)) ∧ w'.cell? ⟨w.heap.size, 2, none⟩ = some (.int .i64 (c : Int)) ∧ w'.cell? ⟨w.heap.size, 3, none⟩ = some (.slice pA DA.length kA) ∧ w'.cell? ⟨w.heap.size + 1, 0, none⟩ = some (.int .i64 AP) ∧ w'.cell? ⟨w.heap.size + 1, 1, none⟩ = some (.int .i64 (c : Int)) ∧ w'.cell? ⟨w.heap.size + 1, 2, none⟩ = some (.int .i64 (c : Int)) ∧ w'.cell? ⟨w.heap.size + 1, 3, none⟩ = some (.slice pB DB.length kB)) ∧ Below w.heap.size w w')
    (first | exact ⟨⟨cA0, cA1, cA2, cA3, cB0, cB1, cB2, cB3⟩, hBw.drew⟩ | exact keep8 hb1 (by assumption))
    (first
      | (go_at_call_of 38 (Value.slice pA DA.length kA); refine (lines_any AP c c _ DA _ (held_ints HdA.out (by assumption)) (by omega) (by omega) hc0 HlA.out).mono ?_; rintro e w' ⟨u, rfl, ho, hb1⟩; have hrA := ho.rd; clear ho; obtain ⟨qA, gA, rfl, hgA1, hgA2⟩ := hrA.shapeR (rowsOf_length _ _ _))
      | (go_at_call_of 38 (Value.slice pB DB.length kB); refine (lines_any AP c c _ DB _ (held_ints HdB.out (by assumption)) (by omega) (by omega) hc0 HlB.out).mono ?_; rintro e w' ⟨u, rfl, ho, hb1⟩; have hrB := ho.rd; clear ho; obtain ⟨qB, gB, rfl, hgB1, hgB2⟩ := hrB.shapeR (rowsOf_length _ _ _); have hrA := (RdII.below hrA (by first | exact Below.refl _ _ | exact (Below.refl _ _).drew)).below hb1))
  have hS1 : S2 w AP (c : Int) (c : Int) (.slice pA DA.length kA) AP (c : Int) (c : Int) (.slice pB DB.length kB) _ := (by assumption)
  obtain ⟨wk, rfl⟩ : ∃ x : World, x = w' := ⟨_, rfl⟩
  unfold maxLen at hgA2 hgB2
  have HRA := Lib.hid hrA
  have HRB := Lib.hid hrB
  have HS1 := Lib.hid hS1
  clear hrA hrB hS1 hb1 cA0 cA1 cA2 cA3 cB0 cB1 cB2 cB3 hBw
  obtain ⟨⟨cA0, cA1, cA2, cA3, cB0, cB1, cB2, cB3⟩, hBw⟩ := HS1.out
  go_wp2_with fail
  clear cA0 cA1 cA2 cA3 cB0 cB1 cB2 cB3 hBw
  go_loopg [7, 8, 31] c (fun g s5 s8 s31 wr => ∃ (i : Nat) (l : List Int), i ≤ c ∧ g = c - i ∧ s31 = .int .i64 i ∧ Hid (l.length = i) ∧ Hid (S2 w AP (c : Int) (c : Int) (.slice pA DA.length kA) AP (c : Int) (c : Int) (.slice pB DB.length kB) wr) ∧ Hid (OwnI 3 wr (wk.heap.size) wr.heap.size s5 l) ∧ Hid (RpUp AP c (mf c fun t => DA.getD t 0) (mf c fun t => DB.getD t 0) l) ∧ Hid (Below wk.heap.size wk wr))
  case atStart =>
    have hm0 := OwnF.made0 wk 3 (iv [])
    refine ⟨0, [], Nat.zero_le _, rfl, rfl, rfl, HS1.out.later (below_alloc _ _), ?_, fun j hj => absurd hj (Nat.not_lt_zero _), below_alloc _ _⟩
    exact Lib.hid (OwnF.ints (xs := []) (hm0.mono (Nat.le_refl _) (by simp)))
  case round =>
    obtain ⟨i, l, hi, rfl, rfl, hil, hSi, hol, hup, hbk⟩ := hrel
    obtain ⟨wi, rfl⟩ : ∃ x : World, x = wr := ⟨_, rfl⟩
    obtain ⟨p5, k5, rfl, hk5, hk5b⟩ := hol.out.shape
    unfold maxLen at hk5b
    obtain ⟨⟨cA0, cA1, cA2, cA3, cB0, cB1, cB2, cB3⟩, hBw⟩ := hSi.out
    by_cases hic : i < c
    · have hic2 : (i : Int) < (c : Int) := by omega
      have hl5 : l.length ≤ 7 := by have := hil.out; omega
      have Hl1 := Lib.hid (show l.length + 1 ≤ maxLen by unfold maxLen; omega)
      have Hl2 := Lib.hid (show (l.length + 1) * 8 ≤ 140737488355328 by omega)
      go_wp2_with fail
      clear cA0 cA1 cA2 cA3 cB0 cB1 cB2 cB3 hBw
      go_loopg [7, 9, 36] c (fun g s7 s9 s36 wr => ∃ j : Nat, j ≤ c ∧ g = c - j ∧ s36 = .int .i64 j ∧ s7 = .slice p5 l.length k5 ∧ Hid (S2 w AP (c : Int) (c : Int) (.slice pA DA.length kA) AP (c : Int) (c : Int) (.slice pB DB.length kB) wr) ∧ Hid (Below wi.heap.size wi wr) ∧ Hid (∀ k, k < j → ∀ a b, CmIs AP c (mf c fun t => DA.getD t 0) (i + 1) (mf c fun t => DB.getD t 0) (k + 1) a → CmIs AP c (mf c fun t => DA.getD t 0) i (mf c fun t => DB.getD t 0) (k + 1) b → a = b))
      case atStart => exact ⟨0, Nat.zero_le _, rfl, rfl, rfl, hSi.out, Below.refl _ _, fun k hk => absurd hk (Nat.not_lt_zero _)⟩
      case round =>
        obtain ⟨j, hj, rfl, rfl, rfl, hS, hbi, hno⟩ := hrel
        obtain ⟨wj, rfl⟩ : ∃ x : World, x = wr := ⟨_, rfl⟩
        obtain ⟨⟨cA0, cA1, cA2, cA3, cB0, cB1, cB2, cB3⟩, hBw⟩ := hS.out
        by_cases hjc : j < c
        case neg =>
          obtain rfl : j = c := by omega
          exfalso
          obtain ⟨a, ha⟩ := CmIs.ex (i := i + 1) (j := j) (A := mf j fun t => DA.getD t 0) (B := mf j fun t => DB.getD t 0) Hpr.out (fun t x _ hx => mf_rng HgA.out t x hx) (fun t x _ hx => mf_rng HgB.out t x hx)
          obtain ⟨b, hb⟩ := CmIs.ex (i := i) (j := j) (A := mf j fun t => DA.getD t 0) (B := mf j fun t => DB.getD t 0) Hpr.out (fun t x _ hx => mf_rng HgA.out t x hx) (fun t x _ hx => mf_rng HgB.out t x hx)
          have e : j - 1 + 1 = j := by omega
          exact CmIs.last Hpr.out (mf_rng HgA.out) (mf_rng HgB.out) HkB.out ha hb (hno.out (j - 1) (by omega) a b (by rw [e]; exact ha) (by rw [e]; exact hb))
        have HRAj := Lib.hid (HRA.out.below (hbk.out.trans (hbi.out.mono hbk.out.size)))
        have HRBj := Lib.hid (HRB.out.below (hbk.out.trans (hbi.out.mono hbk.out.size)))
        have hj0 : (0 : Int) ≤ (j : Int) + 1 := by omega
        have hj1 : ((j : Int) + 1).toNat = j + 1 := by omega
        have hj2 : j + 1 ≤ gB := by omega
        have hj3 : (j : Int) + 1 ≤ (gB : Int) := by omega
        have hj4 : (j : Int) ≤ (gB : Int) := by omega
        have hj5 : j ≤ gB := by omega
        have hi0 : (0 : Int) ≤ (i : Int) + 1 := by omega
        have hi1 : ((i : Int) + 1).toNat = i + 1 := by omega
        have hi2 : i + 1 ≤ gA := by omega
        have hi3 : (i : Int) + 1 ≤ (gA : Int) := by omega
        have hi4 : (i : Int) ≤ (gA : Int) := by omega
        have hi5 : i ≤ gA := by omega
        have Hw1 := Lib.hid (show IntKind.i64.wrap ((j : Int) + 1) = (j : Int) + 1 from k64 (by omega) (by omega))
        have Hw2 := Lib.hid (show IntKind.i64.wrap ((i : Int) + 1) = (i : Int) + 1 from k64 (by omega) (by omega))
        go_wp2_with fail
        have hw1 := Hw1.out
        have hw2 := Hw2.out
        go_region_held3 (fun w' => (w'.cell? ⟨w.heap.size, 0, none⟩ = some (.int .i64 AP) ∧ w'.cell? ⟨w.heap.size, 1, none⟩ = some (.int .i64 (c : Int)) ∧ w'.cell? ⟨w.heap.size, 2, none⟩ = some (.int .i64 (c : Int)) ∧ w'.cell? ⟨w.heap.size, 3, none⟩ = some (.slice pA DA.length kA) ∧ w'.cell? ⟨w.heap.size + 1, 0, none⟩ = some (.int .i64 AP) ∧ w'.cell? ⟨w.heap.size + 1, 1, none⟩ = some (.int .i64 (c : Int)) ∧ w'.cell? ⟨w.heap.size + 1, 2, none⟩ = some (.int .i64 (c : Int)) ∧ w'.cell? ⟨w.heap.size + 1, 3, none⟩ = some (.slice pB DB.length kB)) ∧ Below w.heap.size w w')
          (first | exact ⟨⟨cA0, cA1, cA2, cA3, cB0, cB1, cB2, cB3⟩, hBw.drew⟩ | exact keep8 hb1 (by assumption))
          (first
            | (go_at_call_of 42 (Value.slice qA i gA); refine (common_b AP c c c (i) (j + 1) _ _ DA DB _ (by rw [← rowsOf_take (R := c) hi]; exact RdII.take (HRAj.out.below (by first | exact hbz | exact hbz.drew | exact Below.refl _ _ | exact (Below.refl _ _).drew)) (by rw [rowsOf_length]; exact hi)) (by rw [← rowsOf_take (R := c) hjc]; exact RdII.take (HRBj.out.below (by first | exact hbz | exact hbz.drew | exact Below.refl _ _ | exact (Below.refl _ _).drew)) (by rw [rowsOf_length]; exact hjc)) HlA.out HlB.out hc hc hc hi hjc HgA.out HgB.out Hpr.out).mono ?_; rintro e w' ⟨mb, rfl, hmb, hmb1, hmb2, hb1⟩; have hbz : Below wj.heap.size wj w' := (by first | exact below_trans hbz hb1 | exact below_trans hbz (below_of_drew hb1) | exact hb1 | exact below_of_drew hb1))
            | (go_at_call 42; refine (common_b AP c c c (i + 1) (j + 1) _ _ DA DB _ (by rw [← rowsOf_take (R := c) hic]; exact RdII.take (HRAj.out.below (by first | exact hbz | exact hbz.drew | exact Below.refl _ _ | exact (Below.refl _ _).drew)) (by rw [rowsOf_length]; exact hic)) (by rw [← rowsOf_take (R := c) hjc]; exact RdII.take (HRBj.out.below (by first | exact hbz | exact hbz.drew | exact Below.refl _ _ | exact (Below.refl _ _).drew)) (by rw [rowsOf_length]; exact hjc)) HlA.out HlB.out hc hc hc hic hjc HgA.out HgB.out Hpr.out).mono ?_; rintro e w' ⟨ma, rfl, hma, hma1, hma2, hb1⟩; have hbz : Below wj.heap.size wj w' := (by first | exact below_trans hbz hb1 | exact below_trans hbz (below_of_drew hb1) | exact hb1 | exact below_of_drew hb1)))
        have hS2 : S2 w AP (c : Int) (c : Int) (.slice pA DA.length kA) AP (c : Int) (c : Int) (.slice pB DB.length kB) _ := (by assumption)
        obtain ⟨wn, rfl⟩ : ∃ x : World, x = w' := ⟨_, rfl⟩
        have HS2 := Lib.hid hS2
        have Hbz := Lib.hid hbz
        have Hma := Lib.hid hma
        have Hmb := Lib.hid hmb
        have hst := CmIs.step Hpr.out (fun x hx => mf_rng HgA.out i x hx) hma hmb
        clear hS2 hbz hb1 hma hmb hw1 hw2 cA0 cA1 cA2 cA3 cB0 cB1 cB2 cB3 hBw
        by_cases hab : ma = mb
        · have hm0 : IntKind.i64.wrap (ma - mb) = 0 := by rw [k64 (by omega) (by omega), hab]; omega
          have heq : (IntKind.i64.wrap (ma - mb) == 1) = false := by rw [hm0]; rfl
          clear hm0
          go_wp2_with fail
          go_roundg (c - (j + 1))
          case measure => omega
          case rel =>
            refine ⟨j + 1, by omega, rfl, by go_num, rfl, HS2.out, hbi.out.trans (Hbz.out.mono hbi.out.size), fun k hk a b ha hb => ?_⟩
            by_cases e : k = j
            · subst e; rw [ha.one (primeOk_range Hpr.out).1 Hma.out, hb.one (primeOk_range Hpr.out).1 Hmb.out]; exact hab
            · exact hno.out k (by omega) a b ha hb
        · have hab1 : ma = mb + 1 := by omega
          have hm1 : IntKind.i64.wrap (ma - mb) = 1 := by rw [k64 (by omega) (by omega), hab1]; omega
          have heq : (IntKind.i64.wrap (ma - mb) == 1) = true := by rw [hm1]; rfl
          clear hm1 hab1
          have hrp : RpAt AP c (mf c fun t => DA.getD t 0) (mf c fun t => DB.getD t 0) i ((j : Nat) : Int) := ⟨j, rfl, hjc, ⟨ma, mb, Hma.out, Hmb.out, hab⟩, hno.out⟩
          have Hup2 := Lib.hid (hup.out.snoc hil.out hrp)
          have Hl3 := Lib.hid (show (l ++ [((j : Nat) : Int)]).length = i + 1 by rw [List.length_append, hil.out]; rfl)
          have Hol := Lib.hid (hol.out.below (hbi.out.trans (Hbz.out.mono hbi.out.size)))
          have hsk : wk.heap.size ≤ wi.heap.size := hbk.out.size
          have hsi : wi.heap.size ≤ wn.heap.size := Nat.le_trans hbi.out.size Hbz.out.size
          have Hb2 := Lib.hid (Below.trans hbk.out ((Below.trans hbi.out (Hbz.out.mono hbi.out.size)).mono hsk))
          clear hrp
          go_wp2_with (at_builtin; go_must (refine wpList_append_F rfl (.tmp 62) (.tmp 64) 22 rfl 3 (.int .i64 0) 8 Try.underlying22 info_int rfl wk.heap.size wi.heap.size _ l.length _ rfl (Hol.out.fn.below (below_alloc _ _)) (by simp; omega) (by simp; omega) _ _ _ rfl (rd_one _ _ _ rfl) (fun j _ => rfl) Hl1.out Hl2.out ?_; intro v' w' ho' hg'))
          have hol2 := OwnI.snoc1 ho'
          have hb3 : Below wk.heap.size wk w' := Hb2.out.trans (((below_alloc wn _).mono (by omega)).trans (grownBy_below hg' (OwnF.blocks (Hol.out.fn)) (Nat.le_refl _) (by simp; omega)))
          have hS3 := HS2.out.laterB (((below_alloc wn _).mono (by omega)).trans (grownBy_below hg' (OwnF.blocks (Hol.out.fn)) (Nat.le_refl _) (by simp; omega))) (S2.size HS1.out)
          go_roundg (c - (i + 1))
          case measure => omega
          case rel => exact ⟨i + 1, l ++ [((j : Nat) : Int)], hic, rfl, by go_num, Hl3.out, hS3, hol2, Hup2.out, hb3⟩
    · obtain rfl : i = c := by omega
      go_wp2_with fail
      go_ret
      have hsz : wk.heap.size ≤ wi.heap.size := hbk.out.size
      have hs0 := S2.size HS1.out
      exact ⟨l, ⟨_, rfl, hol.out.mono (by omega) (Nat.le_refl _), hBw⟩, hil.out, hup.out⟩

theorem specRel_ex (AP AR AC BP BR BC : Int) (dA dB : Value) (DA DB : List Int) (w : World) (hdA : Ints w dA DA) (hdB : Ints w dB DB) :
    Calls Try.prog 18 #[.agg #[.int .i64 AP, .int .i64 AR, .int .i64 AC, dA], .agg #[.int .i64 BP, .int .i64 BR, .int .i64 BC, dB]] w fun e w' => ∃ l, RpIs AP AR AC DA BP BR BC DB l ∧ RetI w l e w' := by
  by_cases h : FfIs AP AR AC DA BP BR BC DB
  · exact (specRel_yes AP AR AC BP BR BC dA dB DA DB w hdA hdB h).mono fun e w' ⟨l, r1, r2⟩ => ⟨l, .inl ⟨h, r2⟩, r1⟩
  rcases Classical.em (IsFl AP AR AC DA) with ha | ha
  · rcases Classical.em (IsFl BP BR BC DB) with hb | hb
    ·
      rcases Classical.em (AP = BP) with h1 | h1
      · exact (specRel_no4 AP AR AC BP BR BC dA dB DA DB w hdA hdB ha hb h1 fun h2 => h ⟨ha, hb, h1, h2⟩).mono fun e w' r => ⟨_, .inr ⟨h, rfl⟩, r⟩
      · exact (specRel_no3 AP AR AC BP BR BC dA dB DA DB w hdA hdB ha hb h1).mono fun e w' r => ⟨_, .inr ⟨h, rfl⟩, r⟩
    · exact (specRel_no2 AP AR AC BP BR BC dA dB DA DB w hdA hdB ha hb).mono fun e w' r => ⟨_, .inr ⟨h, rfl⟩, r⟩
  · exact (specRel_no1 AP AR AC BP BR BC dA dB DA DB w hdA hdB ha).mono fun e w' r => ⟨_, .inr ⟨h, rfl⟩, r⟩
theorem specRel_any (AP AR AC BP BR BC : Int) (dA dB : Value) (DA DB : List Int) (w : World) (hdA : Ints w dA DA) (hdB : Ints w dB DB) :
    Calls Try.prog 18 #[.agg #[.int .i64 AP, .int .i64 AR, .int .i64 AC, dA], .agg #[.int .i64 BP, .int .i64 BR, .int .i64 BC, dB]] w (RetI w (Classical.epsilon (LsQ (RpIs AP AR AC DA BP BR BC DB)))) :=
  (specRel_ex AP AR AC BP BR BC dA dB DA DB w hdA hdB).mono fun e w' ⟨l, h1, h2⟩ => LsQ.eps RpIs.one h1 ▸ h2

theorem implRel_ex (AP AR AC BP BR BC : Int) (dA dB : Value) (DA DB : List Int) (w : World) (hdA : Ints w dA DA) (hdB : Ints w dB DB) :
    Calls Try.prog 19 #[.agg #[.int .i64 AP, .int .i64 AR, .int .i64 AC, dA], .agg #[.int .i64 BP, .int .i64 BR, .int .i64 BC, dB]] w fun e w' => ∃ l, RpIs AP AR AC DA BP BR BC DB l ∧ RetI w l e w' := by
  by_cases h : FfIs AP AR AC DA BP BR BC DB
  · exact (implRel_yes AP AR AC BP BR BC dA dB DA DB w hdA hdB h).mono fun e w' ⟨l, r1, r2⟩ => ⟨l, .inl ⟨h, r2⟩, r1⟩
  rcases Classical.em (IsFl AP AR AC DA) with ha | ha
  · rcases Classical.em (IsFl BP BR BC DB) with hb | hb
    ·
      refine (implRel_no3 AP AR AC BP BR BC dA dB DA DB w hdA hdB ha hb ?_).mono fun e w' r => ⟨_, .inr ⟨h, rfl⟩, r⟩
      cases hf : fitOk AP AC BP BC with
      | false => rfl
      | true =>
        simp [fitOk] at hf
        exact absurd ⟨ha, hb, hf.1, hf.2⟩ h
    · exact (implRel_no2 AP AR AC BP BR BC dA dB DA DB w hdA hdB ha hb).mono fun e w' r => ⟨_, .inr ⟨h, rfl⟩, r⟩
  · exact (implRel_no1 AP AR AC BP BR BC dA dB DA DB w hdA hdB ha).mono fun e w' r => ⟨_, .inr ⟨h, rfl⟩, r⟩
theorem implRel_any (AP AR AC BP BR BC : Int) (dA dB : Value) (DA DB : List Int) (w : World) (hdA : Ints w dA DA) (hdB : Ints w dB DB) :
    Calls Try.prog 19 #[.agg #[.int .i64 AP, .int .i64 AR, .int .i64 AC, dA], .agg #[.int .i64 BP, .int .i64 BR, .int .i64 BC, dB]] w (RetI w (Classical.epsilon (LsQ (RpIs AP AR AC DA BP BR BC DB)))) :=
  (implRel_ex AP AR AC BP BR BC dA dB DA DB w hdA hdB).mono fun e w' ⟨l, h1, h2⟩ => LsQ.eps RpIs.one h1 ▸ h2

end Go.Proofs.Ytjiaenclaalldaa
