/-
  KeepsRanks, on both sides.
-/
import Derived.Test.YtjiaenclaalldaaCorner2
import Derived.Test.YtjiaenclaalldaaRankAt
namespace Go.Proofs.Ytjiaenclaalldaa
set_option linter.all false
open Go.RowKit

def sqOk (P R C : Int) (D xs : List Int) : Bool := mxOk P R C D && permOk xs && decide (R = xs.length) && decide (C = xs.length)
theorem sqOk_no1 {P R C : Int} {D xs : List Int} (h : mxOk P R C D = false) : sqOk P R C D xs = false := by simp [sqOk, h]
theorem sqOk_no2 {P R C : Int} {D xs : List Int} (h : permOk xs = false) : sqOk P R C D xs = false := by simp [sqOk, h]
theorem sqOk_no3 {P R C : Int} {D xs : List Int} (h : ¬ R = xs.length) : sqOk P R C D xs = false := by simp [sqOk, h]
theorem sqOk_no4 {P R C : Int} {D xs : List Int} (h : ¬ C = xs.length) : sqOk P R C D xs = false := by simp [sqOk, h]
theorem sqOk_yes {P R C : Int} {D xs : List Int} (h1 : mxOk P R C D = true) (h2 : permOk xs = true) (h3 : R = xs.length) (h4 : C = xs.length) : sqOk P R C D xs = true := by
  unfold sqOk
  rw [h1, h2, decide_eq_true h3, decide_eq_true h4]; rfl

theorem sqOk_facts {P R C : Int} {D xs : List Int} (h : sqOk P R C D xs = true) : mxOk P R C D = true ∧ permOk xs = true ∧ R = xs.length ∧ C = xs.length := by
  unfold sqOk at h
  simp only [Bool.and_eq_true, decide_eq_true_eq] at h
  exact ⟨h.1.1.1, h.1.1.2, h.1.2, h.2⟩
/-- the corners of the first i rows have no greater rank than the permutation's -/
def KpUpto (P : Int) (n : Nat) (D xs : List Int) (i : Nat) : Prop := ∀ a b : Nat, a < i → b ≤ n → ∀ m, CkIs P n n D a b m → m ≤ (rkL xs b a : Nat)
/-- what KeepsRanks returns -/
def KpIs (P R C : Int) (D xs : List Int) (b : Bool) : Prop := b = true ↔ sqOk P R C D xs = true ∧ KpUpto P xs.length D xs (xs.length + 1)
theorem KpIs.one {P R C : Int} {D xs : List Int} {b b' : Bool} (h : KpIs P R C D xs b) (h' : KpIs P R C D xs b') : b = b' := by
  unfold KpIs at h h'
  have e : b = true ↔ b' = true := h.trans h'.symm
  cases b <;> cases b' <;> simp_all
theorem KpIs.eps {P R C : Int} {D xs : List Int} {b : Bool} (h : KpIs P R C D xs b) : b = Classical.epsilon (KpIs P R C D xs) := h.one (Classical.epsilon_spec ⟨b, h⟩)
theorem KpIs.no {P R C : Int} {D xs : List Int} (h : sqOk P R C D xs = false) : KpIs P R C D xs false := by
  unfold KpIs; simp [h]
theorem KpIs.out {P R C : Int} {D xs : List Int} {n i j : Nat} {m : Int} (h : sqOk P R C D xs = true) (hn : n = xs.length) (hi : i ≤ n) (hj : j ≤ n) (hm : CkIs P n n D i j m) (hlt : ((rkL xs j i : Nat) : Int) < m) : KpIs P R C D xs false := by
  subst hn
  refine ⟨fun e => absurd e (by decide), fun e => ?_⟩
  have := e.2 i j (by omega) hj m hm
  omega
theorem KpIs.yes {P R C : Int} {D xs : List Int} {n : Nat} (h : sqOk P R C D xs = true) (hn : n = xs.length) (hk : ∀ a b : Nat, a ≤ n → b ≤ n → ∀ m, CkIs P n n D a b m → m ≤ (rkL xs b a : Nat)) : KpIs P R C D xs true := by
  subst hn
  exact ⟨fun _ => ⟨h, fun a b ha hb => hk a b (by omega) hb⟩, fun _ => rfl⟩

set_option maxRecDepth 100000 in
set_option maxHeartbeats 2000000 in
theorem specSquare_any (P R C : Int) (d v : Value) (D xs : List Int) (w : World) (hd : Ints w d D) (hw : Ints w v xs) :
    Calls Try.prog 25 #[.agg #[.int .i64 P, .int .i64 R, .int .i64 C, d], v] w fun e w' => e = .returned (.bool (sqOk P R C D xs)) ∧ Below w.heap.size w w' := by
  have Hd := Lib.hid hd
  have Hw := Lib.hid hw
  obtain ⟨p, cap, rfl, ⟨_, mx⟩, _⟩ := hd
  obtain ⟨p', cap', rfl, ⟨_, mx'⟩, _⟩ := hw
  unfold maxLen at mx mx'
  cases hm : mxOk P R C D with
  | false =>
    rw [sqOk_no1 hm]
    have Hm := Lib.hid hm
    clear hm
    have HB := Lib.hid (below_alloc w (.cells #[.int .i64 P, .int .i64 R, .int .i64 C, .slice p D.length cap] 27))
    have Z := Lib.hid (heap_alloc_top w (.cells #[.int .i64 P, .int .i64 R, .int .i64 C, .slice p D.length cap] 27))
    go_enter Try.func25, Try.ntmps25
    go_wp2_with fail
    refine (specMatrixOk_b _ _ _ _ _ _ Hm.out _ (Hd.out.below HB.out)).mono ?_
    rintro e w1 ⟨rfl, hb⟩
    have hsz := HB.out.size
    have HB := Lib.hid (HB.out.trans (hb.mono hsz))
    have Z := Lib.hid (blk_later Z.out hb)
    clear hb hsz
    obtain ⟨c0, c1, c2, c3, cf, cz⟩ := blk4 Z.out
    go_wp2_with fail
    go_ret
    exact ⟨rfl, HB.out⟩
  | true =>
  cases hp : permOk xs with
  | false =>
    rw [sqOk_no2 hp]
    have Hm := Lib.hid hm
    have Hp := Lib.hid hp
    clear hm hp
    have HB := Lib.hid (below_alloc w (.cells #[.int .i64 P, .int .i64 R, .int .i64 C, .slice p D.length cap] 27))
    have Z := Lib.hid (heap_alloc_top w (.cells #[.int .i64 P, .int .i64 R, .int .i64 C, .slice p D.length cap] 27))
    go_enter Try.func25, Try.ntmps25
    go_wp2_with fail
    refine (specMatrixOk_b _ _ _ _ _ _ Hm.out _ (Hd.out.below HB.out)).mono ?_
    rintro e w1 ⟨rfl, hb⟩
    have hsz := HB.out.size
    have HB := Lib.hid (HB.out.trans (hb.mono hsz))
    have Z := Lib.hid (blk_later Z.out hb)
    clear hb hsz
    obtain ⟨c0, c1, c2, c3, cf, cz⟩ := blk4 Z.out
    go_wp2_with fail
    try clear c0 c1 c2 c3 cf cz
    refine (specIsPerm_b _ xs _ Hp.out _ (Hw.out.below HB.out)).mono ?_
    rintro e w2 ⟨rfl, hb⟩
    have hb := hb.below w1.heap.size
    have hsz := HB.out.size
    have HB := Lib.hid (HB.out.trans (hb.mono hsz))
    have Z := Lib.hid (blk_later Z.out hb)
    clear hb hsz
    obtain ⟨c0, c1, c2, c3, cf, cz⟩ := blk4 Z.out
    go_wp2_with fail
    go_ret
    exact ⟨rfl, HB.out⟩
  | true =>
  have Hm := Lib.hid hm
  have Hp := Lib.hid hp
  clear hm hp
  by_cases hR : R = xs.length
  case neg =>
    rw [sqOk_no3 hR]
    have hR2 : (R == (xs.length : Int)) = false := by simpa using hR
    clear hR
    have HB := Lib.hid (below_alloc w (.cells #[.int .i64 P, .int .i64 R, .int .i64 C, .slice p D.length cap] 27))
    have Z := Lib.hid (heap_alloc_top w (.cells #[.int .i64 P, .int .i64 R, .int .i64 C, .slice p D.length cap] 27))
    go_enter Try.func25, Try.ntmps25
    go_wp2_with fail
    refine (specMatrixOk_b _ _ _ _ _ _ Hm.out _ (Hd.out.below HB.out)).mono ?_
    rintro e w1 ⟨rfl, hb⟩
    have hsz := HB.out.size
    have HB := Lib.hid (HB.out.trans (hb.mono hsz))
    have Z := Lib.hid (blk_later Z.out hb)
    clear hb hsz
    obtain ⟨c0, c1, c2, c3, cf, cz⟩ := blk4 Z.out
    go_wp2_with fail
    try clear c0 c1 c2 c3 cf cz
    refine (specIsPerm_b _ xs _ Hp.out _ (Hw.out.below HB.out)).mono ?_
    rintro e w2 ⟨rfl, hb⟩
    have hb := hb.below w1.heap.size
    have hsz := HB.out.size
    have HB := Lib.hid (HB.out.trans (hb.mono hsz))
    have Z := Lib.hid (blk_later Z.out hb)
    clear hb hsz
    obtain ⟨c0, c1, c2, c3, cf, cz⟩ := blk4 Z.out
    go_wp2_with fail
    try clear c0 c1 c2 c3 cf cz
    go_ret
    exact ⟨rfl, HB.out⟩
  by_cases hC : C = xs.length
  case neg =>
    rw [sqOk_no4 hC]
    have hC2 : (C == (xs.length : Int)) = false := by simpa using hC
    clear hC
    subst hR
    have HB := Lib.hid (below_alloc w (.cells #[.int .i64 P, .int .i64 (xs.length : Int), .int .i64 C, .slice p D.length cap] 27))
    have Z := Lib.hid (heap_alloc_top w (.cells #[.int .i64 P, .int .i64 (xs.length : Int), .int .i64 C, .slice p D.length cap] 27))
    go_enter Try.func25, Try.ntmps25
    go_wp2_with fail
    refine (specMatrixOk_b _ _ _ _ _ _ Hm.out _ (Hd.out.below HB.out)).mono ?_
    rintro e w1 ⟨rfl, hb⟩
    have hsz := HB.out.size
    have HB := Lib.hid (HB.out.trans (hb.mono hsz))
    have Z := Lib.hid (blk_later Z.out hb)
    clear hb hsz
    obtain ⟨c0, c1, c2, c3, cf, cz⟩ := blk4 Z.out
    go_wp2_with fail
    try clear c0 c1 c2 c3 cf cz
    refine (specIsPerm_b _ xs _ Hp.out _ (Hw.out.below HB.out)).mono ?_
    rintro e w2 ⟨rfl, hb⟩
    have hb := hb.below w1.heap.size
    have hsz := HB.out.size
    have HB := Lib.hid (HB.out.trans (hb.mono hsz))
    have Z := Lib.hid (blk_later Z.out hb)
    clear hb hsz
    obtain ⟨c0, c1, c2, c3, cf, cz⟩ := blk4 Z.out
    go_wp2_with fail
    try clear c0 c1 c2 c3 cf cz
    go_ret
    exact ⟨rfl, HB.out⟩
  rw [sqOk_yes Hm.out Hp.out hR hC]
  subst hR hC
  have HB := Lib.hid (below_alloc w (.cells #[.int .i64 P, .int .i64 (xs.length : Int), .int .i64 (xs.length : Int), .slice p D.length cap] 27))
  have Z := Lib.hid (heap_alloc_top w (.cells #[.int .i64 P, .int .i64 (xs.length : Int), .int .i64 (xs.length : Int), .slice p D.length cap] 27))
  go_enter Try.func25, Try.ntmps25
  go_wp2_with fail
  refine (specMatrixOk_b _ _ _ _ _ _ Hm.out _ (Hd.out.below HB.out)).mono ?_
  rintro e w1 ⟨rfl, hb⟩
  have hsz := HB.out.size
  have HB := Lib.hid (HB.out.trans (hb.mono hsz))
  have Z := Lib.hid (blk_later Z.out hb)
  clear hb hsz
  obtain ⟨c0, c1, c2, c3, cf, cz⟩ := blk4 Z.out
  go_wp2_with fail
  try clear c0 c1 c2 c3 cf cz
  refine (specIsPerm_b _ xs _ Hp.out _ (Hw.out.below HB.out)).mono ?_
  rintro e w2 ⟨rfl, hb⟩
  have hb := hb.below w1.heap.size
  have hsz := HB.out.size
  have HB := Lib.hid (HB.out.trans (hb.mono hsz))
  have Z := Lib.hid (blk_later Z.out hb)
  clear hb hsz
  obtain ⟨c0, c1, c2, c3, cf, cz⟩ := blk4 Z.out
  go_wp2_with fail
  try clear c0 c1 c2 c3 cf cz
  go_ret
  exact ⟨rfl, HB.out⟩

set_option maxRecDepth 100000 in
set_option maxHeartbeats 2000000 in
theorem implSquare_any (P R C : Int) (d v : Value) (D xs : List Int) (w : World) (hd : Ints w d D) (hw : Ints w v xs) :
    Calls Try.prog 28 #[.agg #[.int .i64 P, .int .i64 R, .int .i64 C, d], v] w fun e w' => e = .returned (.bool (sqOk P R C D xs)) ∧ Below w.heap.size w w' := by
  have Hd := Lib.hid hd
  have Hw := Lib.hid hw
  obtain ⟨p, cap, rfl, ⟨_, mx⟩, _⟩ := hd
  obtain ⟨p', cap', rfl, ⟨_, mx'⟩, _⟩ := hw
  unfold maxLen at mx mx'
  cases hp : permOk xs with
  | false =>
    rw [sqOk_no2 hp]
    have Hp := Lib.hid hp
    clear hp
    have HB := Lib.hid (below_alloc w (.cells #[.int .i64 P, .int .i64 R, .int .i64 C, .slice p D.length cap] 27))
    have Z := Lib.hid (heap_alloc_top w (.cells #[.int .i64 P, .int .i64 R, .int .i64 C, .slice p D.length cap] 27))
    go_enter Try.func28, Try.ntmps28
    go_wp2_with fail
    refine (implIsPerm_b _ xs _ Hp.out _ (Hw.out.below HB.out)).mono ?_
    rintro e w1 ⟨rfl, hb⟩
    have hsz := HB.out.size
    have HB := Lib.hid (HB.out.trans (hb.mono hsz))
    have Z := Lib.hid (blk_later Z.out hb)
    clear hb hsz
    obtain ⟨c0, c1, c2, c3, cf, cz⟩ := blk4 Z.out
    go_wp2_with fail
    go_ret
    exact ⟨rfl, HB.out⟩
  | true =>
  cases hm : mxOk P R C D with
  | false =>
    rw [sqOk_no1 hm]
    have Hp := Lib.hid hp
    have Hm := Lib.hid hm
    clear hp hm
    have HB := Lib.hid (below_alloc w (.cells #[.int .i64 P, .int .i64 R, .int .i64 C, .slice p D.length cap] 27))
    have Z := Lib.hid (heap_alloc_top w (.cells #[.int .i64 P, .int .i64 R, .int .i64 C, .slice p D.length cap] 27))
    go_enter Try.func28, Try.ntmps28
    go_wp2_with fail
    refine (implIsPerm_b _ xs _ Hp.out _ (Hw.out.below HB.out)).mono ?_
    rintro e w1 ⟨rfl, hb⟩
    have hsz := HB.out.size
    have HB := Lib.hid (HB.out.trans (hb.mono hsz))
    have Z := Lib.hid (blk_later Z.out hb)
    clear hb hsz
    obtain ⟨c0, c1, c2, c3, cf, cz⟩ := blk4 Z.out
    go_wp2_with fail
    try clear c0 c1 c2 c3 cf cz
    refine (implMatrixOk_b _ _ _ _ _ _ Hm.out _ (Hd.out.below HB.out)).mono ?_
    rintro e w2 ⟨rfl, hb⟩
    have hsz := HB.out.size
    have HB := Lib.hid (HB.out.trans (hb.mono hsz))
    have Z := Lib.hid (blk_later Z.out hb)
    clear hb hsz
    obtain ⟨c0, c1, c2, c3, cf, cz⟩ := blk4 Z.out
    go_wp2_with fail
    go_ret
    exact ⟨rfl, HB.out⟩
  | true =>
  have Hm := Lib.hid hm
  have Hp := Lib.hid hp
  clear hm hp
  by_cases hR : R = xs.length
  case neg =>
    rw [sqOk_no3 hR]
    have hR2 : (R == (xs.length : Int)) = false := by simpa using hR
    clear hR
    have HB := Lib.hid (below_alloc w (.cells #[.int .i64 P, .int .i64 R, .int .i64 C, .slice p D.length cap] 27))
    have Z := Lib.hid (heap_alloc_top w (.cells #[.int .i64 P, .int .i64 R, .int .i64 C, .slice p D.length cap] 27))
    go_enter Try.func28, Try.ntmps28
    go_wp2_with fail
    refine (implIsPerm_b _ xs _ Hp.out _ (Hw.out.below HB.out)).mono ?_
    rintro e w1 ⟨rfl, hb⟩
    have hsz := HB.out.size
    have HB := Lib.hid (HB.out.trans (hb.mono hsz))
    have Z := Lib.hid (blk_later Z.out hb)
    clear hb hsz
    obtain ⟨c0, c1, c2, c3, cf, cz⟩ := blk4 Z.out
    go_wp2_with fail
    try clear c0 c1 c2 c3 cf cz
    refine (implMatrixOk_b _ _ _ _ _ _ Hm.out _ (Hd.out.below HB.out)).mono ?_
    rintro e w2 ⟨rfl, hb⟩
    have hsz := HB.out.size
    have HB := Lib.hid (HB.out.trans (hb.mono hsz))
    have Z := Lib.hid (blk_later Z.out hb)
    clear hb hsz
    obtain ⟨c0, c1, c2, c3, cf, cz⟩ := blk4 Z.out
    go_wp2_with fail
    try clear c0 c1 c2 c3 cf cz
    go_ret
    exact ⟨rfl, HB.out⟩
  by_cases hC : C = xs.length
  case neg =>
    rw [sqOk_no4 hC]
    have hC2 : (C == (xs.length : Int)) = false := by simpa using hC
    clear hC
    subst hR
    have HB := Lib.hid (below_alloc w (.cells #[.int .i64 P, .int .i64 (xs.length : Int), .int .i64 C, .slice p D.length cap] 27))
    have Z := Lib.hid (heap_alloc_top w (.cells #[.int .i64 P, .int .i64 (xs.length : Int), .int .i64 C, .slice p D.length cap] 27))
    go_enter Try.func28, Try.ntmps28
    go_wp2_with fail
    refine (implIsPerm_b _ xs _ Hp.out _ (Hw.out.below HB.out)).mono ?_
    rintro e w1 ⟨rfl, hb⟩
    have hsz := HB.out.size
    have HB := Lib.hid (HB.out.trans (hb.mono hsz))
    have Z := Lib.hid (blk_later Z.out hb)
    clear hb hsz
    obtain ⟨c0, c1, c2, c3, cf, cz⟩ := blk4 Z.out
    go_wp2_with fail
    try clear c0 c1 c2 c3 cf cz
    refine (implMatrixOk_b _ _ _ _ _ _ Hm.out _ (Hd.out.below HB.out)).mono ?_
    rintro e w2 ⟨rfl, hb⟩
    have hsz := HB.out.size
    have HB := Lib.hid (HB.out.trans (hb.mono hsz))
    have Z := Lib.hid (blk_later Z.out hb)
    clear hb hsz
    obtain ⟨c0, c1, c2, c3, cf, cz⟩ := blk4 Z.out
    go_wp2_with fail
    try clear c0 c1 c2 c3 cf cz
    go_ret
    exact ⟨rfl, HB.out⟩
  rw [sqOk_yes Hm.out Hp.out hR hC]
  subst hR hC
  have HB := Lib.hid (below_alloc w (.cells #[.int .i64 P, .int .i64 (xs.length : Int), .int .i64 (xs.length : Int), .slice p D.length cap] 27))
  have Z := Lib.hid (heap_alloc_top w (.cells #[.int .i64 P, .int .i64 (xs.length : Int), .int .i64 (xs.length : Int), .slice p D.length cap] 27))
  go_enter Try.func28, Try.ntmps28
  go_wp2_with fail
  refine (implIsPerm_b _ xs _ Hp.out _ (Hw.out.below HB.out)).mono ?_
  rintro e w1 ⟨rfl, hb⟩
  have hsz := HB.out.size
  have HB := Lib.hid (HB.out.trans (hb.mono hsz))
  have Z := Lib.hid (blk_later Z.out hb)
  clear hb hsz
  obtain ⟨c0, c1, c2, c3, cf, cz⟩ := blk4 Z.out
  go_wp2_with fail
  try clear c0 c1 c2 c3 cf cz
  refine (implMatrixOk_b _ _ _ _ _ _ Hm.out _ (Hd.out.below HB.out)).mono ?_
  rintro e w2 ⟨rfl, hb⟩
  have hsz := HB.out.size
  have HB := Lib.hid (HB.out.trans (hb.mono hsz))
  have Z := Lib.hid (blk_later Z.out hb)
  clear hb hsz
  obtain ⟨c0, c1, c2, c3, cf, cz⟩ := blk4 Z.out
  go_wp2_with fail
  try clear c0 c1 c2 c3 cf cz
  go_ret
  exact ⟨rfl, HB.out⟩

set_option maxRecDepth 100000 in
set_option maxHeartbeats 4000000 in
theorem specKeepsRanks_ex (P R C : Int) (d v : Value) (D xs : List Int) (w : World) (hd : Ints w d D) (hw : Ints w v xs) :
    Calls Try.prog 8 #[.agg #[.int .i64 P, .int .i64 R, .int .i64 C, d], v] w fun e w' => ∃ b, e = .returned (.bool b) ∧ KpIs P R C D xs b ∧ Below w.heap.size w w' := by
  have Hd := Lib.hid hd
  have Hw := Lib.hid hw
  obtain ⟨p, cap, rfl, ⟨_, mx⟩, _⟩ := hd
  obtain ⟨p', cap', rfl, ⟨_, mx'⟩, _⟩ := hw
  unfold maxLen at mx mx'
  have HB := Lib.hid (below_alloc w (.cells #[.int .i64 P, .int .i64 R, .int .i64 C, .slice p D.length cap] 27))
  have Z := Lib.hid (heap_alloc_top w (.cells #[.int .i64 P, .int .i64 R, .int .i64 C, .slice p D.length cap] 27))
  cases hs : sqOk P R C D xs with
  | false =>
    have Hs := Lib.hid hs
    clear hs
    go_enter Try.func8, Try.ntmps8
    go_wp2_with fail
    refine (specSquare_any _ _ _ _ _ D xs _ (Hd.out.below HB.out) (Hw.out.below HB.out)).mono ?_
    rintro e w1 ⟨rfl, hb⟩
    rw [Hs.out]
    have hsz := HB.out.size
    have HB := Lib.hid (HB.out.trans (hb.mono hsz))
    clear hb hsz
    go_wp2_with fail
    go_ret
    exact ⟨_, rfl, KpIs.no Hs.out, HB.out⟩
  | true =>
    obtain ⟨hm, hp, hR, hC⟩ := sqOk_facts hs
    obtain ⟨n, hn⟩ : ∃ n, n = xs.length := ⟨_, rfl⟩
    rw [← hn] at hR hC
    subst hR hC
    have Hs := Lib.hid hs
    obtain ⟨r, c, e1, e2, hr, hc0, hc, hlD, hD, hP2, hP7, hpr⟩ := mxOk_facts hm
    have e1 := Int.ofNat.inj e1
    have e2 := Int.ofNat.inj e2
    subst e1
    subst e2
    have Hm := Lib.hid hm
    have Hp := Lib.hid hp
    have Hrg := Lib.hid (fun t => getD_range hD (by omega) t)
    have HlD := Lib.hid hlD
    have Hpr := Lib.hid hpr
    have Hn := Lib.hid hn
    clear hs hm hp hlD hD hpr hn
    have hn7 : xs.length ≤ 7 := by have := Hn.out; omega
    obtain ⟨q, hq⟩ : ∃ q, q = Value.slice p' xs.length cap' := ⟨_, rfl⟩
    have Hq := Lib.hid hq
    clear hq
    go_enter Try.func8, Try.ntmps8
    go_wp2_with fail
    refine (specSquare_any _ _ _ _ _ D xs _ (Hd.out.below HB.out) (Hw.out.below HB.out)).mono ?_
    rintro e w1 ⟨rfl, hb⟩
    rw [Hs.out]
    have hsz := HB.out.size
    have HB1 := Lib.hid (HB.out.trans (hb.mono hsz))
    have Z1 := Lib.hid (blk_later Z.out hb)
    clear hb hsz
    go_wp2_with fail
    go_loopg [5] (n + 1) (fun g s5 wr => ∃ i : Nat, i ≤ n + 1 ∧ g = n + 1 - i ∧ s5 = .int .i64 i ∧ Hid (Below w.heap.size w wr) ∧ Hid (wr.heap[w.heap.size]? = some (.cells #[.int .i64 P, .int .i64 (n : Int), .int .i64 (n : Int), .slice p D.length cap] 27 (0, 0))) ∧ Hid (KpUpto P n D xs i))
    case atStart => exact ⟨0, Nat.zero_le _, rfl, rfl, HB1.out, Z1.out, fun a b ha => absurd ha (Nat.not_lt_zero _)⟩
    case round =>
      obtain ⟨i, hi, rfl, rfl, hbi, hzi, hki⟩ := hrel
      obtain ⟨wi, rfl⟩ : ∃ x : World, x = wr := ⟨_, rfl⟩
      by_cases hin : i ≤ n
      · have hin2 : (i : Int) ≤ (n : Int) := by omega
        have hin3 : (i : Int) ≤ (xs.length : Int) := by have := Hn.out; omega
        have hin4 : i < xs.length + 1 := by have := Hn.out; omega
        have hin6 : decide ((i : Int) < (xs.length : Int) + 1) = true := decide_eq_true (by have := Hn.out; omega)
        go_wp2_with fail
        go_loopg [6] (n + 1) (fun g s6 wr => ∃ j : Nat, j ≤ n + 1 ∧ g = n + 1 - j ∧ s6 = .int .i64 j ∧ Hid (Below w.heap.size w wr) ∧ Hid (wr.heap[w.heap.size]? = some (.cells #[.int .i64 P, .int .i64 (n : Int), .int .i64 (n : Int), .slice p D.length cap] 27 (0, 0))) ∧ Hid (∀ b : Nat, b < j → ∀ m, CkIs P n n D i b m → m ≤ (rkL xs b i : Nat)))
        case atStart => exact ⟨0, Nat.zero_le _, rfl, rfl, hbi.out, hzi.out, fun b hb => absurd hb (Nat.not_lt_zero _)⟩
        case round =>
          obtain ⟨j, hj, rfl, rfl, hbj, hzj, hkj⟩ := hrel
          obtain ⟨wj, rfl⟩ : ∃ x : World, x = wr := ⟨_, rfl⟩
          by_cases hjn : j ≤ n
          · have hjn2 : (j : Int) ≤ (n : Int) := by omega
            have hjn3 : (j : Int) ≤ (xs.length : Int) := by have := Hn.out; omega
            have hjn4 : j < xs.length + 1 := by have := Hn.out; omega
            obtain ⟨c0, c1, c2, c3, cf, cz⟩ := blk4 hzj.out
            go_wp2_with fail
            refine (l7Corner_any P n n i j _ D _ (Hd.out.below hbj.out) HlD.out Hrg.out Hpr.out (by omega) (by omega) (by omega) (by omega) (by omega)).mono ?_
            rintro e w2 ⟨m, rfl, hm, hmi, hb⟩
            have hck := CkIs.yes Hm.out (by omega : i ≤ n) (by omega : j ≤ n) hm
            have Hck := Lib.hid hck
            have hsz := hbj.out.size
            have HB2 := Lib.hid (hbj.out.trans (hb.mono hsz))
            have Z2 := Lib.hid (blk_later hzj.out hb)
            clear hck hb hsz c0 c1 c2 c3 cf cz
            go_wp2_with fail
            refine (l1Rank_any _ xs i j _ (Hw.out.below HB2.out) (by have := Hn.out; omega) (by omega)).mono ?_
            rintro e w3 ⟨rfl, hq3⟩
            have hb3 := hq3.below w2.heap.size
            have hsz := HB2.out.size
            have HB3 := Lib.hid (HB2.out.trans (hb3.mono hsz))
            have Z3 := Lib.hid (blk_later Z2.out hb3)
            clear hb3 hsz
            obtain ⟨k, hk⟩ : ∃ k, k = rkL xs j i := ⟨_, rfl⟩
            rw [← hk]
            have Hk := Lib.hid hk
            clear hk
            by_cases hgt : (k : Int) < (m : Int)
            · go_wp2_with fail
              go_ret
              exact ⟨_, rfl, KpIs.out Hs.out Hn.out (by omega : i ≤ n) (by omega : j ≤ n) Hck.out (by rw [← Hk.out]; exact hgt), HB3.out⟩
            · have hgt2 : decide ((k : Int) < (m : Int)) = false := decide_eq_false hgt
              have hgt3 : decide (k < m) = false := decide_eq_false (by omega)
              go_wp2_with fail
              go_roundg (n + 1 - (j + 1))
              case measure => omega
              case rel =>
                refine ⟨j + 1, by omega, rfl, by go_num, HB3.out, Z3.out, fun b hb m' hm' => ?_⟩
                by_cases e : b = j
                · subst e
                  rw [hm'.one Hck.out, ← Hk.out]; omega
                · exact hkj.out b (by omega) m' hm'
          · have hjn2 : (n : Int) < (j : Int) := by omega
            have hjn3 : (xs.length : Int) < (j : Int) := by have := Hn.out; omega
            have hjn4 : decide (j < xs.length + 1) = false := decide_eq_false (by have := Hn.out; omega)
            have hjn5 : decide (j ≤ xs.length) = false := decide_eq_false (by have := Hn.out; omega)
            go_wp2_with fail
            go_roundg (n + 1 - (i + 1))
            case measure => omega
            case rel =>
              refine ⟨i + 1, by omega, rfl, by go_num, hbj.out, hzj.out, fun a b ha hb m' hm' => ?_⟩
              by_cases e : a = i
              · subst e; exact hkj.out b (by omega) m' hm'
              · exact hki.out a b (by omega) hb m' hm'
      · have hin2 : (n : Int) < (i : Int) := by omega
        have hin3 : (xs.length : Int) < (i : Int) := by have := Hn.out; omega
        have hin4 : decide (i < xs.length + 1) = false := decide_eq_false (by have := Hn.out; omega)
        have hin5 : decide (i ≤ xs.length) = false := decide_eq_false (by have := Hn.out; omega)
        go_wp2_with fail
        go_ret
        exact ⟨_, rfl, KpIs.yes Hs.out Hn.out fun a b ha hb => hki.out a b (by omega) hb, hbi.out⟩

theorem specKeepsRanks_any (P R C : Int) (d v : Value) (D xs : List Int) (w : World) (hd : Ints w d D) (hw : Ints w v xs) :
    Calls Try.prog 8 #[.agg #[.int .i64 P, .int .i64 R, .int .i64 C, d], v] w fun e w' => e = .returned (.bool (Classical.epsilon (KpIs P R C D xs))) ∧ Below w.heap.size w w' :=
  (specKeepsRanks_ex P R C d v D xs w hd hw).mono fun e w' ⟨b, h1, h2, h3⟩ => ⟨by rw [h1, h2.eps], h3⟩

set_option maxRecDepth 100000 in
set_option maxHeartbeats 4000000 in
theorem implKeepsRanks_ex (P R C : Int) (d v : Value) (D xs : List Int) (w : World) (hd : Ints w d D) (hw : Ints w v xs) :
    Calls Try.prog 11 #[.agg #[.int .i64 P, .int .i64 R, .int .i64 C, d], v] w fun e w' => ∃ b, e = .returned (.bool b) ∧ KpIs P R C D xs b ∧ Below w.heap.size w w' := by
  have Hd := Lib.hid hd
  have Hw := Lib.hid hw
  obtain ⟨p, cap, rfl, ⟨_, mx⟩, _⟩ := hd
  obtain ⟨p', cap', rfl, ⟨_, mx'⟩, _⟩ := hw
  unfold maxLen at mx mx'
  have HB := Lib.hid (below_alloc w (.cells #[.int .i64 P, .int .i64 R, .int .i64 C, .slice p D.length cap] 27))
  have Z := Lib.hid (heap_alloc_top w (.cells #[.int .i64 P, .int .i64 R, .int .i64 C, .slice p D.length cap] 27))
  cases hs : sqOk P R C D xs with
  | false =>
    have Hs := Lib.hid hs
    clear hs
    go_enter Try.func11, Try.ntmps11
    go_wp2_with fail
    refine (implSquare_any _ _ _ _ _ D xs _ (Hd.out.below HB.out) (Hw.out.below HB.out)).mono ?_
    rintro e w1 ⟨rfl, hb⟩
    rw [Hs.out]
    have hsz := HB.out.size
    have HB := Lib.hid (HB.out.trans (hb.mono hsz))
    clear hb hsz
    go_wp2_with fail
    go_ret
    exact ⟨_, rfl, KpIs.no Hs.out, HB.out⟩
  | true =>
    obtain ⟨hm, hp, hR, hC⟩ := sqOk_facts hs
    obtain ⟨n, hn⟩ : ∃ n, n = xs.length := ⟨_, rfl⟩
    rw [← hn] at hR hC
    subst hR hC
    have Hs := Lib.hid hs
    obtain ⟨r, c, e1, e2, hr, hc0, hc, hlD, hD, hP2, hP7, hpr⟩ := mxOk_facts hm
    have e1 := Int.ofNat.inj e1
    have e2 := Int.ofNat.inj e2
    subst e1
    subst e2
    have Hm := Lib.hid hm
    have Hp := Lib.hid hp
    have Hrg := Lib.hid (fun t => getD_range hD (by omega) t)
    have HlD := Lib.hid hlD
    have Hpr := Lib.hid hpr
    have Hn := Lib.hid hn
    clear hs hm hp hlD hD hpr hn
    have hn7 : xs.length ≤ 7 := by have := Hn.out; omega
    obtain ⟨q, hq⟩ : ∃ q, q = Value.slice p' xs.length cap' := ⟨_, rfl⟩
    have Hq := Lib.hid hq
    clear hq
    go_enter Try.func11, Try.ntmps11
    go_wp2_with fail
    refine (implSquare_any _ _ _ _ _ D xs _ (Hd.out.below HB.out) (Hw.out.below HB.out)).mono ?_
    rintro e w1 ⟨rfl, hb⟩
    rw [Hs.out]
    have hsz := HB.out.size
    have HB1 := Lib.hid (HB.out.trans (hb.mono hsz))
    have Z1 := Lib.hid (blk_later Z.out hb)
    clear hb hsz
    go_wp2_with fail
    go_loopg [5, 14] (n + 1) (fun g s5 s14 wr => ∃ i : Nat, i ≤ n + 1 ∧ g = n + 1 - i ∧ s14 = .int .i64 i ∧ Hid (Below w.heap.size w wr) ∧ Hid (wr.heap[w.heap.size]? = some (.cells #[.int .i64 P, .int .i64 (n : Int), .int .i64 (n : Int), .slice p D.length cap] 27 (0, 0))) ∧ Hid (KpUpto P n D xs i))
    case atStart => exact ⟨0, Nat.zero_le _, rfl, rfl, HB1.out, Z1.out, fun a b ha => absurd ha (Nat.not_lt_zero _)⟩
    case round =>
      obtain ⟨i, hi, rfl, rfl, hbi, hzi, hki⟩ := hrel
      obtain ⟨wi, rfl⟩ : ∃ x : World, x = wr := ⟨_, rfl⟩
      by_cases hin : i ≤ n
      · have hin2 : (i : Int) ≤ (n : Int) := by omega
        have hin3 : (i : Int) ≤ (xs.length : Int) := by have := Hn.out; omega
        have hin4 : i < xs.length + 1 := by have := Hn.out; omega
        have hin6 : decide ((i : Int) < (xs.length : Int) + 1) = true := decide_eq_true (by have := Hn.out; omega)
        go_wp2_with fail
        go_loopg [6, 20] (n + 1) (fun g s6 s20 wr => ∃ j : Nat, j ≤ n + 1 ∧ g = n + 1 - j ∧ s20 = .int .i64 j ∧ Hid (Below w.heap.size w wr) ∧ Hid (wr.heap[w.heap.size]? = some (.cells #[.int .i64 P, .int .i64 (n : Int), .int .i64 (n : Int), .slice p D.length cap] 27 (0, 0))) ∧ Hid (∀ b : Nat, b < j → ∀ m, CkIs P n n D i b m → m ≤ (rkL xs b i : Nat)))
        case atStart => exact ⟨0, Nat.zero_le _, rfl, rfl, hbi.out, hzi.out, fun b hb => absurd hb (Nat.not_lt_zero _)⟩
        case round =>
          obtain ⟨j, hj, rfl, rfl, hbj, hzj, hkj⟩ := hrel
          obtain ⟨wj, rfl⟩ : ∃ x : World, x = wr := ⟨_, rfl⟩
          by_cases hjn : j ≤ n
          · have hjn2 : (j : Int) ≤ (n : Int) := by omega
            have hjn3 : (j : Int) ≤ (xs.length : Int) := by have := Hn.out; omega
            have hjn4 : j < xs.length + 1 := by have := Hn.out; omega
            obtain ⟨c0, c1, c2, c3, cf, cz⟩ := blk4 hzj.out
            go_wp2_with fail
            refine (implCornerRank_ex P n n _ D i j _ (Hd.out.below hbj.out)).mono ?_
            rintro e w2 ⟨m, rfl, hck, hb⟩
            have Hck := Lib.hid hck
            have hsz := hbj.out.size
            have HB2 := Lib.hid (hbj.out.trans (hb.mono hsz))
            have Z2 := Lib.hid (blk_later hzj.out hb)
            clear hck hb hsz c0 c1 c2 c3 cf cz
            go_wp2_with fail
            refine (implRankAt_any _ xs i j _ (Hw.out.below HB2.out) Hp.out (by have := Hn.out; omega) (by have := Hn.out; omega) hn7 (by have := Hn.out; omega)).mono ?_
            rintro e w3 ⟨rfl, hb3⟩
            have hsz := HB2.out.size
            have HB3 := Lib.hid (HB2.out.trans (hb3.mono hsz))
            have Z3 := Lib.hid (blk_later Z2.out hb3)
            clear hb3 hsz
            obtain ⟨k, hk⟩ : ∃ k, k = rkL xs j i := ⟨_, rfl⟩
            rw [← hk]
            have Hk := Lib.hid hk
            clear hk
            by_cases hgt : (k : Int) < m
            · go_wp2_with fail
              go_ret
              exact ⟨_, rfl, KpIs.out Hs.out Hn.out (by omega : i ≤ n) (by omega : j ≤ n) Hck.out (by rw [← Hk.out]; exact hgt), HB3.out⟩
            · have hgt2 : decide ((k : Int) < m) = false := decide_eq_false hgt
              skip
              go_wp2_with fail
              go_roundg (n + 1 - (j + 1))
              case measure => omega
              case rel =>
                refine ⟨j + 1, by omega, rfl, by go_num, HB3.out, Z3.out, fun b hb m' hm' => ?_⟩
                by_cases e : b = j
                · subst e
                  rw [hm'.one Hck.out, ← Hk.out]; omega
                · exact hkj.out b (by omega) m' hm'
          · have hjn2 : (n : Int) < (j : Int) := by omega
            have hjn3 : (xs.length : Int) < (j : Int) := by have := Hn.out; omega
            have hjn4 : decide (j < xs.length + 1) = false := decide_eq_false (by have := Hn.out; omega)
            have hjn5 : decide (j ≤ xs.length) = false := decide_eq_false (by have := Hn.out; omega)
            go_wp2_with fail
            go_roundg (n + 1 - (i + 1))
            case measure => omega
            case rel =>
              refine ⟨i + 1, by omega, rfl, by go_num, hbj.out, hzj.out, fun a b ha hb m' hm' => ?_⟩
              by_cases e : a = i
              · subst e; exact hkj.out b (by omega) m' hm'
              · exact hki.out a b (by omega) hb m' hm'
      · have hin2 : (n : Int) < (i : Int) := by omega
        have hin3 : (xs.length : Int) < (i : Int) := by have := Hn.out; omega
        have hin4 : decide (i < xs.length + 1) = false := decide_eq_false (by have := Hn.out; omega)
        have hin5 : decide (i ≤ xs.length) = false := decide_eq_false (by have := Hn.out; omega)
        go_wp2_with fail
        go_ret
        exact ⟨_, rfl, KpIs.yes Hs.out Hn.out fun a b ha hb => hki.out a b (by omega) hb, hbi.out⟩

theorem implKeepsRanks_any (P R C : Int) (d v : Value) (D xs : List Int) (w : World) (hd : Ints w d D) (hw : Ints w v xs) :
    Calls Try.prog 11 #[.agg #[.int .i64 P, .int .i64 R, .int .i64 C, d], v] w fun e w' => e = .returned (.bool (Classical.epsilon (KpIs P R C D xs))) ∧ Below w.heap.size w w' :=
  (implKeepsRanks_ex P R C d v D xs w hd hw).mono fun e w' ⟨b, h1, h2, h3⟩ => ⟨by rw [h1, h2.eps], h3⟩

end Go.Proofs.Ytjiaenclaalldaa
