/-
  KeepsRanks, on both sides.
-/
import Derived.Test.YtejoapielndnnaaCorner2
import Derived.Test.YtejoapielndnnaaRankAt
namespace Go.Proofs.Ytejoapielndnnaa
set_option linter.all false
open Go.RowKit

def sqOk (P R C : Int) (D xs : List Int) : Bool := mxOk P R C D && permOk xs && decide (R = xs.length) && decide (C = xs.length)
theorem sqOk_no1 {P R C : Int} {D xs : List Int} (h : mxOk P R C D = false) : sqOk P R C D xs = false := by simp [sqOk, h]
theorem sqOk_no2 {P R C : Int} {D xs : List Int} (h : permOk xs = false) : sqOk P R C D xs = false := by simp [sqOk, h]
theorem sqOk_no3 {P R C : Int} {D xs : List Int} (h : ¬ R = xs.length) : sqOk P R C D xs = false := by simp [sqOk, h]
theorem sqOk_no4 {P R C : Int} {D xs : List Int} (h : ¬ C = xs.length) : sqOk P R C D xs = false := by simp [sqOk, h]
theorem sqOk_yes {P R C : Int} {D xs : List Int} (h1 : mxOk P R C D = true) (h2 : permOk xs = true) (h3 : R = xs.length) (h4 : C = xs.length) : sqOk P R C D xs = true := by
  unfold sqOk
  rw [h1, h2, decide_eq_true h3, decide_eq_true h4]; rfl

theorem sqOk_facts {P R C : Int} {D xs : List Int} (h : sqOk P R C D xs = true) : mxOk P R C D = true ∧ permOk xs = true ∧ R = xs.length ∧ C = xs.length := by
  unfold sqOk at h
  simp only [Bool.and_eq_true, decide_eq_true_eq] at h
  exact ⟨h.1.1.1, h.1.1.2, h.1.2, h.2⟩
/-- the corners of the first i rows have no greater rank than the permutation's -/
def KpUpto (P : Int) (n : Nat) (D xs : List Int) (i : Nat) : Prop := ∀ a b : Nat, a < i → b ≤ n → ∀ m, CkIs P n n D a b m → m ≤ (rkL xs b a : Nat)
/-- what KeepsRanks returns -/
def KpIs (P R C : Int) (D xs : List Int) (b : Bool) : Prop := b = true ↔ sqOk P R C D xs = true ∧ KpUpto P xs.length D xs (xs.length + 1)
theorem KpIs.one {P R C : Int} {D xs : List Int} {b b' : Bool} (h : KpIs P R C D xs b) (h' : KpIs P R C D xs b') : b = b' := by
  unfold KpIs at h h'
  have e : b = true ↔ b' = true := h.trans h'.symm
  cases b <;> cases b' <;> simp_all
theorem KpIs.eps {P R C : Int} {D xs : List Int} {b : Bool} (h : KpIs P R C D xs b) : b = Classical.epsilon (KpIs P R C D xs) := h.one (Classical.epsilon_spec ⟨b, h⟩)
theorem KpIs.no {P R C : Int} {D xs : List Int} (h : sqOk P R C D xs = false) : KpIs P R C D xs false := by
  unfold KpIs; simp [h]
theorem KpIs.out {P R C : Int} {D xs : List Int} {n i j : Nat} {m : Int} (h : sqOk P R C D xs = true) (hn : n = xs.length) (hi : i ≤ n) (hj : j ≤ n) (hm : CkIs P n n D i j m) (hlt : ((rkL xs j i : Nat) : Int) < m) : KpIs P R C D xs false := by
  subst hn
  refine ⟨fun e => absurd e (by decide), fun e => ?_⟩
  have := e.2 i j (by omega) hj m hm
  omega
theorem KpIs.yes {P R C : Int} {D xs : List Int} {n : Nat} (h : sqOk P R C D xs = true) (hn : n = xs.length) (hk : ∀ a b : Nat, a ≤ n → b ≤ n → ∀ m, CkIs P n n D a b m → m ≤ (rkL xs b a : Nat)) : KpIs P R C D xs true := by
  subst hn
  exact ⟨fun _ => ⟨h, fun a b ha hb => hk a b (by omega) hb⟩, fun _ => rfl⟩

set_option maxRecDepth 100000 in
set_option maxHeartbeats 2000000 in
theorem specSquare_any (P R C : Int) (d v : Value) (D xs : List Int) (w : World) (hd : Ints w d D) (hw : Ints w v xs) :
    Calls Try.prog 28 #[.agg #[.int .i64 P, .int .i64 R, .int .i64 C, d], v] w fun e w' => e = .returned (.bool (sqOk P R C D xs)) ∧ Below w.heap.size w w' := by
  have Hd := Lib.hid hd
  have Hw := Lib.hid hw
  obtain ⟨p, cap, rfl, ⟨_, mx⟩, _⟩ := hd
  obtain ⟨p', cap', rfl, ⟨_, mx'⟩, _⟩ := hw
  unfold maxLen at mx mx'
  cases hm : mxOk P R C D with
  | false =>
    rw [sqOk_no1 hm]
    have Hm := Lib.hid hm
    clear hm
    have HB := Lib.hid (below_alloc w (.cells #[.int .i64 P, .int .i64 R, .int .i64 C, .slice p D.length cap] 27))
    have Z := Lib.hid (heap_alloc_top w (.cells #[.int .i64 P, .int .i64 R, .int .i64 C, .slice p D.length cap] 27))
    go_enter Try.func28, Try.ntmps28
    go_wp2_with fail
    refine (specMatrixOk_b _ _ _ _ _ _ Hm.out _ (Hd.out.below HB.out)).mono ?_
    rintro e w1 ⟨rfl, hb⟩
    have hsz := HB.out.size
    have HB := Lib.hid (HB.out.trans (hb.mono hsz))
    have Z := Lib.hid (blk_later Z.out hb)
    clear hb hsz
    obtain ⟨c0, c1, c2, c3, cf, cz⟩ := blk4 Z.out
    go_wp2_with fail
    go_ret
    exact ⟨rfl, HB.out⟩
  | true =>
  cases hp : permOk xs with
  | false =>
    rw [sqOk_no2 hp]
    have Hm := Lib.hid hm
    have Hp := Lib.hid hp
    clear hm hp
    have HB := Lib.hid (below_alloc w (.cells #[.int .i64 P, .int .i64 R, .int .i64 C, .slice p D.length cap] 27))
    have Z := Lib.hid (heap_alloc_top w (.cells #[.int .i64 P, .int .i64 R, .int .i64 C, .slice p D.length cap] 27))
    go_enter Try.func28, Try.ntmps28
    go_wp2_with fail
    refine (specMatrixOk_b _ _ _ _ _ _ Hm.out _ (Hd.out.below HB.out)).mono ?_
    rintro e w1 ⟨rfl, hb⟩
    have hsz := HB.out.size
    have HB := Lib.hid (HB.out.trans (hb.mono hsz))
    have Z := Lib.hid (blk_later Z.out hb)
    clear hb hsz
    obtain ⟨c0, c1, c2, c3, cf, cz⟩ := blk4 Z.out
    go_wp2_with fail
    try clear c0 c1 c2 c3 cf cz
    refine (specIsPerm_b _ xs _ Hp.out _ (Hw.out.below HB.out)).mono ?_
    rintro e w2 ⟨rfl, hb⟩
    have hb := hb.below w1.heap.size
    have hsz := HB.out.size
    have HB := Lib.hid (HB.out.trans (hb.mono hsz))
    have Z := Lib.hid (blk_later Z.out hb)
    clear hb hsz
    obtain ⟨c0, c1, c2, c3, cf, cz⟩ := blk4 Z.out
    go_wp2_with fail
    go_ret
    exact ⟨rfl, HB.out⟩
  | true =>
  have Hm := Lib.hid hm
  have Hp := Lib.hid hp
  clear hm hp
  by_cases hR : R = xs.length
  case neg =>
    rw [sqOk_no3 hR]
    have hR2 : (R == (xs.length : Int)) = false := by simpa using hR
    clear hR
    have HB := Lib.hid (below_alloc w (.cells #[.int .i64 P, .int .i64 R, .int .i64 C, .slice p D.length cap] 27))
    have Z := Lib.hid (heap_alloc_top w (.cells #[.int .i64 P, .int .i64 R, .int .i64 C, .slice p D.length cap] 27))
    go_enter Try.func28, Try.ntmps28
    go_wp2_with fail
    refine (specMatrixOk_b _ _ _ _ _ _ Hm.out _ (Hd.out.below HB.out)).mono ?_
    rintro e w1 ⟨rfl, hb⟩
    have hsz := HB.out.size
    have HB := Lib.hid (HB.out.trans (hb.mono hsz))
    have Z := Lib.hid (blk_later Z.out hb)
    clear hb hsz
    obtain ⟨c0, c1, c2, c3, cf, cz⟩ := blk4 Z.out
    go_wp2_with fail
    try clear c0 c1 c2 c3 cf cz
    refine (specIsPerm_b _ xs _ Hp.out _ (Hw.out.below HB.out)).mono ?_
    rintro e w2 ⟨rfl, hb⟩
    have hb := hb.below w1.heap.size
    have hsz := HB.out.size
    have HB := Lib.hid (HB.out.trans (hb.mono hsz))
    have Z := Lib.hid (blk_later Z.out hb)
    clear hb hsz
    obtain ⟨c0, c1, c2, c3, cf, cz⟩ := blk4 Z.out
    go_wp2_with fail
    try clear c0 c1 c2 c3 cf cz
    go_ret
    exact ⟨rfl, HB.out⟩
  by_cases hC : C = xs.length
  case neg =>
    rw [sqOk_no4 hC]
    have hC2 : (C == (xs.length : Int)) = false := by simpa using hC
    clear hC
    subst hR
    have HB := Lib.hid (below_alloc w (.cells #[.int .i64 P, .int .i64 (xs.length : Int), .int .i64 C, .slice p D.length cap] 27))
    have Z := Lib.hid (heap_alloc_top w (.cells #[.int .i64 P, .int .i64 (xs.length : Int), .int .i64 C, .slice p D.length cap] 27))
    go_enter Try.func28, Try.ntmps28
    go_wp2_with fail
    refine (specMatrixOk_b _ _ _ _ _ _ Hm.out _ (Hd.out.below HB.out)).mono ?_
    rintro e w1 ⟨rfl, hb⟩
    have hsz := HB.out.size
    have HB := Lib.hid (HB.out.trans (hb.mono hsz))
    have Z := Lib.hid (blk_later Z.out hb)
    clear hb hsz
    obtain ⟨c0, c1, c2, c3, cf, cz⟩ := blk4 Z.out
    go_wp2_with fail
    try clear c0 c1 c2 c3 cf cz
    refine (specIsPerm_b _ xs _ Hp.out _ (Hw.out.below HB.out)).mono ?_
    rintro e w2 ⟨rfl, hb⟩
    have hb := hb.below w1.heap.size
    have hsz := HB.out.size
    have HB := Lib.hid (HB.out.trans (hb.mono hsz))
    have Z := Lib.hid (blk_later Z.out hb)
    clear hb hsz
    obtain ⟨c0, c1, c2, c3, cf, cz⟩ := blk4 Z.out
    go_wp2_with fail
    try clear c0 c1 c2 c3 cf cz
    go_ret
    exact ⟨rfl, HB.out⟩
  rw [sqOk_yes Hm.out Hp.out hR hC]
  subst hR hC
  have HB := Lib.hid (below_alloc w (.cells #[.int .i64 P, .int .i64 (xs.length : Int), .int .i64 (xs.length : Int), .slice p D.length cap] 27))
  have Z := Lib.hid (heap_alloc_top w (.cells #[.int .i64 P, .int .i64 (xs.length : Int), .int .i64 (xs.length : Int), .slice p D.length cap] 27))
  go_enter Try.func28, Try.ntmps28
  go_wp2_with fail
  refine (specMatrixOk_b _ _ _ _ _ _ Hm.out _ (Hd.out.below HB.out)).mono ?_
  rintro e w1 ⟨rfl, hb⟩
  have hsz := HB.out.size
  have HB := Lib.hid (HB.out.trans (hb.mono hsz))
  have Z := Lib.hid (blk_later Z.out hb)
  clear hb hsz
  obtain ⟨c0, c1, c2, c3, cf, cz⟩ := blk4 Z.out
  go_wp2_with fail
  try clear c0 c1 c2 c3 cf cz
  refine (specIsPerm_b _ xs _ Hp.out _ (Hw.out.below HB.out)).mono ?_
  rintro e w2 ⟨rfl, hb⟩
  have hb := hb.below w1.heap.size
  have hsz := HB.out.size
  have HB := Lib.hid (HB.out.trans (hb.mono hsz))
  have Z := Lib.hid (blk_later Z.out hb)
  clear hb hsz
  obtain ⟨c0, c1, c2, c3, cf, cz⟩ := blk4 Z.out
  go_wp2_with fail
  try clear c0 c1 c2 c3 cf cz
  go_ret
  exact ⟨rfl, HB.out⟩

set_option maxRecDepth 100000 in
set_option maxHeartbeats 2000000 in
theorem implSquare_any (P R C : Int) (d v : Value) (D xs : List Int) (w : World) (hd : Ints w d D) (hw : Ints w v xs) :
    Calls Try.prog 32 #[.agg #[.int .i64 P, .int .i64 R, .int .i64 C, d], v] w fun e w' => e = .returned (.bool (sqOk P R C D xs)) ∧ Below w.heap.size w w' := by
  have Hd := Lib.hid hd
  have Hw := Lib.hid hw
  obtain ⟨p, cap, rfl, ⟨_, mx⟩, _⟩ := hd
  obtain ⟨p', cap', rfl, ⟨_, mx'⟩, _⟩ := hw
  unfold maxLen at mx mx'
  cases hp : permOk xs with
  | false =>
    rw [sqOk_no2 hp]
    have Hp := Lib.hid hp
    clear hp
    have HB := Lib.hid (below_alloc w (.cells #[.int .i64 P, .int .i64 R, .int .i64 C, .slice p D.length cap] 27))
    have Z := Lib.hid (heap_alloc_top w (.cells #[.int .i64 P, .int .i64 R, .int .i64 C, .slice p D.length cap] 27))
    go_enter Try.func32, Try.ntmps32
    go_wp2_with fail
    refine (implIsPerm_b _ xs _ Hp.out _ (Hw.out.below HB.out)).mono ?_
    rintro e w1 ⟨rfl, hb⟩
    have hsz := HB.out.size
    have HB := Lib.hid (HB.out.trans (hb.mono hsz))
    have Z := Lib.hid (blk_later Z.out hb)
    clear hb hsz
    obtain ⟨c0, c1, c2, c3, cf, cz⟩ := blk4 Z.out
    go_wp2_with fail
    go_ret
    exact ⟨rfl, HB.out⟩
  | true =>
  cases hm : mxOk P R C D with
  | false =>
    rw [sqOk_no1 hm]
    have Hp := Lib.hid hp
    have Hm := Lib.hid hm
    clear hp hm
    have HB := Lib.hid (below_alloc w (.cells #[.int .i64 P, .int .i64 R, .int .i64 C, .slice p D.length cap] 27))
    have Z := Lib.hid (heap_alloc_top w (.cells #[.int .i64 P, .int .i64 R, .int .i64 C, .slice p D.length cap] 27))
    go_enter Try.func32, Try.ntmps32
    go_wp2_with fail
    refine (implIsPerm_b _ xs _ Hp.out _ (Hw.out.below HB.out)).mono ?_
    rintro e w1 ⟨rfl, hb⟩
    have hsz := HB.out.size
    have HB := Lib.hid (HB.out.trans (hb.mono hsz))
    have Z := Lib.hid (blk_later Z.out hb)
    clear hb hsz
    obtain ⟨c0, c1, c2, c3, cf, cz⟩ := blk4 Z.out
    go_wp2_with fail
    try clear c0 c1 c2 c3 cf cz
    refine (implMatrixOk_b _ _ _ _ _ _ Hm.out _ (Hd.out.below HB.out)).mono ?_
    rintro e w2 ⟨rfl, hb⟩
    have hsz := HB.out.size
    have HB := Lib.hid (HB.out.trans (hb.mono hsz))
    have Z := Lib.hid (blk_later Z.out hb)
    clear hb hsz
    obtain ⟨c0, c1, c2, c3, cf, cz⟩ := blk4 Z.out
    go_wp2_with fail
    go_ret
    exact ⟨rfl, HB.out⟩
  | true =>
  have Hm := Lib.hid hm
  have Hp := Lib.hid hp
  clear hm hp
  by_cases hR : R = xs.length
  case neg =>
    rw [sqOk_no3 hR]
    have hR2 : (R == (xs.length : Int)) = false := by simpa using hR
    clear hR
    have HB := Lib.hid (below_alloc w (.cells #[.int .i64 P, .int .i64 R, .int .i64 C, .slice p D.length cap] 27))
    have Z := Lib.hid (heap_alloc_top w (.cells #[.int .i64 P, .int .i64 R, .int .i64 C, .slice p D.length cap] 27))
    go_enter Try.func32, Try.ntmps32
    go_wp2_with fail
    refine (implIsPerm_b _ xs _ Hp.out _ (Hw.out.below HB.out)).mono ?_
    rintro e w1 ⟨rfl, hb⟩
    have hsz := HB.out.size
    have HB := Lib.hid (HB.out.trans (hb.mono hsz))
    have Z := Lib.hid (blk_later Z.out hb)
    clear hb hsz
    obtain ⟨c0, c1, c2, c3, cf, cz⟩ := blk4 Z.out
    go_wp2_with fail
    try clear c0 c1 c2 c3 cf cz
    refine (implMatrixOk_b _ _ _ _ _ _ Hm.out _ (Hd.out.below HB.out)).mono ?_
    rintro e w2 ⟨rfl, hb⟩
    have hsz := HB.out.size
    have HB := Lib.hid (HB.out.trans (hb.mono hsz))
    have Z := Lib.hid (blk_later Z.out hb)
    clear hb hsz
    obtain ⟨c0, c1, c2, c3, cf, cz⟩ := blk4 Z.out
    go_wp2_with fail
    try clear c0 c1 c2 c3 cf cz
    go_ret
    exact ⟨rfl, HB.out⟩
  by_cases hC : C = xs.length
  case neg =>
    rw [sqOk_no4 hC]
    have hC2 : (C == (xs.length : Int)) = false := by simpa using hC
    clear hC
    subst hR
    have HB := Lib.hid (below_alloc w (.cells #[.int .i64 P, .int .i64 (xs.length : Int), .int .i64 C, .slice p D.length cap] 27))
    have Z := Lib.hid (heap_alloc_top w (.cells #[.int .i64 P, .int .i64 (xs.length : Int), .int .i64 C, .slice p D.length cap] 27))
    go_enter Try.func32, Try.ntmps32
    go_wp2_with fail
    refine (implIsPerm_b _ xs _ Hp.out _ (Hw.out.below HB.out)).mono ?_
    rintro e w1 ⟨rfl, hb⟩
    have hsz := HB.out.size
    have HB := Lib.hid (HB.out.trans (hb.mono hsz))
    have Z := Lib.hid (blk_later Z.out hb)
    clear hb hsz
    obtain ⟨c0, c1, c2, c3, cf, cz⟩ := blk4 Z.out
    go_wp2_with fail
    try clear c0 c1 c2 c3 cf cz
    refine (implMatrixOk_b _ _ _ _ _ _ Hm.out _ (Hd.out.below HB.out)).mono ?_
    rintro e w2 ⟨rfl, hb⟩
    have hsz := HB.out.size
    have HB := Lib.hid (HB.out.trans (hb.mono hsz))
    have Z := Lib.hid (blk_later Z.out hb)
    clear hb hsz
    obtain ⟨c0, c1, c2, c3, cf, cz⟩ := blk4 Z.out
    go_wp2_with fail
    try clear c0 c1 c2 c3 cf cz
    go_ret
    exact ⟨rfl, HB.out⟩
  rw [sqOk_yes Hm.out Hp.out hR hC]
  subst hR hC
  have HB := Lib.hid (below_alloc w (.cells #[.int .i64 P, .int .i64 (xs.length : Int), .int .i64 (xs.length : Int), .slice p D.length cap] 27))
  have Z := Lib.hid (heap_alloc_top w (.cells #[.int .i64 P, .int .i64 (xs.length : Int), .int .i64 (xs.length : Int), .slice p D.length cap] 27))
  go_enter Try.func32, Try.ntmps32
  go_wp2_with fail
  refine (implIsPerm_b _ xs _ Hp.out _ (Hw.out.below HB.out)).mono ?_
  rintro e w1 ⟨rfl, hb⟩
  have hsz := HB.out.size
  have HB := Lib.hid (HB.out.trans (hb.mono hsz))
  have Z := Lib.hid (blk_later Z.out hb)
  clear hb hsz
  obtain ⟨c0, c1, c2, c3, cf, cz⟩ := blk4 Z.out
  go_wp2_with fail
  try clear c0 c1 c2 c3 cf cz
  refine (implMatrixOk_b _ _ _ _ _ _ Hm.out _ (Hd.out.below HB.out)).mono ?_
  rintro e w2 ⟨rfl, hb⟩
  have hsz := HB.out.size
  have HB := Lib.hid (HB.out.trans (hb.mono hsz))
  have Z := Lib.hid (blk_later Z.out hb)
  clear hb hsz
  obtain ⟨c0, c1, c2, c3, cf, cz⟩ := blk4 Z.out
  go_wp2_with fail
  try clear c0 c1 c2 c3 cf cz
  go_ret
  exact ⟨rfl, HB.out⟩

end Go.Proofs.Ytejoapielndnnaa
