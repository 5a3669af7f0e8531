/-
  KeepsRanks, on both sides.
  KeepsEssential, on both sides.
  The order of permutations by their ranks. Plain.
  What KeepsRanks, KeepsEssential, CornerRank and RankOf say of a matrix that is drawn. Plain.
  NormalFlag, FlagPerm, RelativePosition, PermMatrix, FlagOk of flags, as the laws use them.
  impl.IsBelowPerm.
  KeepsRanks, CornerRank, RankOf, PermMatrix, as the law on ranks uses them.
  The draws: a flag, walked.
-/
import Derived.Test.YtklpaannmdbmiaaJ11
import Derived.Test.YtklpaannmdbmiaaJ5
import Derived.Test.YtklpaannmdbmiaaJ2
import Derived.Test.YtklpaannmdbmiaaJ7
import Derived.Test.YtklpaannmdbmiaaJ3
namespace Go.Proofs.Ytklpaannmdbmiaa
set_option linter.all false
open Go.RowKit

def sqOk (P R C : Int) (D xs : List Int) : Bool := mxOk P R C D && permOk xs && decide (R = xs.length) && decide (C = xs.length)
theorem sqOk_no1 {P R C : Int} {D xs : List Int} (h : mxOk P R C D = false) : sqOk P R C D xs = false := by simp [sqOk, h]
theorem sqOk_no2 {P R C : Int} {D xs : List Int} (h : permOk xs = false) : sqOk P R C D xs = false := by simp [sqOk, h]
theorem sqOk_no3 {P R C : Int} {D xs : List Int} (h : ¬ R = xs.length) : sqOk P R C D xs = false := by simp [sqOk, h]
theorem sqOk_no4 {P R C : Int} {D xs : List Int} (h : ¬ C = xs.length) : sqOk P R C D xs = false := by simp [sqOk, h]
theorem sqOk_yes {P R C : Int} {D xs : List Int} (h1 : mxOk P R C D = true) (h2 : permOk xs = true) (h3 : R = xs.length) (h4 : C = xs.length) : sqOk P R C D xs = true := by
  unfold sqOk
  rw [h1, h2, decide_eq_true h3, decide_eq_true h4]; rfl

theorem sqOk_facts {P R C : Int} {D xs : List Int} (h : sqOk P R C D xs = true) : mxOk P R C D = true ∧ permOk xs = true ∧ R = xs.length ∧ C = xs.length := by
  unfold sqOk at h
  simp only [Bool.and_eq_true, decide_eq_true_eq] at h
  exact ⟨h.1.1.1, h.1.1.2, h.1.2, h.2⟩
/-- the corners of the first i rows have no greater rank than the permutation's -/
def KpUpto (P : Int) (n : Nat) (D xs : List Int) (i : Nat) : Prop := ∀ a b : Nat, a < i → b ≤ n → ∀ m, CkIs P n n D a b m → m ≤ (rkL xs b a : Nat)
/-- what KeepsRanks returns -/
def KpIs (P R C : Int) (D xs : List Int) (b : Bool) : Prop := b = true ↔ sqOk P R C D xs = true ∧ KpUpto P xs.length D xs (xs.length + 1)
theorem KpIs.one {P R C : Int} {D xs : List Int} {b b' : Bool} (h : KpIs P R C D xs b) (h' : KpIs P R C D xs b') : b = b' := by
  unfold KpIs at h h'
  have e : b = true ↔ b' = true := h.trans h'.symm
  cases b <;> cases b' <;> simp_all
theorem KpIs.eps {P R C : Int} {D xs : List Int} {b : Bool} (h : KpIs P R C D xs b) : b = Classical.epsilon (KpIs P R C D xs) := h.one (Classical.epsilon_spec ⟨b, h⟩)
theorem KpIs.no {P R C : Int} {D xs : List Int} (h : sqOk P R C D xs = false) : KpIs P R C D xs false := by
  unfold KpIs; simp [h]
theorem KpIs.out {P R C : Int} {D xs : List Int} {n i j : Nat} {m : Int} (h : sqOk P R C D xs = true) (hn : n = xs.length) (hi : i ≤ n) (hj : j ≤ n) (hm : CkIs P n n D i j m) (hlt : ((rkL xs j i : Nat) : Int) < m) : KpIs P R C D xs false := by
  subst hn
  refine ⟨fun e => absurd e (by decide), fun e => ?_⟩
  have := e.2 i j (by omega) hj m hm
  omega
theorem KpIs.yes {P R C : Int} {D xs : List Int} {n : Nat} (h : sqOk P R C D xs = true) (hn : n = xs.length) (hk : ∀ a b : Nat, a ≤ n → b ≤ n → ∀ m, CkIs P n n D a b m → m ≤ (rkL xs b a : Nat)) : KpIs P R C D xs true := by
  subst hn
  exact ⟨fun _ => ⟨h, fun a b ha hb => hk a b (by omega) hb⟩, fun _ => rfl⟩

set_option maxRecDepth 100000 in
set_option maxHeartbeats 2000000 in
theorem implSquare_any (P R C : Int) (d v : Value) (D xs : List Int) (w : World) (hd : Ints w d D) (hw : Ints w v xs) :
    Calls Try.prog 21 #[.agg #[.int .i64 P, .int .i64 R, .int .i64 C, d], v] w fun e w' => e = .returned (.bool (sqOk P R C D xs)) ∧ Below w.heap.size w w' := by
  have Hd := Lib.hid hd
  have Hw := Lib.hid hw
  obtain ⟨p, cap, rfl, ⟨_, mx⟩, _⟩ := hd
  obtain ⟨p', cap', rfl, ⟨_, mx'⟩, _⟩ := hw
  unfold maxLen at mx mx'
  cases hp : permOk xs with
  | false =>
    rw [sqOk_no2 hp]
    have Hp := Lib.hid hp
    clear hp
    have HB := Lib.hid (below_alloc w (.cells #[.int .i64 P, .int .i64 R, .int .i64 C, .slice p D.length cap] 26))
    have Z := Lib.hid (heap_alloc_top w (.cells #[.int .i64 P, .int .i64 R, .int .i64 C, .slice p D.length cap] 26))
    go_enter Try.func21, Try.ntmps21
    go_wp2_with fail
    refine (implIsPerm_b _ xs _ Hp.out _ (Hw.out.below HB.out)).mono ?_
    rintro e w1 ⟨rfl, hb⟩
    have hsz := HB.out.size
    have HB := Lib.hid (HB.out.trans (hb.mono hsz))
    have Z := Lib.hid (blk_later Z.out hb)
    clear hb hsz
    obtain ⟨c0, c1, c2, c3, cf, cz⟩ := blk4 Z.out
    go_wp2_with fail
    go_ret
    exact ⟨rfl, HB.out⟩
  | true =>
  cases hm : mxOk P R C D with
  | false =>
    rw [sqOk_no1 hm]
    have Hp := Lib.hid hp
    have Hm := Lib.hid hm
    clear hp hm
    have HB := Lib.hid (below_alloc w (.cells #[.int .i64 P, .int .i64 R, .int .i64 C, .slice p D.length cap] 26))
    have Z := Lib.hid (heap_alloc_top w (.cells #[.int .i64 P, .int .i64 R, .int .i64 C, .slice p D.length cap] 26))
    go_enter Try.func21, Try.ntmps21
    go_wp2_with fail
    refine (implIsPerm_b _ xs _ Hp.out _ (Hw.out.below HB.out)).mono ?_
    rintro e w1 ⟨rfl, hb⟩
    have hsz := HB.out.size
    have HB := Lib.hid (HB.out.trans (hb.mono hsz))
    have Z := Lib.hid (blk_later Z.out hb)
    clear hb hsz
    obtain ⟨c0, c1, c2, c3, cf, cz⟩ := blk4 Z.out
    go_wp2_with fail
    try clear c0 c1 c2 c3 cf cz
    refine (implMatrixOk_b _ _ _ _ _ _ Hm.out _ (Hd.out.below HB.out)).mono ?_
    rintro e w2 ⟨rfl, hb⟩
    have hsz := HB.out.size
    have HB := Lib.hid (HB.out.trans (hb.mono hsz))
    have Z := Lib.hid (blk_later Z.out hb)
    clear hb hsz
    obtain ⟨c0, c1, c2, c3, cf, cz⟩ := blk4 Z.out
    go_wp2_with fail
    go_ret
    exact ⟨rfl, HB.out⟩
  | true =>
  have Hm := Lib.hid hm
  have Hp := Lib.hid hp
  clear hm hp
  by_cases hR : R = xs.length
  case neg =>
    rw [sqOk_no3 hR]
    have hR2 : (R == (xs.length : Int)) = false := by simpa using hR
    clear hR
    have HB := Lib.hid (below_alloc w (.cells #[.int .i64 P, .int .i64 R, .int .i64 C, .slice p D.length cap] 26))
    have Z := Lib.hid (heap_alloc_top w (.cells #[.int .i64 P, .int .i64 R, .int .i64 C, .slice p D.length cap] 26))
    go_enter Try.func21, Try.ntmps21
    go_wp2_with fail
    refine (implIsPerm_b _ xs _ Hp.out _ (Hw.out.below HB.out)).mono ?_
    rintro e w1 ⟨rfl, hb⟩
    have hsz := HB.out.size
    have HB := Lib.hid (HB.out.trans (hb.mono hsz))
    have Z := Lib.hid (blk_later Z.out hb)
    clear hb hsz
    obtain ⟨c0, c1, c2, c3, cf, cz⟩ := blk4 Z.out
    go_wp2_with fail
    try clear c0 c1 c2 c3 cf cz
    refine (implMatrixOk_b _ _ _ _ _ _ Hm.out _ (Hd.out.below HB.out)).mono ?_
    rintro e w2 ⟨rfl, hb⟩
    have hsz := HB.out.size
    have HB := Lib.hid (HB.out.trans (hb.mono hsz))
    have Z := Lib.hid (blk_later Z.out hb)
    clear hb hsz
    obtain ⟨c0, c1, c2, c3, cf, cz⟩ := blk4 Z.out
    go_wp2_with fail
    try clear c0 c1 c2 c3 cf cz
    go_ret
    exact ⟨rfl, HB.out⟩
  by_cases hC : C = xs.length
  case neg =>
    rw [sqOk_no4 hC]
    have hC2 : (C == (xs.length : Int)) = false := by simpa using hC
    clear hC
    subst hR
    have HB := Lib.hid (below_alloc w (.cells #[.int .i64 P, .int .i64 (xs.length : Int), .int .i64 C, .slice p D.length cap] 26))
    have Z := Lib.hid (heap_alloc_top w (.cells #[.int .i64 P, .int .i64 (xs.length : Int), .int .i64 C, .slice p D.length cap] 26))
    go_enter Try.func21, Try.ntmps21
    go_wp2_with fail
    refine (implIsPerm_b _ xs _ Hp.out _ (Hw.out.below HB.out)).mono ?_
    rintro e w1 ⟨rfl, hb⟩
    have hsz := HB.out.size
    have HB := Lib.hid (HB.out.trans (hb.mono hsz))
    have Z := Lib.hid (blk_later Z.out hb)
    clear hb hsz
    obtain ⟨c0, c1, c2, c3, cf, cz⟩ := blk4 Z.out
    go_wp2_with fail
    try clear c0 c1 c2 c3 cf cz
    refine (implMatrixOk_b _ _ _ _ _ _ Hm.out _ (Hd.out.below HB.out)).mono ?_
    rintro e w2 ⟨rfl, hb⟩
    have hsz := HB.out.size
    have HB := Lib.hid (HB.out.trans (hb.mono hsz))
    have Z := Lib.hid (blk_later Z.out hb)
    clear hb hsz
    obtain ⟨c0, c1, c2, c3, cf, cz⟩ := blk4 Z.out
    go_wp2_with fail
    try clear c0 c1 c2 c3 cf cz
    go_ret
    exact ⟨rfl, HB.out⟩
  rw [sqOk_yes Hm.out Hp.out hR hC]
  subst hR hC
  have HB := Lib.hid (below_alloc w (.cells #[.int .i64 P, .int .i64 (xs.length : Int), .int .i64 (xs.length : Int), .slice p D.length cap] 26))
  have Z := Lib.hid (heap_alloc_top w (.cells #[.int .i64 P, .int .i64 (xs.length : Int), .int .i64 (xs.length : Int), .slice p D.length cap] 26))
  go_enter Try.func21, Try.ntmps21
  go_wp2_with fail
  refine (implIsPerm_b _ xs _ Hp.out _ (Hw.out.below HB.out)).mono ?_
  rintro e w1 ⟨rfl, hb⟩
  have hsz := HB.out.size
  have HB := Lib.hid (HB.out.trans (hb.mono hsz))
  have Z := Lib.hid (blk_later Z.out hb)
  clear hb hsz
  obtain ⟨c0, c1, c2, c3, cf, cz⟩ := blk4 Z.out
  go_wp2_with fail
  try clear c0 c1 c2 c3 cf cz
  refine (implMatrixOk_b _ _ _ _ _ _ Hm.out _ (Hd.out.below HB.out)).mono ?_
  rintro e w2 ⟨rfl, hb⟩
  have hsz := HB.out.size
  have HB := Lib.hid (HB.out.trans (hb.mono hsz))
  have Z := Lib.hid (blk_later Z.out hb)
  clear hb hsz
  obtain ⟨c0, c1, c2, c3, cf, cz⟩ := blk4 Z.out
  go_wp2_with fail
  try clear c0 c1 c2 c3 cf cz
  go_ret
  exact ⟨rfl, HB.out⟩

set_option maxRecDepth 100000 in
set_option maxHeartbeats 4000000 in
theorem implKeepsRanks_ex (P R C : Int) (d v : Value) (D xs : List Int) (w : World) (hd : Ints w d D) (hw : Ints w v xs) :
    Calls Try.prog 6 #[.agg #[.int .i64 P, .int .i64 R, .int .i64 C, d], v] w fun e w' => ∃ b, e = .returned (.bool b) ∧ KpIs P R C D xs b ∧ Below w.heap.size w w' := by
  have Hd := Lib.hid hd
  have Hw := Lib.hid hw
  obtain ⟨p, cap, rfl, ⟨_, mx⟩, _⟩ := hd
  obtain ⟨p', cap', rfl, ⟨_, mx'⟩, _⟩ := hw
  unfold maxLen at mx mx'
  have HB := Lib.hid (below_alloc w (.cells #[.int .i64 P, .int .i64 R, .int .i64 C, .slice p D.length cap] 26))
  have Z := Lib.hid (heap_alloc_top w (.cells #[.int .i64 P, .int .i64 R, .int .i64 C, .slice p D.length cap] 26))
  cases hs : sqOk P R C D xs with
  | false =>
    have Hs := Lib.hid hs
    clear hs
    go_enter Try.func6, Try.ntmps6
    go_wp2_with fail
    refine (implSquare_any _ _ _ _ _ D xs _ (Hd.out.below HB.out) (Hw.out.below HB.out)).mono ?_
    rintro e w1 ⟨rfl, hb⟩
    rw [Hs.out]
    have hsz := HB.out.size
    have HB := Lib.hid (HB.out.trans (hb.mono hsz))
    clear hb hsz
    go_wp2_with fail
    go_ret
    exact ⟨_, rfl, KpIs.no Hs.out, HB.out⟩
  | true =>
    obtain ⟨hm, hp, hR, hC⟩ := sqOk_facts hs
    obtain ⟨n, hn⟩ : ∃ n, n = xs.length := ⟨_, rfl⟩
    rw [← hn] at hR hC
    subst hR hC
    have Hs := Lib.hid hs
    obtain ⟨r, c, e1, e2, hr, hc0, hc, hlD, hD, hP2, hP7, hpr⟩ := mxOk_facts hm
    have e1 := Int.ofNat.inj e1
    have e2 := Int.ofNat.inj e2
    subst e1
    subst e2
    have Hm := Lib.hid hm
    have Hp := Lib.hid hp
    have Hrg := Lib.hid (fun t => getD_range hD (by omega) t)
    have HlD := Lib.hid hlD
    have Hpr := Lib.hid hpr
    have Hn := Lib.hid hn
    clear hs hm hp hlD hD hpr hn
    have hn7 : xs.length ≤ 7 := by have := Hn.out; omega
    obtain ⟨q, hq⟩ : ∃ q, q = Value.slice p' xs.length cap' := ⟨_, rfl⟩
    have Hq := Lib.hid hq
    clear hq
    go_enter Try.func6, Try.ntmps6
    go_wp2_with fail
    refine (implSquare_any _ _ _ _ _ D xs _ (Hd.out.below HB.out) (Hw.out.below HB.out)).mono ?_
    rintro e w1 ⟨rfl, hb⟩
    rw [Hs.out]
    have hsz := HB.out.size
    have HB1 := Lib.hid (HB.out.trans (hb.mono hsz))
    have Z1 := Lib.hid (blk_later Z.out hb)
    clear hb hsz
    go_wp2_with fail
    go_loopg [5, 14] (n + 1) (fun g s5 s14 wr => ∃ i : Nat, i ≤ n + 1 ∧ g = n + 1 - i ∧ s14 = .int .i64 i ∧ Hid (Below w.heap.size w wr) ∧ Hid (wr.heap[w.heap.size]? = some (.cells #[.int .i64 P, .int .i64 (n : Int), .int .i64 (n : Int), .slice p D.length cap] 26 (0, 0))) ∧ Hid (KpUpto P n D xs i))
    case atStart => exact ⟨0, Nat.zero_le _, rfl, rfl, HB1.out, Z1.out, fun a b ha => absurd ha (Nat.not_lt_zero _)⟩
    case round =>
      obtain ⟨i, hi, rfl, rfl, hbi, hzi, hki⟩ := hrel
      obtain ⟨wi, rfl⟩ : ∃ x : World, x = wr := ⟨_, rfl⟩
      by_cases hin : i ≤ n
      · have hin2 : (i : Int) ≤ (n : Int) := by omega
        have hin3 : (i : Int) ≤ (xs.length : Int) := by have := Hn.out; omega
        have hin4 : i < xs.length + 1 := by have := Hn.out; omega
        have hin6 : decide ((i : Int) < (xs.length : Int) + 1) = true := decide_eq_true (by have := Hn.out; omega)
        go_wp2_with fail
        go_loopg [6, 20] (n + 1) (fun g s6 s20 wr => ∃ j : Nat, j ≤ n + 1 ∧ g = n + 1 - j ∧ s20 = .int .i64 j ∧ Hid (Below w.heap.size w wr) ∧ Hid (wr.heap[w.heap.size]? = some (.cells #[.int .i64 P, .int .i64 (n : Int), .int .i64 (n : Int), .slice p D.length cap] 26 (0, 0))) ∧ Hid (∀ b : Nat, b < j → ∀ m, CkIs P n n D i b m → m ≤ (rkL xs b i : Nat)))
        case atStart => exact ⟨0, Nat.zero_le _, rfl, rfl, hbi.out, hzi.out, fun b hb => absurd hb (Nat.not_lt_zero _)⟩
        case round =>
          obtain ⟨j, hj, rfl, rfl, hbj, hzj, hkj⟩ := hrel
          obtain ⟨wj, rfl⟩ : ∃ x : World, x = wr := ⟨_, rfl⟩
          by_cases hjn : j ≤ n
          · have hjn2 : (j : Int) ≤ (n : Int) := by omega
            have hjn3 : (j : Int) ≤ (xs.length : Int) := by have := Hn.out; omega
            have hjn4 : j < xs.length + 1 := by have := Hn.out; omega
            obtain ⟨c0, c1, c2, c3, cf, cz⟩ := blk4 hzj.out
            go_wp2_with fail
            refine (implCornerRank_ex P n n _ D i j _ (Hd.out.below hbj.out)).mono ?_
            rintro e w2 ⟨m, rfl, hck, hb⟩
            have Hck := Lib.hid hck
            have hsz := hbj.out.size
            have HB2 := Lib.hid (hbj.out.trans (hb.mono hsz))
            have Z2 := Lib.hid (blk_later hzj.out hb)
            clear hck hb hsz c0 c1 c2 c3 cf cz
            go_wp2_with fail
            refine (implRankAt_any _ xs i j _ (Hw.out.below HB2.out) Hp.out (by have := Hn.out; omega) (by have := Hn.out; omega) hn7 (by have := Hn.out; omega)).mono ?_
            rintro e w3 ⟨rfl, hb3⟩
            have hsz := HB2.out.size
            have HB3 := Lib.hid (HB2.out.trans (hb3.mono hsz))
            have Z3 := Lib.hid (blk_later Z2.out hb3)
            clear hb3 hsz
            obtain ⟨k, hk⟩ : ∃ k, k = rkL xs j i := ⟨_, rfl⟩
            rw [← hk]
            have Hk := Lib.hid hk
            clear hk
            by_cases hgt : (k : Int) < m
            · go_wp2_with fail
              go_ret
              exact ⟨_, rfl, KpIs.out Hs.out Hn.out (by omega : i ≤ n) (by omega : j ≤ n) Hck.out (by rw [← Hk.out]; exact hgt), HB3.out⟩
            · have hgt2 : decide ((k : Int) < m) = false := decide_eq_false hgt
              skip
              go_wp2_with fail
              go_roundg (n + 1 - (j + 1))
              case measure => omega
              case rel =>
                refine ⟨j + 1, by omega, rfl, by go_num, HB3.out, Z3.out, fun b hb m' hm' => ?_⟩
                by_cases e : b = j
                · subst e
                  rw [hm'.one Hck.out, ← Hk.out]; omega
                · exact hkj.out b (by omega) m' hm'
          · have hjn2 : (n : Int) < (j : Int) := by omega
            have hjn3 : (xs.length : Int) < (j : Int) := by have := Hn.out; omega
            have hjn4 : decide (j < xs.length + 1) = false := decide_eq_false (by have := Hn.out; omega)
            have hjn5 : decide (j ≤ xs.length) = false := decide_eq_false (by have := Hn.out; omega)
            go_wp2_with fail
            go_roundg (n + 1 - (i + 1))
            case measure => omega
            case rel =>
              refine ⟨i + 1, by omega, rfl, by go_num, hbj.out, hzj.out, fun a b ha hb m' hm' => ?_⟩
              by_cases e : a = i
              · subst e; exact hkj.out b (by omega) m' hm'
              · exact hki.out a b (by omega) hb m' hm'
      · have hin2 : (n : Int) < (i : Int) := by omega
        have hin3 : (xs.length : Int) < (i : Int) := by have := Hn.out; omega
        have hin4 : decide (i < xs.length + 1) = false := decide_eq_false (by have := Hn.out; omega)
        have hin5 : decide (i ≤ xs.length) = false := decide_eq_false (by have := Hn.out; omega)
        go_wp2_with fail
        go_ret
        exact ⟨_, rfl, KpIs.yes Hs.out Hn.out fun a b ha hb => hki.out a b (by omega) hb, hbi.out⟩

theorem implKeepsRanks_any (P R C : Int) (d v : Value) (D xs : List Int) (w : World) (hd : Ints w d D) (hw : Ints w v xs) :
    Calls Try.prog 6 #[.agg #[.int .i64 P, .int .i64 R, .int .i64 C, d], v] w fun e w' => e = .returned (.bool (Classical.epsilon (KpIs P R C D xs))) ∧ Below w.heap.size w w' :=
  (implKeepsRanks_ex P R C d v D xs w hd hw).mono fun e w' ⟨b, h1, h2, h3⟩ => ⟨by rw [h1, h2.eps], h3⟩

end Go.Proofs.Ytklpaannmdbmiaa

namespace Go.Proofs.Ytklpaannmdbmiaa
set_option linter.all false
open Go.RowKit

/-- what KeepsEssential returns -/
def KeIs (P R C : Int) (D xs : List Int) (b : Bool) : Prop := b = true ↔ sqOk P R C D xs = true ∧ ∀ i j : Nat, ((i : Int), (j : Int)) ∈ essL xs → ∀ m, CkIs P xs.length xs.length D (i + 1 : Nat) (j + 1 : Nat) m → m ≤ (rkL xs (j + 1 : Nat) (i + 1) : Nat)
theorem KeIs.one {P R C : Int} {D xs : List Int} {b b' : Bool} (h : KeIs P R C D xs b) (h' : KeIs P R C D xs b') : b = b' := by
  unfold KeIs at h h'
  have e : b = true ↔ b' = true := h.trans h'.symm
  cases b <;> cases b' <;> simp_all
theorem KeIs.eps {P R C : Int} {D xs : List Int} {b : Bool} (h : KeIs P R C D xs b) : b = Classical.epsilon (KeIs P R C D xs) := h.one (Classical.epsilon_spec ⟨b, h⟩)
theorem KeIs.no {P R C : Int} {D xs : List Int} (h : sqOk P R C D xs = false) : KeIs P R C D xs false := by
  unfold KeIs; simp [h]
theorem KeIs.out {P R C : Int} {D xs : List Int} {n i j : Nat} {m : Int} (hn : n = xs.length) (hc : ((i : Int), (j : Int)) ∈ essL xs) (hm : CkIs P n n D (i + 1 : Nat) (j + 1 : Nat) m) (hlt : ((rkL xs (j + 1 : Nat) (i + 1) : Nat) : Int) < m) : KeIs P R C D xs false := by
  subst hn
  refine ⟨fun e => absurd e (by decide), fun e => ?_⟩
  have := e.2 i j hc m hm
  omega
theorem KeIs.yes {P R C : Int} {D xs : List Int} {n : Nat} (h : sqOk P R C D xs = true) (hn : n = xs.length) (hk : ∀ i j : Nat, ((i : Int), (j : Int)) ∈ essL xs → ∀ m, CkIs P n n D (i + 1 : Nat) (j + 1 : Nat) m → m ≤ (rkL xs (j + 1 : Nat) (i + 1) : Nat)) : KeIs P R C D xs true := by
  subst hn
  exact ⟨fun _ => ⟨h, hk⟩, fun _ => rfl⟩
theorem ess_nat {xs : List Int} (hp : permOk xs = true) : ∀ c ∈ essL xs, ∃ i j : Nat, c = ((i : Int), (j : Int)) ∧ i < xs.length ∧ j < xs.length := fun c hc => by
  obtain ⟨hl1, hl7, hr, _⟩ := of_decide_eq_true hp
  have hc := (List.mem_filter.1 hc).1
  unfold diagL dgUp at hc
  obtain ⟨i, hi, h⟩ := List.mem_flatMap.1 hc
  have hi : i < xs.length := by simpa using hi
  obtain ⟨j, hj, rfl⟩ := mem_dgIn h
  have := hr _ (getD_mem hi)
  exact ⟨i, j, rfl, hi, by omega⟩
theorem ess_len {xs : List Int} (hp : permOk xs = true) : (essL xs).length ≤ 49 := Nat.le_trans (List.length_filter_le _ _) (diag_len hp)
theorem qt_self {w w' : World} (h : Qt w w') : Below w.heap.size w w' := h.below _
theorem wrap_one (i : Nat) (h : i ≤ 7) : IntKind.i64.wrap ((i : Int) + 1) = ((i + 1 : Nat) : Int) := by
  rw [k64 (by omega) (by omega)]; omega
theorem wrap64_one (i : Nat) (h : i ≤ 7) : wrap64 ((i : Int) + 1) = ((i + 1 : Nat) : Int) := by
  rw [w64 (by omega) (by omega)]; omega

theorem keepE6 {wr W W' : World} {a0 a1 a2 a3 a4 a5 : Addr} {v0 v1 v2 v3 v4 v5 : Value} (hb : Below W.heap.size W W') (h : (W.cell? a0 = some v0 ∧ W.cell? a1 = some v1 ∧ W.cell? a2 = some v2 ∧ W.cell? a3 = some v3 ∧ W.cell? a4 = some v4 ∧ W.cell? a5 = some v5) ∧ Below wr.heap.size wr W) : (W'.cell? a0 = some v0 ∧ W'.cell? a1 = some v1 ∧ W'.cell? a2 = some v2 ∧ W'.cell? a3 = some v3 ∧ W'.cell? a4 = some v4 ∧ W'.cell? a5 = some v5) ∧ Below wr.heap.size wr W' := by
  obtain ⟨⟨h0, h1, h2, h3, h4, h5⟩, hB⟩ := h
  exact ⟨⟨cell_below hb h0, cell_below hb h1, cell_below hb h2, cell_below hb h3, cell_below hb h4, cell_below hb h5⟩, below_trans hB hb⟩

set_option maxRecDepth 100000 in
set_option maxHeartbeats 4000000 in
theorem implKeepsEss_ex (P R C : Int) (d v : Value) (D xs : List Int) (w : World) (hd : Ints w d D) (hw : Ints w v xs) :
    Calls Try.prog 7 #[.agg #[.int .i64 P, .int .i64 R, .int .i64 C, d], v] w fun e w' => ∃ b, e = .returned (.bool b) ∧ KeIs P R C D xs b ∧ Below w.heap.size w w' := by
  have Hd := Lib.hid hd
  have Hw := Lib.hid hw
  obtain ⟨p, cap, rfl, ⟨_, mx⟩, _⟩ := hd
  obtain ⟨p', cap', rfl, ⟨_, mx'⟩, _⟩ := hw
  unfold maxLen at mx mx'
  have HB := Lib.hid (below_alloc w (.cells #[.int .i64 P, .int .i64 R, .int .i64 C, .slice p D.length cap] 26))
  have Z := Lib.hid (heap_alloc_top w (.cells #[.int .i64 P, .int .i64 R, .int .i64 C, .slice p D.length cap] 26))
  cases hs : sqOk P R C D xs with
  | false =>
    have Hs := Lib.hid hs
    clear hs
    go_enter Try.func7, Try.ntmps7
    go_wp2_with fail
    refine (implSquare_any _ _ _ _ _ D xs _ (Hd.out.below HB.out) (Hw.out.below HB.out)).mono ?_
    rintro e w1 ⟨rfl, hb⟩
    rw [Hs.out]
    have hsz := HB.out.size
    have HB := Lib.hid (HB.out.trans (hb.mono hsz))
    clear hb hsz
    go_wp2_with fail
    go_ret
    exact ⟨_, rfl, KeIs.no Hs.out, HB.out⟩
  | true =>
    obtain ⟨hm, hp, hR, hC⟩ := sqOk_facts hs
    obtain ⟨n, hn⟩ : ∃ n, n = xs.length := ⟨_, rfl⟩
    rw [← hn] at hR hC
    subst hR hC
    have Hs := Lib.hid hs
    obtain ⟨r, c, e1, e2, hr, hc0, hc, hlD, hD, hP2, hP7, hpr⟩ := mxOk_facts hm
    have e1 := Int.ofNat.inj e1
    have e2 := Int.ofNat.inj e2
    subst e1
    subst e2
    have Hm := Lib.hid hm
    have Hp := Lib.hid hp
    have Hrg := Lib.hid (fun t => getD_range hD (by omega) t)
    have HlD := Lib.hid hlD
    have Hpr := Lib.hid hpr
    have Hn := Lib.hid hn
    have hel := ess_len hp
    have Hen := Lib.hid (ess_nat hp)
    obtain ⟨es, hes⟩ : ∃ es, es = essL xs := ⟨_, rfl⟩
    rw [← hes] at hel Hen
    have Hes := Lib.hid hes
    clear hs hm hp hlD hD hpr hn hes
    have hn7 : xs.length ≤ 7 := by have := Hn.out; omega
    go_enter Try.func7, Try.ntmps7
    go_wp2_with fail
    refine (implSquare_any _ _ _ _ _ D xs _ (Hd.out.below HB.out) (Hw.out.below HB.out)).mono ?_
    rintro e w1 ⟨rfl, hb⟩
    rw [Hs.out]
    have hsz := HB.out.size
    have HB1 := Lib.hid (HB.out.trans (hb.mono hsz))
    have Z1 := Lib.hid (blk_later Z.out hb)
    clear hb hsz
    go_wp2_with fail
    refine (implEssential_any _ xs _ (Hw.out.below HB1.out) Hp.out).mono ?_
    rintro e w2 ⟨u, rfl, hol, hb2⟩
    rw [← Hes.out] at hol
    obtain ⟨pl, kl, rfl, _, _⟩ := hol.shape
    have Hol := Lib.hid hol.rd
    have HB2 := Lib.hid (HB1.out.trans (hb2.mono HB1.out.size))
    have Z2 := Lib.hid (blk_later Z1.out hb2)
    clear hol hb2
    go_wp2_with fail
    go_loopg [14] es.length (fun g s6 wr => ∃ k : Nat, k ≤ es.length ∧ g = es.length - k ∧ s6 = .int .i64 k ∧ Hid (Below w2.heap.size w2 wr) ∧ Hid (∀ i j : Nat, ((i : Int), (j : Int)) ∈ es.take k → ∀ m, CkIs P n n D (i + 1 : Nat) (j + 1 : Nat) m → m ≤ (rkL xs (j + 1 : Nat) (i + 1) : Nat)))
    case atStart => exact ⟨0, Nat.zero_le _, rfl, rfl, Below.refl _ _, fun i j h => by simp at h⟩
    case round =>
      obtain ⟨k, hk, rfl, rfl, hbk, hok⟩ := hrel
      have HBk := Lib.hid (HB2.out.trans (hbk.out.mono HB2.out.size))
      have hzk := blk_later Z2.out hbk.out
      by_cases hlt : k < es.length
      · have hlt2 : (k : Int) < (es.length : Int) := by omega
        obtain ⟨_, _, e, ⟨hx1, hx2⟩, hxc⟩ := Hol.out
        injection e with e1 _ e3
        subst e1 e3
        obtain ⟨b, rfl, hc'⟩ := hxc (by omega)
        have c1 : wr.cell? ⟨b, k * 2, none⟩ = some (.int .i64 (es.getD k (0, 0)).1) := by rw [hbk.out.cell (World.block_lt_of_cell? _ _ (hc' k hlt).1)]; exact (hc' k hlt).1
        have c2 : wr.cell? ⟨b, k * 2 + 1, none⟩ = some (.int .i64 (es.getD k (0, 0)).2) := by rw [hbk.out.cell (World.block_lt_of_cell? _ _ (hc' k hlt).2)]; exact (hc' k hlt).2
        obtain ⟨e, he⟩ : ∃ e, e = es.getD k (0, 0) := ⟨_, rfl⟩
        rw [← he] at c1 c2
        have ht : es.take (k + 1) = es.take k ++ [e] := by rw [he, List.take_add_one, List.getElem?_eq_getElem hlt, List.getD_eq_getElem?_getD, List.getElem?_eq_getElem hlt]; rfl
        have hmem : e ∈ es := List.mem_of_mem_take (i := k + 1) (by rw [ht]; simp)
        obtain ⟨i, j, rfl, hin, hjn⟩ := Hen.out e hmem
        dsimp only at c1 c2
        have hin2 : i < n := by have := Hn.out; omega
        have hjn2 : j < n := by have := Hn.out; omega
        have Ht := Lib.hid ht
        have Hmem := Lib.hid (show ((i : Int), (j : Int)) ∈ essL xs by rw [← Hes.out]; exact hmem)
        have Hok := Lib.hid hok.out
        have Hbk := Lib.hid hbk.out
        have Hzk := Lib.hid hzk
        have Hwi := Lib.hid (wrap_one i (by omega))
        have Hci := Lib.hid (show (i : Int) + 1 = ((i + 1 : Nat) : Int) by omega)
        have Hcj := Lib.hid (show (j : Int) + 1 = ((j + 1 : Nat) : Int) by omega)
        have Hwj := Lib.hid (wrap_one j (by omega))
        have Hwi2 := Lib.hid (wrap64_one i (by omega))
        have Hwj2 := Lib.hid (wrap64_one j (by omega))
        have hdk := HBk.out.size
        clear hxc hx1 hx2 hc' he ht hmem hok hbk hzk
        have hy := heap_alloc_top wr (.cells #[.int .i64 (i : Int), .int .i64 (j : Int)] 48)
        have hba := below_alloc wr (.cells #[.int .i64 (i : Int), .int .i64 (j : Int)] 48)
        have Hy := Lib.hid hy
        have Hba := Lib.hid hba
        clear hy hba
        go_wp2_with fail
        clear c1 c2
        obtain ⟨y, hyb⟩ : ∃ y, y = wr.heap.size := ⟨_, rfl⟩
        rw [← hyb] at Hy ⊢
        have Hyb := Lib.hid hyb
        clear hyb
        generalize wr.alloc (.cells #[.int .i64 (i : Int), .int .i64 (j : Int)] 48) = wx at *
        obtain ⟨c1, c2, ef, ez⟩ := blk2 Hy.out
        have hzx := blk_later Hzk.out Hba.out
        have Hwx := Lib.hid (HBk.out.trans (Hba.out.mono hdk))
        obtain ⟨m0, m1, m2, m3, mf', mz⟩ := blk4 hzx
        clear hzx
        go_region_held3 (fun w' => (w'.cell? ⟨w.heap.size, 0, none⟩ = some (.int .i64 P) ∧ w'.cell? ⟨w.heap.size, 1, none⟩ = some (.int .i64 (n : Int)) ∧ w'.cell? ⟨w.heap.size, 2, none⟩ = some (.int .i64 (n : Int)) ∧ w'.cell? ⟨w.heap.size, 3, none⟩ = some (.slice p D.length cap) ∧ w'.cell? ⟨y, 0, none⟩ = some (.int .i64 (i : Int)) ∧ w'.cell? ⟨y, 1, none⟩ = some (.int .i64 (j : Int))) ∧ Below wx.heap.size wx w')
          (first | exact ⟨⟨m0, m1, m2, m3, c1, c2⟩, (Below.refl _ _).drew⟩ | exact keepE6 hb1 (by assumption))
          (first
            | (go_at_call 11; (first | rw [Hwi.out, Hwj.out] | rw [Hci.out, Hcj.out]); refine (implCornerRank_ex P n n _ D (i + 1 : Nat) (j + 1 : Nat) _ (held_ints (Hd.out.below Hwx.out) (by assumption))).mono ?_; rintro e w' ⟨m, rfl, hck, hb1⟩; have Hck := Lib.hid hck; clear hck; have hBz : Below wx.heap.size wx w' := below_trans (held_below (by assumption)) hb1)
            | (go_at_call 22; (first | rw [Hwi.out, Hwj.out] | rw [Hci.out, Hcj.out]); refine (implRankAt_any _ xs (i + 1) (j + 1) _ (held_ints (Hw.out.below Hwx.out) (by assumption)) Hp.out (by omega) (by omega) hn7 (by omega)).mono ?_; rintro e w' ⟨rfl, hb1⟩; obtain ⟨q, hq⟩ : ∃ q, q = rkL xs (j + 1 : Nat) (i + 1) := ⟨_, rfl⟩; rw [← hq]; have Hq := Lib.hid hq; clear hq; have hBz : Below wx.heap.size wx w' := below_trans (held_below (by assumption)) hb1))
        all_goals (
          have HBz := Lib.hid (Hwx.out.trans (hBz.mono Hwx.out.size))
          by_cases hgt : (q : Int) < (m : Int))
        all_goals first
          | (go_wp2_with fail
             go_ret
             first
               | exact ⟨_, rfl, KeIs.out Hn.out Hmem.out Hck.out (by rw [← Hq.out]; exact hgt), HBz.out⟩
               | exact Or.inl ⟨rfl, KeIs.out Hn.out Hmem.out Hck.out (by rw [← Hq.out]; exact hgt), HBz.out⟩)
          | (have hgt2 : decide ((q : Int) < (m : Int)) = false := decide_eq_false hgt
             have hgt3 : True := trivial
             go_wp2_with fail
             go_roundg (es.length - (k + 1))
             case measure => omega
             case rel =>
               refine ⟨k + 1, by omega, rfl, by go_num, Hbk.out.trans ((Hba.out.mono Hbk.out.size).trans (hBz.mono (by have := Hba.out.size; have := Hbk.out.size; omega))), fun i' j' h m' hm' => ?_⟩
               rw [Ht.out, List.mem_append] at h
               rcases h with h | h
               · exact Hok.out i' j' h m' hm'
               · have h := List.mem_singleton.1 h
                 injection h with h1 h2
                 obtain rfl := Int.ofNat.inj h1
                 obtain rfl := Int.ofNat.inj h2
                 rw [hm'.one Hck.out, ← Hq.out]; omega)
      · have hk2 : k = es.length := by omega
        subst hk2
        have i1 : ¬ (es.length : Int) < (es.length : Int) := by omega
        rw [List.take_of_length_le (Nat.le_refl _)] at hok
        have Hok := Lib.hid hok.out
        clear hok hzk
        go_wp2_with fail
        go_ret
        first
          | exact ⟨_, rfl, KeIs.yes Hs.out Hn.out (fun i j h => Hok.out i j (by rw [Hes.out]; exact h)), HBk.out⟩
          | exact Or.inr ⟨rfl, KeIs.yes Hs.out Hn.out (fun i j h => Hok.out i j (by rw [Hes.out]; exact h)), HBk.out⟩

theorem implKeepsEss_any (P R C : Int) (d v : Value) (D xs : List Int) (w : World) (hd : Ints w d D) (hw : Ints w v xs) :
    Calls Try.prog 7 #[.agg #[.int .i64 P, .int .i64 R, .int .i64 C, d], v] w fun e w' => e = .returned (.bool (Classical.epsilon (KeIs P R C D xs))) ∧ Below w.heap.size w w' :=
  (implKeepsEss_ex P R C d v D xs w hd hw).mono fun e w' ⟨b, h1, h2, h3⟩ => ⟨by rw [h1, h2.eps], h3⟩

end Go.Proofs.Ytklpaannmdbmiaa

namespace Go.Proofs.Ytklpaannmdbmiaa
set_option linter.all false
open Go.RowKit

/-- one permutation below another one, by the ranks -/
def blwB (v w : List Int) : Bool := (List.range (v.length + 1)).all fun r => (List.range (v.length + 1)).all fun c => decide (rkL w (c : Int) r ≤ rkL v (c : Int) r)
/-- a check that all pairs of permutations of at most four pass -/
def pair4 (B : List Int → List Int → Bool) : Bool := (List.range 5).all fun n => (permsL n).all fun v => (permsL n).all fun w => !decide (1 ≤ n) || B v w
theorem pair4_at {B : List Int → List Int → Bool} (h : pair4 B = true) {v w : List Int} {n : Nat} (hv : P5 n v) (hw : P5 n w) (h4 : n ≤ 4) : B v w = true := by
  unfold pair4 at h
  rw [List.all_eq_true] at h
  have a := h n (List.mem_range.2 (by omega))
  rw [List.all_eq_true] at a
  have mv := perm_mem hv.ok (by rw [hv.len]; omega)
  have mw := perm_mem hw.ok (by rw [hw.len]; omega)
  rw [hv.len] at mv
  rw [hw.len] at mw
  have b := a v mv
  rw [List.all_eq_true] at b
  have c := b w mw
  have : 1 ≤ n := by have := hv.ok; simp only [permOk, decide_eq_true_eq] at this; have := hv.len; omega
  simpa [this] using c
def bruB (v w : List Int) : Bool := (List.range (v.length - 1)).all fun k => !ascB k w || decide (blwB v (sw k w) = (blwB v w || (!ascB k v && blwB (sw k v) w)))
def blidB (v : List Int) : Bool := decide (blwB v (idL v.length) = decide (idL v.length = v)) && (decide (lnN v = 0) || (List.range (v.length - 1)).any fun k => !ascB k v)
set_option maxRecDepth 100000 in
theorem bru_all : pair4 bruB = true := by decide +kernel
set_option maxRecDepth 100000 in
theorem blid_all : all5 blidB = true := by decide +kernel
theorem bru_at {n : Nat} {v w : List Int} (hv : P5 n v) (hw : P5 n w) (h4 : n ≤ 4) {k : Nat} (hk : k + 1 < n) (ha : ascB k w = true) : blwB v (sw k w) = (blwB v w || (!ascB k v && blwB (sw k v) w)) := by
  have := pair4_at bru_all hv hw h4
  simp only [bruB, List.all_eq_true, List.mem_range] at this
  have := this k (by rw [hv.len]; omega)
  rw [ha] at this
  simpa using this
theorem blid_at {n : Nat} {v : List Int} (hv : P5 n v) : blwB v (idL n) = decide (idL n = v) ∧ (lnN v = 0 ∨ ∃ k, k + 1 < n ∧ ascB k v = false) := by
  have := all5_at blid_all hv.ok (by have := hv.len; have := hv.le; omega)
  simp only [blidB, Bool.and_eq_true, decide_eq_true_eq, Bool.or_eq_true, List.any_eq_true, List.mem_range] at this
  rw [hv.len] at this
  refine ⟨this.1, this.2.imp_right fun ⟨k, hk, h⟩ => ⟨k, by omega, by simpa using h⟩⟩
theorem id_of_len {n : Nat} {w : List Int} (hw : P5 n w) (h0 : lnN w = 0) : w = idL n := by
  have := (wrd_at hw).1
  unfold fstL at this
  rw [h0] at this
  exact this.symm
theorem len_desc {n : Nat} {w : List Int} (hw : P5 n w) {k : Nat} (hk : k + 1 < n) (ha : ascB k w = false) : lnN (sw k w) + 1 = lnN w := by
  have a := (wrd_at hw).2.2.2
  have b := (wrd_at (hw.sw hk)).2.2.2
  have c := (hw.desc hk ha).1
  omega
end Go.Proofs.Ytklpaannmdbmiaa

namespace Go.Proofs.Ytklpaannmdbmiaa
set_option linter.all false
open Go.RowKit

/-- a square matrix and a permutation of its size -/
structure RkD (P : Int) (n : Nat) (D xs : List Int) : Prop where
  pr : primeOk P = true
  n1 : 1 ≤ n
  x : P5 n xs
  len : D.length = n * n
  rng : ∀ t, t < n * n → 0 ≤ D.getD t 0 ∧ D.getD t 0 < P
noncomputable abbrev crD (P : Int) (n : Nat) (D : List Int) : Nat → Nat → Nat := crn P n (mf n fun t => D.getD t 0)
namespace RkD
variable {P : Int} {n : Nat} {D D' xs : List Int} {b b' : Bool}
theorem mx (h : RkD P n D xs) : mxOk P n n D = true := by
  have h5 := h.x.le
  have h1 := h.n1
  refine decide_eq_true ⟨h.pr, ⟨by omega, by omega⟩, ⟨by omega, by omega⟩, by rw [h.len]; exact Int.natCast_mul n n, fun x hx => ?_⟩
  obtain ⟨t, ht, rfl⟩ := List.getElem_of_mem hx
  have := h.rng t (by rw [← h.len]; exact ht)
  rwa [getD_lt ht] at this
theorem sq (h : RkD P n D xs) : sqOk P n n D xs = true := sqOk_yes h.mx h.x.ok (by rw [h.x.len]) (by rw [h.x.len])
theorem mr (h : RkD P n D xs) : ∀ i j, i < n → j < n → 0 ≤ mf n (fun t => D.getD t 0) i j ∧ mf n (fun t => D.getD t 0) i j < P := fun i j hi hj => h.rng _ (flat_lt hi hj)
theorem rgD (h : RkD P n D xs) : RngD P n D := ⟨h.len, fun i c hi hc => h.rng _ (flat_lt hi hc)⟩
theorem hr (h : RkD P n D xs) {i j : Nat} (hi : i ≤ n) (hj : j ≤ n) : HasRank P j i (mf n fun t => D.getD t 0) (crD P n D i j) := crn_ex h.pr h.mr hi hj
theorem ck (h : RkD P n D xs) {i j : Nat} (hi : i ≤ n) (hj : j ≤ n) : CkIs P n n D i j (crD P n D i j : Nat) := CkIs.yes h.mx hi hj (h.hr hi hj)
theorem essn (h : RkD P n D xs) {i j : Nat} (hij : ((i : Int), (j : Int)) ∈ essL xs) : i < n ∧ j + 1 ≤ n := by
  obtain ⟨i', j', e, h1, h2⟩ := ess_nat h.x.ok _ hij
  injection e with e1 e2
  rw [h.x.len] at h1 h2
  omega
theorem kp (h : RkD P n D xs) (hk : KpIs P n n D xs b) : b = true ↔ ∀ i j : Nat, i ≤ n → j ≤ n → crD P n D i j ≤ rkL xs (j : Int) i := by
  unfold KpIs at hk
  rw [hk, h.x.len]
  refine ⟨fun e i j hi hj => ?_, fun e => ⟨h.sq, fun i j hi hj m hm => ?_⟩⟩
  · have := e.2 i j (by omega) hj _ (h.ck hi hj)
    omega
  · obtain rfl := hm.one (h.ck (by omega) hj)
    have := e i j (by omega) hj
    omega
theorem ke (h : RkD P n D xs) (hk : KeIs P n n D xs b) : b = true ↔ ∀ i j : Nat, i ≤ n → j ≤ n → crD P n D i j ≤ rkL xs (j : Int) i := by
  unfold KeIs at hk
  rw [hk, h.x.len]
  refine ⟨fun e i j hi hj => ?_, fun e => ⟨h.sq, fun i j hij m hm => ?_⟩⟩
  · refine ess_all h.x (crn_step h.pr h.mr) (fun i j hij => ?_) (i + j) i j (Nat.le_refl _) hi hj
    obtain ⟨h1, h3⟩ := h.essn hij
    have := e.2 i j hij _ (h.ck (show i + 1 ≤ n by omega) h3)
    exact Int.ofNat_le.1 this
  · obtain ⟨h1, h3⟩ := h.essn hij
    obtain rfl := hm.one (h.ck (show i + 1 ≤ n by omega) h3)
    exact Int.ofNat_le.2 (e (i + 1) (j + 1) (by omega) h3)
theorem eq_of (h1 : b = true ↔ b' = true) : b = b' := by cases b <;> cases b' <;> simp_all
theorem kp_ke (h : RkD P n D xs) (hk : KpIs P n n D xs b) (he : KeIs P n n D xs b') : b = b' := eq_of ((h.kp hk).trans (h.ke he).symm)
theorem crS (h : RkD P n D xs) (h' : RkD P n D' xs) (hs : SameC P n D D') {i j : Nat} (hi : i ≤ n) (hj : j ≤ n) : crD P n D' i j = crD P n D i j := crn_is h'.pr h'.mr hi hj (hs i j _ hi hj (h.hr hi hj))
theorem kpS (h : RkD P n D xs) (h' : RkD P n D' xs) (hs : SameC P n D D') (hk : KpIs P n n D xs b) (hk' : KpIs P n n D' xs b') : b' = b := by
  refine eq_of ((h'.kp hk').trans (Iff.trans ?_ (h.kp hk).symm))
  exact ⟨fun e i j hi hj => by rw [← h.crS h' hs hi hj]; exact e i j hi hj, fun e i j hi hj => by rw [h.crS h' hs hi hj]; exact e i j hi hj⟩
theorem rkS (h : RkD P n D xs) (h' : RkD P n D' xs) (hs : SameC P n D D') {r r' : Int} (hk : CkIs P n n D' (n : Nat) (n : Nat) r) (hr : RkIs P n n D r') : r = r' := by
  obtain rfl := hk.one (h'.ck (Nat.le_refl n) (Nat.le_refl n))
  unfold RkIs at hr
  rw [if_pos h.mx] at hr
  obtain ⟨m, rfl, _, hm⟩ := hr
  have := crn_is h'.pr h'.mr (Nat.le_refl n) (Nat.le_refl n) (hs n n m (Nat.le_refl n) (Nat.le_refl n) hm)
  exact Int.ofNat_inj.2 this
/-- the matrix of a permutation -/
theorem perm {vs : List Int} (hp : primeOk P = true) (h1 : 1 ≤ n) (hv : P5 n vs) (hx : P5 n xs) : RkD P n (permRows vs).flatten xs := by
  refine ⟨hp, h1, hx, by rw [permRows_flat_length, hv.len], fun t ht => ?_⟩
  have hn : 0 < n := by omega
  have h1 : t / n < n := Nat.div_lt_of_lt_mul ht
  have h2 : t % n < n := Nat.mod_lt _ hn
  have : (permRows vs).flatten.getD (t / n * n + t % n) 0 = if ((t % n : Nat) : Int) = vs.getD (t / n) 0 then 1 else 0 := permRows_mf hv.len h1 h2
  have e : t / n * n + t % n = t := Nat.div_add_mod' t n
  rw [e] at this
  rw [this]
  have := (primeOk_range hp).1
  split <;> omega
theorem perm_cr {vs : List Int} (hp : primeOk P = true) (h1 : 1 ≤ n) (hv : P5 n vs) {i j : Nat} (hi : i ≤ n) (hj : j ≤ n) : crD P n (permRows vs).flatten i j = rkL vs (j : Int) i :=
  crn_is hp (perm hp h1 hv hv).mr hi hj (perm_crn hp hv (fun i j hi hj => permRows_mf hv.len hi hj) hj i hi)
theorem perm_kp {vs : List Int} (hp : primeOk P = true) (h1 : 1 ≤ n) (hv : P5 n vs) (hx : P5 n xs) (hk : KpIs P n n (permRows vs).flatten xs b) : b = true ↔ ∀ i j : Nat, i ≤ n → j ≤ n → rkL vs (j : Int) i ≤ rkL xs (j : Int) i := by
  rw [(perm hp h1 hv hx).kp hk]
  exact ⟨fun e i j hi hj => by rw [← perm_cr hp h1 hv hi hj]; exact e i j hi hj, fun e i j hi hj => by rw [perm_cr hp h1 hv hi hj]; exact e i j hi hj⟩
theorem perm_self (hp : primeOk P = true) (h1 : 1 ≤ n) (hx : P5 n xs) (hk : KpIs P n n (permRows xs).flatten xs b) : b = true := (perm_kp hp h1 hx hx hk).2 fun _ _ _ _ => Nat.le_refl _
theorem perm_blw {vs : List Int} (hp : primeOk P = true) (h1 : 1 ≤ n) (hv : P5 n vs) (hx : P5 n xs) (hk : KpIs P n n (permRows vs).flatten xs b) : b = blwB xs vs := by
  refine eq_of ((perm_kp hp h1 hv hx hk).trans ?_)
  unfold blwB
  simp only [List.all_eq_true, List.mem_range, decide_eq_true_eq, hx.len]
  exact ⟨fun e i hi j hj => e i j (by omega) (by omega), fun e i j hi hj => e i (by omega) j (by omega)⟩
end RkD

end Go.Proofs.Ytklpaannmdbmiaa

namespace Go.Proofs.Ytklpaannmdbmiaa
set_option linter.all false
open Go.RowKit

theorem pm1 (P : Int) (v : Value) (xs : List Int) (n : Nat) (D : List Int) (w : World) (hd : Ints w v xs) (h : permMx P xs = ⟨P, n, n, D⟩) :
    Calls Try.prog 8 #[.int .i64 P, v] w fun e w' =>
      ∃ (p : Option Addr) (k : Nat), e = .returned (.agg #[.int .i64 P, .int .i64 (n : Int), .int .i64 (n : Int), .slice p D.length k]) ∧ OwnI 3 w' w.heap.size w'.heap.size (.slice p D.length k) D ∧ Below w.heap.size w w' := by
  refine (implPermMatrix_any P v xs w hd).mono ?_
  rintro e w' ⟨u, h1, h2, h3⟩
  rw [h] at h1 h2
  obtain ⟨p, k, rfl, _, _⟩ := h2.shape
  exact ⟨p, k, h1, h2, h3⟩
/-- the normal form DM and the permutation DW of the flag D -/
def NfP (P : Int) (n : Nat) (D DM DW : List Int) : Prop := IsFl P n n D ∧ ∃ X q, NfOf P n D X q ∧ DM = flatM n n X ∧ DW = qL n q
section
variable {P : Int} {n : Nat} {D DM DW : List Int}
theorem NfP.of (hf : IsFl P n n D) (h : NfIs P n n D ⟨P, n, n, DM⟩ true) (h2 : FpIs P n n D DW) : NfP P n D DM DW := by
  obtain ⟨_, X, q, h3, e⟩ := NfIs.of hf h
  injection e with _ _ _ e
  exact ⟨hf, X, q, h3, e, h3.perm hf h2⟩
theorem nf_flag (hf : IsFl P n n D) (h : NfIs P n n D ⟨P, n, n, DM⟩ true) : IsFl P n n DM := by
  obtain ⟨_, X, q, h3, e⟩ := NfIs.of hf h
  injection e with _ _ _ e
  subst e
  exact h3.fl hf
theorem nf_twice {DN : List Int} (hf : IsFl P n n D) (h : NfIs P n n D ⟨P, n, n, DM⟩ true) (h2 : NfIs P n n DM ⟨P, n, n, DN⟩ true) : DN = DM := by
  obtain ⟨_, X, q, h3, e⟩ := NfIs.of hf h
  injection e with _ _ _ e
  subst e
  have := (h3.again hf h2).2
  injection this
theorem NfP.againP (h : NfP P n D DM DW) {l : List Int} (h2 : FpIs P n n DM l) : l = DW := by
  obtain ⟨hf, X, q, h3, rfl, rfl⟩ := h
  exact h3.againP hf h2
theorem NfP.pos (h : NfP P n D DM DW) {l : List Int} (h2 : RpIs P n n D P n n DM l) : l = idL n := by
  obtain ⟨hf, X, q, h3, rfl, rfl⟩ := h
  exact h3.pos hf h2
theorem NfP.added (h : NfP P n D DM DW) {D' DN : List Int} (ha : AddUp P n D D' n) (h2 : NfIs P n n D' ⟨P, n, n, DN⟩ true) : DN = DM := by
  obtain ⟨hf, X, q, h3, rfl, rfl⟩ := h
  have := (h3.added hf ha h2).2
  injection this
theorem NfP.pm (h : NfP P n D DM DW) : ∃ DP, permMx P DW = ⟨P, n, n, DP⟩ ∧ IsFl P n n DP ∧ ∀ l, FpIs P n n DP l → l = DW := by
  obtain ⟨hf, X, q, h3, rfl, rfl⟩ := h
  exact ⟨_, h3.pm hf, h3.pmFl hf, fun l h2 => h3.pmP hf h2⟩
end

end Go.Proofs.Ytklpaannmdbmiaa

namespace Go.Proofs.Ytklpaannmdbmiaa
set_option linter.all false
open Go.RowKit

theorem blw_no {v w : List Int} {n r c : Nat} (hv : v.length = n) (hr : r ≤ n) (hc : c ≤ n) (h : rkL v (c : Int) r < rkL w (c : Int) r) : blwB v w = false := by
  cases e : blwB v w with
  | false => rfl
  | true =>
    simp only [blwB, List.all_eq_true, List.mem_range, decide_eq_true_eq] at e
    have := e r (by omega) c (by omega)
    omega
theorem blw_yes {v w : List Int} {n : Nat} (hv : v.length = n) (h : ∀ r c, r ≤ n → c ≤ n → rkL w (c : Int) r ≤ rkL v (c : Int) r) : blwB v w = true := by
  simp only [blwB, List.all_eq_true, List.mem_range, decide_eq_true_eq]
  exact fun r hr c hc => h r c (by omega) (by omega)

set_option maxRecDepth 100000 in
set_option maxHeartbeats 4000000 in
theorem implBelow_any (n : Nat) (pv pw : Value) (vs ws : List Int) (w : World) (hv : P5 n vs) (hw : P5 n ws) (h1 : 1 ≤ n) (iv' : Ints w pv vs) (iw : Ints w pw ws) :
    Calls Try.prog 13 #[pv, pw] w fun e w' => e = .returned (.bool (blwB vs ws)) ∧ Below w.heap.size w w' := by
  have HV := Lib.hid iv'
  have HW := Lib.hid iw
  have Hv := Lib.hid hv
  have Hw := Lib.hid hw
  have h5 := hv.le
  obtain ⟨av, cv, rfl, ⟨hv1, hv2⟩, _⟩ := iv'
  obtain ⟨aw, cw, rfl, ⟨hw1, hw2⟩, _⟩ := iw
  unfold maxLen at hv2 hw2
  rw [hv.len] at HV hv1 ⊢
  rw [hw.len] at HW hw1 ⊢
  clear hv hw
  go_enter Try.func13, Try.ntmps13
  go_wp2_with fail
  refine (implIsPerm_b _ vs true Hv.out.ok _ HV.out).mono ?_
  rintro e w1 ⟨rfl, hb1⟩
  have HB1 := Lib.hid hb1
  clear hb1
  go_wp2_with fail
  refine (implIsPerm_b _ ws true Hw.out.ok _ (HW.out.below HB1.out)).mono ?_
  rintro e w2 ⟨rfl, hb2⟩
  have HB2 := Lib.hid (below_trans HB1.out hb2)
  clear hb2
  go_wp2_with fail
  go_loopg [5, 6, 25] (n + 1) (fun g s5 s6 s25 wr => ∃ r : Nat, r ≤ n + 1 ∧ g = n + 1 - r ∧ s25 = .int .i64 (r : Int) ∧ Hid (∀ r' c, r' < r → c ≤ n → rkL ws (c : Int) r' ≤ rkL vs (c : Int) r') ∧ Hid (Below w.heap.size w wr))
  case atStart => exact ⟨0, Nat.zero_le _, rfl, rfl, Lib.hid fun r' c h _ => absurd h (Nat.not_lt_zero _), HB2⟩
  case round =>
    obtain ⟨r, hr, rfl, rfl, hp, hb⟩ := hrel
    obtain ⟨wx, rfl⟩ : ∃ x : World, x = wr := ⟨_, rfl⟩
    have Hp := Lib.hid hp.out
    have Hb := Lib.hid hb.out
    clear hp hb
    by_cases hrn : r < n + 1
    · have hri : (r : Int) < (n : Int) + 1 := by omega
      go_wp2_with fail
      go_loopg [6, 31] (n + 1) (fun g s6 s31 wr => ∃ c : Nat, c ≤ n + 1 ∧ g = n + 1 - c ∧ s31 = .int .i64 (c : Int) ∧ Hid (∀ c', c' < c → rkL ws (c' : Int) r ≤ rkL vs (c' : Int) r) ∧ Hid (Below w.heap.size w wr))
      case atStart => exact ⟨0, Nat.zero_le _, rfl, rfl, Lib.hid fun c h => absurd h (Nat.not_lt_zero _), Hb⟩
      case round =>
        obtain ⟨c, hc, rfl, rfl, hp, hb⟩ := hrel
        obtain ⟨wy, rfl⟩ : ∃ x : World, x = wr := ⟨_, rfl⟩
        have Hq := Lib.hid hp.out
        have Hb1 := Lib.hid hb.out
        clear hp hb
        by_cases hcn : c < n + 1
        · have hci : (c : Int) < (n : Int) + 1 := by omega
          obtain ⟨a, ha⟩ : ∃ a, a = rkL vs (c : Int) r := ⟨_, rfl⟩
          obtain ⟨b, hb⟩ : ∃ b, b = rkL ws (c : Int) r := ⟨_, rfl⟩
          have Ha := Lib.hid ha
          have Hbb := Lib.hid hb
          clear ha hb
          go_wp2_with fail
          refine (implRankAt_any _ vs r c _ (HV.out.below Hb1.out) Hv.out.ok (by rw [Hv.out.len]; omega) (by rw [Hv.out.len]; omega) (by rw [Hv.out.len]; omega) (by rw [Hv.out.len]; omega)).mono ?_
          rintro e w3 ⟨rfl, hb3⟩
          rw [← Ha.out]
          have Hb3 := Lib.hid (Hb1.out.trans (hb3.mono Hb1.out.size))
          clear hb3
          go_wp2_with fail
          refine (implRankAt_any _ ws r c _ (HW.out.below Hb3.out) Hw.out.ok (by rw [Hw.out.len]; omega) (by rw [Hw.out.len]; omega) (by rw [Hw.out.len]; omega) (by rw [Hw.out.len]; omega)).mono ?_
          rintro e w4 ⟨rfl, hb4⟩
          rw [← Hbb.out]
          have Hb4 := Lib.hid (Hb3.out.trans (hb4.mono Hb3.out.size))
          clear hb4
          by_cases hab : a < b
          · have habi : (a : Int) < (b : Int) := by omega
            go_wp2_with fail
            go_ret
            exact ⟨ret_bool (blw_no Hv.out.len (show r ≤ n by omega) (show c ≤ n by omega) (by rw [← Ha.out, ← Hbb.out]; exact hab)).symm, Hb4.out⟩
          · have habi : ¬ (a : Int) < (b : Int) := by omega
            go_wp2_with fail
            go_roundg (n + 1 - (c + 1))
            case measure => omega
            case rel =>
              refine ⟨c + 1, by omega, rfl, by go_num, Lib.hid fun c' h => ?_, Hb4⟩
              by_cases e : c' = c
              · rw [e, ← Ha.out, ← Hbb.out]; omega
              · exact Hq.out c' (by omega)
        · have hci : ¬ (c : Int) < (n : Int) + 1 := by omega
          go_wp2_with fail
          go_roundg (n + 1 - (r + 1))
          case measure => omega
          case rel =>
            refine ⟨r + 1, by omega, rfl, by go_num, Lib.hid fun r' c' h hc' => ?_, Hb1⟩
            by_cases e : r' = r
            · rw [e]; exact Hq.out c' (by omega)
            · exact Hp.out r' c' (by omega) hc'
    · have hri : ¬ (r : Int) < (n : Int) + 1 := by omega
      go_wp2_with fail
      go_ret
      exact ⟨ret_bool (blw_yes Hv.out.len fun r' c' h hc' => Hp.out r' c' (by omega) hc').symm, Hb.out⟩

end Go.Proofs.Ytklpaannmdbmiaa

namespace Go.Proofs.Ytklpaannmdbmiaa
set_option linter.all false
open Go.RowKit

theorem kx1 (P : Int) (n : Nat) (d v : Value) (DM DX xs : List Int) (kb : Bool) (w : World) (h : RkD P n DM xs) (h' : RkD P n DX xs) (hs : SameC P n DM DX) (hk : KpIs P n n DM xs kb) (hd : Ints w d DX) (hv : Ints w v xs) :
    Calls Try.prog 6 #[.agg #[.int .i64 P, .int .i64 (n : Int), .int .i64 (n : Int), d], v] w fun e w' => e = .returned (.bool kb) ∧ Below w.heap.size w w' := by
  refine (implKeepsRanks_ex P n n d v DX xs w hd hv).mono ?_
  rintro e w' ⟨b, rfl, h1, h2⟩
  exact ⟨by rw [h.kpS h' hs hk h1], h2⟩
theorem kq1 (P : Int) (n : Nat) (d v : Value) (vs xs D : List Int) (kb : Bool) (w : World) (hp : primeOk P = true) (h1 : 1 ≤ n) (hV : P5 n vs) (hX : P5 n xs) (hb : blwB xs vs = kb) (hD : D = (permRows vs).flatten) (hd : Ints w d D) (hv : Ints w v xs) :
    Calls Try.prog 6 #[.agg #[.int .i64 P, .int .i64 (n : Int), .int .i64 (n : Int), d], v] w fun e w' => e = .returned (.bool kb) ∧ Below w.heap.size w w' := by
  subst hD
  refine (implKeepsRanks_ex P n n d v _ xs w hd hv).mono ?_
  rintro e w' ⟨b, rfl, h3, h2⟩
  exact ⟨by rw [RkD.perm_blw hp h1 hV hX h3, hb], h2⟩
theorem blw_self {n : Nat} {xs : List Int} : blwB xs xs = true := by
  unfold blwB
  simp [List.all_eq_true]
theorem cr1 (P : Int) (n : Nat) (d : Value) (D xs : List Int) (r0 : Int) (w : World) (h : RkD P n D xs) (e : ((crD P n D n n : Nat) : Int) = r0) (hd : Ints w d D) :
    Calls Try.prog 11 #[.agg #[.int .i64 P, .int .i64 (n : Int), .int .i64 (n : Int), d], .int .i64 (n : Int), .int .i64 (n : Int)] w fun e w' => e = .returned (.int .i64 r0) ∧ Below w.heap.size w w' := by
  refine (implCornerRank_ex P n n d D n n w hd).mono ?_
  rintro e w' ⟨r, rfl, h1, h2⟩
  exact ⟨by rw [h1.one (h.ck (Nat.le_refl n) (Nat.le_refl n)), e], h2⟩
theorem ro1 (P : Int) (n : Nat) (d : Value) (D xs : List Int) (r0 : Int) (w : World) (h : RkD P n D xs) (e : ((crD P n D n n : Nat) : Int) = r0) (hd : Ints w d D) :
    Calls Try.prog 12 #[.agg #[.int .i64 P, .int .i64 (n : Int), .int .i64 (n : Int), d]] w fun e w' => e = .returned (.int .i64 r0) ∧ Below w.heap.size w w' := by
  refine (implRankOf_ex P n n d D w hd).mono ?_
  rintro e w' ⟨r, rfl, h1, h2⟩
  refine ⟨?_, h2⟩
  have := h.rkS h (SameC.refl P n D) (h.ck (Nat.le_refl n) (Nat.le_refl n)) h1
  rw [← this, e]
theorem permMx_p5 {P : Int} {n : Nat} {xs : List Int} (hp : primeOk P = true) (hx : P5 n xs) : permMx P xs = ⟨P, n, n, (permRows xs).flatten⟩ := by
  unfold permMx
  rw [hp, hx.ok, hx.len]; rfl
theorem pm2 (P : Int) (v : Value) (xs : List Int) (n : Nat) (w : World) (hp : primeOk P = true) (hx : P5 n xs) (hd : Ints w v xs) :
    Calls Try.prog 8 #[.int .i64 P, v] w fun e w' =>
      ∃ (p : Option Addr) (k : Nat) (D : List Int), e = .returned (.agg #[.int .i64 P, .int .i64 (n : Int), .int .i64 (n : Int), .slice p D.length k]) ∧ Ints w' (.slice p D.length k) D ∧ Below w.heap.size w w' ∧ D = (permRows xs).flatten := by
  refine (pm1 P v xs n _ w hd (permMx_p5 hp hx)).mono ?_
  rintro e w' ⟨p, k, rfl, h2, h3⟩
  exact ⟨p, k, _, rfl, h2.ints, h3, rfl⟩
theorem below1 (n : Nat) (pv pw : Value) (vs ws : List Int) (bb : Bool) (w : World) (hv : P5 n vs) (hw : P5 n ws) (h1 : 1 ≤ n) (e : blwB vs ws = bb) (iv' : Ints w pv vs) (iw : Ints w pw ws) :
    Calls Try.prog 13 #[pv, pw] w fun e w' => e = .returned (.bool bb) ∧ Below w.heap.size w w' := e ▸ implBelow_any n pv pw vs ws w hv hw h1 iv' iw
theorem RkD.rebuilt {P : Int} {n : Nat} {D D' xs : List Int} (h : RkD P n D xs) (hr : RngD P n D') : RkD P n D' xs := by
  refine ⟨h.pr, h.n1, h.x, hr.1, fun t ht => ?_⟩
  have h1 : t / n < n := Nat.div_lt_of_lt_mul ht
  have h2 : t % n < n := Nat.mod_lt _ h.n1
  have := hr.2 (t / n) (t % n) h1 h2
  rwa [Nat.div_add_mod' t n] at this
theorem RngD.setR {P : Int} {n : Nat} {D : List Int} {t : Nat} {v : Int} (h : RngD P n D) (ht : t < n * n) (hv : 0 ≤ v ∧ v < P) : RngD P n (D.set t v) := by
  refine ⟨by rw [List.length_set, h.1], fun i c hi hc => ?_⟩
  have e : (D.set t v).getD (i * n + c) 0 = if i * n + c = t then v else D.getD (i * n + c) 0 := by
    by_cases e1 : i * n + c = t
    · simp [List.getD_eq_getElem?_getD, e1, h.1, ht]
    · simp [List.getD_eq_getElem?_getD, List.getElem?_set, e1, show ¬ t = i * n + c from fun c => e1 c.symm]
  rw [e]
  split
  · exact hv
  · exact h.2 i c hi hc

end Go.Proofs.Ytklpaannmdbmiaa

namespace Go.Proofs.Ytklpaannmdbmiaa
set_option linter.all false
open Go.RowKit

theorem flS_call {w : World} {k : Nat} {P : Int} {n N bA bL bH gl kl gh kh la : Nat} {vA : Value} {DA : List Int} {W w' : World} {c : Prop} (h : c ∧ Hid (FlS w k P n N bA bL bH gl kl gh kh la vA DA W)) (hn : FlN w k n N bA bL bH gl gh la) (hf : Frm k (k + 1) W w') (hc : Cur w' k) : Hid (FlS w k P n N bA bL bH gl kl gh kh la vA DA w') := h.2.out.frm hn hf hc
theorem idx_facts {K i N : Nat} (h : K + i < N) (hN : N ≤ 1000000) : Hid (wrap64 ((K : Int) + (i : Int)) = (K : Int) + (i : Int)) ∧ Hid (IntKind.i64.wrap ((K : Int) + (i : Int)) = (K : Int) + (i : Int)) ∧ (0 : Int) ≤ (K : Int) + i ∧ (K : Int) + i < (N : Int) ∧ ((K : Int) + (i : Int)).toNat = K + i := by
  have h0 : -1000000000000000000 ≤ (K : Int) + (i : Int) := by omega
  have h1 : (K : Int) + (i : Int) ≤ 1000000000000000000 := by omega
  exact ⟨w64 h0 h1, k64 h0 h1, by omega, by omega, by omega⟩
theorem wrap_1x {x p : Nat} (h : x < p - 1) (hp : p ≤ 256) : IntKind.i64.wrap (1 + (x : Int)) = 1 + (x : Int) := k64 (by omega) (by omega)
theorem bound_one {x p : Nat} (h : x < p - 1) (hp : p ≤ 256) : 0 ≤ IntKind.i64.wrap (1 + (x : Int)) ∧ IntKind.i64.wrap (1 + (x : Int)) < (p : Int) := by rw [wrap_1x h hp]; omega
theorem bound_two {x p : Nat} (h : x < p - 1) (hp : p ≤ 256) : (1 : Int) ≤ IntKind.i64.wrap (1 + (x : Int)) := by rw [wrap_1x h hp]; omega
theorem bound_x {x p : Nat} (h : x < p) : 0 ≤ (x : Int) ∧ (x : Int) < (p : Int) := by omega
theorem mul_row {i n N j : Nat} (hN : N = n * n) (hb : N ≤ 1000000) (hi : i < n) (hj : j < n) : ∃ K, Hid (K = i * n) ∧ Hid (wrap64 ((i : Int) * (n : Int)) = (K : Int)) ∧ Hid (IntKind.i64.wrap ((i : Int) * (n : Int)) = (K : Int)) ∧ K + j < N := by
  have h := flat_ltW (C := n) hi hj
  rw [← hN] at h
  obtain ⟨K, hK, h1, h2⟩ := mul_named i n (by omega)
  exact ⟨K, hK, h1, h2, by omega⟩
theorem FlS.drew {w : World} {k : Nat} {P : Int} {n N bA bL bH gl kl gh kh la : Nat} {vA : Value} {DA : List Int} {wr : World} (h : FlS w k P n N bA bL bH gl kl gh kh la vA DA wr) (hn : FlN w k n N bA bL bH gl gh la) : FlS w k P n N bA bL bH gl kl gh kh la vA DA wr.drew := h.drewN hn 1
theorem flS_holdL {w : World} {k : Nat} {P : Int} {n N bA bL bH gl kl gh kh la : Nat} {vA : Value} {DA : List Int} {W : World} (h : FlS w k P n N bA bL bH gl kl gh kh la vA DA W) : W.cell? ⟨bL, 3, none⟩ = some (.slice (some ⟨gl, 0, none⟩) N kl) ∧ Hid (FlS w k P n N bA bL bH gl kl gh kh la vA DA W) := ⟨(blk4 h.l).2.2.2.1, h⟩
theorem flS_holdH {w : World} {k : Nat} {P : Int} {n N bA bL bH gl kl gh kh la : Nat} {vA : Value} {DA : List Int} {W : World} (h : FlS w k P n N bA bL bH gl kl gh kh la vA DA W) : W.cell? ⟨bH, 3, none⟩ = some (.slice (some ⟨gh, 0, none⟩) N kh) ∧ Hid (FlS w k P n N bA bL bH gl kl gh kh la vA DA W) := ⟨(blk4 h.h).2.2.2.1, h⟩
theorem flS_cur {w : World} {k : Nat} {P : Int} {n N bA bL bH gl kl gh kh la : Nat} {vA : Value} {DA : List Int} {W : World} {c : Prop} (h : c ∧ Hid (FlS w k P n N bA bL bH gl kl gh kh la vA DA W)) : Cur W k := h.2.out.cur

end Go.Proofs.Ytklpaannmdbmiaa
