/-
  The draw of a small flag with two shapes.
  The laws' own comparisons: ints, matrices; how long the code is.
  laws.power.
  The law FnSpacesCounted, walked.
-/
import Derived.Test.YtoodgbflaaabmaaJ21
import Derived.Test.YtoodgbflaaabmaaJ20
import Derived.Test.YtoodgbflaaabmaaJ1
import Derived.Test.YtoodgbflaaabmaaJ12
import Derived.Test.YtoodgbflaaabmaaJ14
import Derived.Test.YtoodgbflaaabmaaJ4
namespace Go.Proofs.Ytoodgbflaaabmaa
set_option linter.all false
open Go.RowKit

/-- the cells of one result, and the cursor -/
structure R1 (w : World) (k : Nat) (W : World) : Prop where
  z0 : ∃ y0 y1 y2 y3, W.heap[w.heap.size]? = some (.cells #[y0, y1, y2, y3] 34 (0, 0))
  cu : Cur W k
  kk : w.heap.size < k
  be : Below w.heap.size w W
theorem R1.frm {w W W' : World} {k : Nat} (h : R1 w k W) (hf : Frm k (k + 1) W W') (hc : Cur W' k) : R1 w k W' := by
  obtain ⟨⟨a0, a1, a2, a3, a⟩, cu, kk, be⟩ := h
  exact ⟨⟨a0, a1, a2, a3, (hf.block _ (blk_lt a) (Or.inl (by omega))).trans a⟩, hc, kk, be.trans (hf.below (by omega) be.size)⟩

set_option maxRecDepth 100000 in
set_option maxHeartbeats 8000000 in
theorem DrawSmallFlag_any (v : Value) (l : Nat) (w : World) (h : Byts w v l) :
    Calls Try.prog 17 #[v] w fun e w' =>
      ∃ (p k m n : Nat) (uf ua ub : Value) (DF A B : List Int), e = .returned (.tuple #[.agg #[.int .i64 (p : Int), .int .i64 (n : Int), .int .i64 (n : Int), uf], ua, ub, .int .i64 (k : Int)]) ∧
        n = k + m ∧ SmBox p k m ∧ (Ints w' uf DF ∧ IsFl p n n DF) ∧ (Ints w' ua A ∧ bxOk A k n = true) ∧ (Ints w' ub B ∧ bxOk B k n = true) ∧ Below w.heap.size w w' := by
  have z0 := heap_alloc_top w (.cells #[.int .i64 0, .int .i64 0, .int .i64 0, .slice none 0 0] 34)
  have Hc := Lib.hid (h.below (below_alloc w (.cells #[.int .i64 0, .int .i64 0, .int .i64 0, .slice none 0 0] 34)))
  have Hb1 := Lib.hid (below_alloc w (.cells #[.int .i64 0, .int .i64 0, .int .i64 0, .slice none 0 0] 34))
  have hs1 : (w.alloc (.cells #[.int .i64 0, .int .i64 0, .int .i64 0, .slice none 0 0] 34)).heap.size = w.heap.size + 1 := by simp
  have Y0 := Lib.hid z0
  obtain ⟨_, _, cap, rfl, _⟩ := h
  clear z0
  go_enter Try.func17, Try.ntmps17
  go_wp2_with fail
  generalize w.alloc (.cells #[.int .i64 0, .int .i64 0, .int .i64 0, .slice none 0 0] 34) = w1 at *
  refine (l1New_any _ l _ Hc.out).mono ?_
  rintro e w2 ⟨rfl, hc2, hb2⟩
  rw [hs1] at hc2 ⊢
  have HR2 := Lib.hid (show R1 w (w.heap.size + 1) w2 from ⟨⟨_, _, _, _, blk_later Y0.out hb2⟩, hc2, by omega, Hb1.out.trans (hb2.mono (by omega))⟩)
  have hk2 := hc2.lt
  clear hc2 hb2 Y0 Hb1 Hc
  go_wp2_with fail
  refine (l1Below_any (w.heap.size + 1) 3 _ HR2.out.cu (by omega) (by omega)).mono ?_
  rintro e w3 ⟨m0, rfl, hm, hc3, hf3⟩
  have HR3 := Lib.hid (HR2.out.frm hf3 hc3)
  have hs3 := hf3.size
  clear hc3 hf3
  have hmm : 2 + (m0 : Int) = ((m0 + 2 : Nat) : Int) := by omega
  obtain ⟨n, hn⟩ : ∃ n, n = m0 + 2 := ⟨_, rfl⟩
  rw [← hn] at hmm
  have Hmm := Lib.hid hmm
  have hn2 : 2 ≤ n := by omega
  have hn4 : n ≤ 4 := by omega
  clear hmm
  by_cases hn3 : n < 4
  · have hn3i : 2 + (m0 : Int) < 4 := by omega
    have Hn1 := Lib.hid (show (n : Int) - 1 = ((n - 1 : Nat) : Int) by omega)
    clear hn
    go_wp2_with fail
    rw [Hmm.out]
    refine (l1Once_any (w.heap.size + 1) 2 _ HR3.out.cu (by omega) (by omega)).mono ?_
    rintro e w4 ⟨bo, rfl, hc4, hf4⟩
    have HR4 := Lib.hid (HR3.out.frm hf4 hc4)
    have hs4 := hf4.size
    clear hc4 hf4
    cases bo with
    | true =>
      go_wp2_with fail
      rw [Hn1.out]
      refine (l1Below_any (w.heap.size + 1) (n - 1) _ HR4.out.cu (by omega) (by omega)).mono ?_
      rintro e w5 ⟨k0, rfl, hk0, hc5, hf5⟩
      have HR5 := Lib.hid (HR4.out.frm hf5 hc5)
      have hs5 := hf5.size
      clear hc5 hf5
      obtain ⟨k, hk⟩ : ∃ k, k = k0 + 1 := ⟨_, rfl⟩
      have Hkk := Lib.hid (show 1 + (k0 : Int) = (k : Int) by omega)
      obtain ⟨m, hm'⟩ : ∃ m, n = k + m := ⟨n - k, by omega⟩
      have hk1 : 1 ≤ k := by omega
      have hm1 : 1 ≤ m := by omega
      have Hnk := Lib.hid (show (n : Int) - (k : Int) = (m : Int) by omega)
      have hSm : SmBox 3 k m := ⟨(.inr ⟨rfl, by omega⟩), hk1, hm1, by omega⟩
      have HSm := Lib.hid hSm
      have Hnm := Lib.hid hm'
      have hk7 : k ≤ 7 := by omega
      have hm7 : m ≤ 7 := by omega
      clear hk hSm hm'
      go_wp2_with fail
      refine (dFlag_any (w.heap.size + 1) n (3 : Nat) _ HR5.out.cu HSm.out.prime (by omega) (by omega)).mono ?_
      rintro e w6 ⟨pF, kF, DF, rfl, hoF, hsF, hc6, hf6⟩
      have HoF := Lib.hid hoF
      have HsF := Lib.hid hsF
      have HR6 := Lib.hid (HR5.out.frm hf6 hc6)
      have hs6 := hf6.size
      have hk6 := HR5.out.cu.lt
      clear hoF hsF hc6 hf6
      go_wp2_with fail
      rw [Hkk.out, Hnk.out]
      refine (dShape_any (w.heap.size + 1) k m _ HR6.out.cu (by omega) (by omega)).mono ?_
      rintro e w7 ⟨ua, A, rfl, hoA, hbA, hc7, hf7⟩
      obtain ⟨pA, kA, rfl, _, _⟩ := hoA.shape
      have HoA := Lib.hid hoA
      have HbA := Lib.hid hbA
      have HoF7 := Lib.hid (HoF.out.frm hf7 (Or.inr (by omega)))
      have HR7 := Lib.hid (HR6.out.frm hf7 hc7)
      have hs7 := hf7.size
      clear hoA hbA hc7 hf7
      go_wp2_with fail
      rw [Hnk.out]
      refine (dShape_any (w.heap.size + 1) k m _ HR7.out.cu (by omega) (by omega)).mono ?_
      rintro e w8 ⟨ub, B, rfl, hoB, hbB, hc8, hf8⟩
      obtain ⟨pB, kB, rfl, _, _⟩ := hoB.shape
      have HoB := Lib.hid hoB
      have HbB := Lib.hid hbB
      have HoA8 := Lib.hid (HoA.out.frm hf8 (Or.inr (by omega)))
      have HoF8 := Lib.hid (HoF7.out.frm hf8 (Or.inr (by omega)))
      have HR8 := Lib.hid (HR7.out.frm hf8 hc8)
      have hs8 := hf8.size
      clear hoB hbB hc8 hf8
      obtain ⟨y0, y1, y2, y3, hz0⟩ := HR8.out.z0
      obtain ⟨f0, f1, f2, f3, f4, f5⟩ := blk4 hz0
      have HZ0 := Lib.hid hz0
      clear hz0
      go_wp2_with fail
      obtain ⟨g0, g1, g2, g3, g4, g5⟩ := blk4 (set4_all HZ0.out (.int .i64 3) (.int .i64 (n : Int)) (.int .i64 (n : Int)) (.slice pF DF.length kF))
      have q0 := own_set4 (b := w.heap.size) HoF8.out (Or.inl (by omega)) (.int .i64 3) (.int .i64 (n : Int)) (.int .i64 (n : Int)) (.slice pF DF.length kF)
      have q1 := own_set4 (b := w.heap.size) HoA8.out (Or.inl (by omega)) (.int .i64 3) (.int .i64 (n : Int)) (.int .i64 (n : Int)) (.slice pF DF.length kF)
      have q2 := own_set4 (b := w.heap.size) HoB.out (Or.inl (by omega)) (.int .i64 3) (.int .i64 (n : Int)) (.int .i64 (n : Int)) (.slice pF DF.length kF)
      refine bodyPost_ret (v := .tuple #[.agg #[.int .i64 3, .int .i64 (n : Int), .int .i64 (n : Int), .slice pF DF.length kF], .slice pA A.length kA, .slice pB B.length kB, .int .i64 (k : Int)]) (by simp [results, Try.results17, go_sem, g0, g1, g2, g3, g5, Hkk.out]) rfl ?_
      exact ⟨3, k, m, n, _, _, _, DF, A, B, rfl, Hnm.out, HSm.out, ⟨q0.ints, HsF.out⟩, ⟨q1.ints, by rw [Hnm.out]; exact HbA.out⟩, ⟨q2.ints, by rw [Hnm.out]; exact HbB.out⟩, below_set4 HR8.out.be (Nat.le_refl _) _ _ _ _⟩
    | false =>
      go_wp2_with fail
      rw [Hn1.out]
      refine (l1Below_any (w.heap.size + 1) (n - 1) _ HR4.out.cu (by omega) (by omega)).mono ?_
      rintro e w5 ⟨k0, rfl, hk0, hc5, hf5⟩
      have HR5 := Lib.hid (HR4.out.frm hf5 hc5)
      have hs5 := hf5.size
      clear hc5 hf5
      obtain ⟨k, hk⟩ : ∃ k, k = k0 + 1 := ⟨_, rfl⟩
      have Hkk := Lib.hid (show 1 + (k0 : Int) = (k : Int) by omega)
      obtain ⟨m, hm'⟩ : ∃ m, n = k + m := ⟨n - k, by omega⟩
      have hk1 : 1 ≤ k := by omega
      have hm1 : 1 ≤ m := by omega
      have Hnk := Lib.hid (show (n : Int) - (k : Int) = (m : Int) by omega)
      have hSm : SmBox 2 k m := ⟨(.inl rfl), hk1, hm1, by omega⟩
      have HSm := Lib.hid hSm
      have Hnm := Lib.hid hm'
      have hk7 : k ≤ 7 := by omega
      have hm7 : m ≤ 7 := by omega
      clear hk hSm hm'
      go_wp2_with fail
      refine (dFlag_any (w.heap.size + 1) n (2 : Nat) _ HR5.out.cu HSm.out.prime (by omega) (by omega)).mono ?_
      rintro e w6 ⟨pF, kF, DF, rfl, hoF, hsF, hc6, hf6⟩
      have HoF := Lib.hid hoF
      have HsF := Lib.hid hsF
      have HR6 := Lib.hid (HR5.out.frm hf6 hc6)
      have hs6 := hf6.size
      have hk6 := HR5.out.cu.lt
      clear hoF hsF hc6 hf6
      go_wp2_with fail
      rw [Hkk.out, Hnk.out]
      refine (dShape_any (w.heap.size + 1) k m _ HR6.out.cu (by omega) (by omega)).mono ?_
      rintro e w7 ⟨ua, A, rfl, hoA, hbA, hc7, hf7⟩
      obtain ⟨pA, kA, rfl, _, _⟩ := hoA.shape
      have HoA := Lib.hid hoA
      have HbA := Lib.hid hbA
      have HoF7 := Lib.hid (HoF.out.frm hf7 (Or.inr (by omega)))
      have HR7 := Lib.hid (HR6.out.frm hf7 hc7)
      have hs7 := hf7.size
      clear hoA hbA hc7 hf7
      go_wp2_with fail
      rw [Hnk.out]
      refine (dShape_any (w.heap.size + 1) k m _ HR7.out.cu (by omega) (by omega)).mono ?_
      rintro e w8 ⟨ub, B, rfl, hoB, hbB, hc8, hf8⟩
      obtain ⟨pB, kB, rfl, _, _⟩ := hoB.shape
      have HoB := Lib.hid hoB
      have HbB := Lib.hid hbB
      have HoA8 := Lib.hid (HoA.out.frm hf8 (Or.inr (by omega)))
      have HoF8 := Lib.hid (HoF7.out.frm hf8 (Or.inr (by omega)))
      have HR8 := Lib.hid (HR7.out.frm hf8 hc8)
      have hs8 := hf8.size
      clear hoB hbB hc8 hf8
      obtain ⟨y0, y1, y2, y3, hz0⟩ := HR8.out.z0
      obtain ⟨f0, f1, f2, f3, f4, f5⟩ := blk4 hz0
      have HZ0 := Lib.hid hz0
      clear hz0
      go_wp2_with fail
      obtain ⟨g0, g1, g2, g3, g4, g5⟩ := blk4 (set4_all HZ0.out (.int .i64 2) (.int .i64 (n : Int)) (.int .i64 (n : Int)) (.slice pF DF.length kF))
      have q0 := own_set4 (b := w.heap.size) HoF8.out (Or.inl (by omega)) (.int .i64 2) (.int .i64 (n : Int)) (.int .i64 (n : Int)) (.slice pF DF.length kF)
      have q1 := own_set4 (b := w.heap.size) HoA8.out (Or.inl (by omega)) (.int .i64 2) (.int .i64 (n : Int)) (.int .i64 (n : Int)) (.slice pF DF.length kF)
      have q2 := own_set4 (b := w.heap.size) HoB.out (Or.inl (by omega)) (.int .i64 2) (.int .i64 (n : Int)) (.int .i64 (n : Int)) (.slice pF DF.length kF)
      refine bodyPost_ret (v := .tuple #[.agg #[.int .i64 2, .int .i64 (n : Int), .int .i64 (n : Int), .slice pF DF.length kF], .slice pA A.length kA, .slice pB B.length kB, .int .i64 (k : Int)]) (by simp [results, Try.results17, go_sem, g0, g1, g2, g3, g5, Hkk.out]) rfl ?_
      exact ⟨2, k, m, n, _, _, _, DF, A, B, rfl, Hnm.out, HSm.out, ⟨q0.ints, HsF.out⟩, ⟨q1.ints, by rw [Hnm.out]; exact HbA.out⟩, ⟨q2.ints, by rw [Hnm.out]; exact HbB.out⟩, below_set4 HR8.out.be (Nat.le_refl _) _ _ _ _⟩
  · have hn3i : ¬ 2 + (m0 : Int) < 4 := by omega
    have Hn1 := Lib.hid (show (n : Int) - 1 = ((n - 1 : Nat) : Int) by omega)
    clear hn
    go_wp2_with fail
    rw [Hmm.out, Hn1.out]
    refine (l1Below_any (w.heap.size + 1) (n - 1) _ HR3.out.cu (by omega) (by omega)).mono ?_
    rintro e w5 ⟨k0, rfl, hk0, hc5, hf5⟩
    have HR5 := Lib.hid (HR3.out.frm hf5 hc5)
    have hs5 := hf5.size
    clear hc5 hf5
    obtain ⟨k, hk⟩ : ∃ k, k = k0 + 1 := ⟨_, rfl⟩
    have Hkk := Lib.hid (show 1 + (k0 : Int) = (k : Int) by omega)
    obtain ⟨m, hm'⟩ : ∃ m, n = k + m := ⟨n - k, by omega⟩
    have hk1 : 1 ≤ k := by omega
    have hm1 : 1 ≤ m := by omega
    have Hnk := Lib.hid (show (n : Int) - (k : Int) = (m : Int) by omega)
    have hSm : SmBox 2 k m := ⟨(.inl rfl), hk1, hm1, by omega⟩
    have HSm := Lib.hid hSm
    have Hnm := Lib.hid hm'
    have hk7 : k ≤ 7 := by omega
    have hm7 : m ≤ 7 := by omega
    clear hk hSm hm'
    go_wp2_with fail
    refine (dFlag_any (w.heap.size + 1) n (2 : Nat) _ HR5.out.cu HSm.out.prime (by omega) (by omega)).mono ?_
    rintro e w6 ⟨pF, kF, DF, rfl, hoF, hsF, hc6, hf6⟩
    have HoF := Lib.hid hoF
    have HsF := Lib.hid hsF
    have HR6 := Lib.hid (HR5.out.frm hf6 hc6)
    have hs6 := hf6.size
    have hk6 := HR5.out.cu.lt
    clear hoF hsF hc6 hf6
    go_wp2_with fail
    rw [Hkk.out, Hnk.out]
    refine (dShape_any (w.heap.size + 1) k m _ HR6.out.cu (by omega) (by omega)).mono ?_
    rintro e w7 ⟨ua, A, rfl, hoA, hbA, hc7, hf7⟩
    obtain ⟨pA, kA, rfl, _, _⟩ := hoA.shape
    have HoA := Lib.hid hoA
    have HbA := Lib.hid hbA
    have HoF7 := Lib.hid (HoF.out.frm hf7 (Or.inr (by omega)))
    have HR7 := Lib.hid (HR6.out.frm hf7 hc7)
    have hs7 := hf7.size
    clear hoA hbA hc7 hf7
    go_wp2_with fail
    rw [Hnk.out]
    refine (dShape_any (w.heap.size + 1) k m _ HR7.out.cu (by omega) (by omega)).mono ?_
    rintro e w8 ⟨ub, B, rfl, hoB, hbB, hc8, hf8⟩
    obtain ⟨pB, kB, rfl, _, _⟩ := hoB.shape
    have HoB := Lib.hid hoB
    have HbB := Lib.hid hbB
    have HoA8 := Lib.hid (HoA.out.frm hf8 (Or.inr (by omega)))
    have HoF8 := Lib.hid (HoF7.out.frm hf8 (Or.inr (by omega)))
    have HR8 := Lib.hid (HR7.out.frm hf8 hc8)
    have hs8 := hf8.size
    clear hoB hbB hc8 hf8
    obtain ⟨y0, y1, y2, y3, hz0⟩ := HR8.out.z0
    obtain ⟨f0, f1, f2, f3, f4, f5⟩ := blk4 hz0
    have HZ0 := Lib.hid hz0
    clear hz0
    go_wp2_with fail
    obtain ⟨g0, g1, g2, g3, g4, g5⟩ := blk4 (set4_all HZ0.out (.int .i64 2) (.int .i64 (n : Int)) (.int .i64 (n : Int)) (.slice pF DF.length kF))
    have q0 := own_set4 (b := w.heap.size) HoF8.out (Or.inl (by omega)) (.int .i64 2) (.int .i64 (n : Int)) (.int .i64 (n : Int)) (.slice pF DF.length kF)
    have q1 := own_set4 (b := w.heap.size) HoA8.out (Or.inl (by omega)) (.int .i64 2) (.int .i64 (n : Int)) (.int .i64 (n : Int)) (.slice pF DF.length kF)
    have q2 := own_set4 (b := w.heap.size) HoB.out (Or.inl (by omega)) (.int .i64 2) (.int .i64 (n : Int)) (.int .i64 (n : Int)) (.slice pF DF.length kF)
    refine bodyPost_ret (v := .tuple #[.agg #[.int .i64 2, .int .i64 (n : Int), .int .i64 (n : Int), .slice pF DF.length kF], .slice pA A.length kA, .slice pB B.length kB, .int .i64 (k : Int)]) (by simp [results, Try.results17, go_sem, g0, g1, g2, g3, g5, Hkk.out]) rfl ?_
    exact ⟨2, k, m, n, _, _, _, DF, A, B, rfl, Hnm.out, HSm.out, ⟨q0.ints, HsF.out⟩, ⟨q1.ints, by rw [Hnm.out]; exact HbA.out⟩, ⟨q2.ints, by rw [Hnm.out]; exact HbB.out⟩, below_set4 HR8.out.be (Nat.le_refl _) _ _ _ _⟩

end Go.Proofs.Ytoodgbflaaabmaa

namespace Go.Proofs.Ytoodgbflaaabmaa
set_option linter.all false
open Go.RowKit

set_option maxRecDepth 100000 in
set_option maxHeartbeats 400000 in
theorem lawInts_any (v1 v2 : Value) (xs ys : List Int) (w : World) (h1 : Ints w v1 xs) (h2 : Ints w v2 ys) :
    Calls Try.prog 15 #[v1, v2] w fun e w' => e = .returned (.bool (decide (xs = ys))) ∧ Qt w w' := by
  obtain ⟨p, cap, rfl, ⟨hx1, hx⟩, hxc⟩ := h1
  obtain ⟨q, cap', rfl, ⟨hy1, hy⟩, hyc⟩ := h2
  unfold maxLen at hx hy
  by_cases hl : xs.length = ys.length
  · have e1 : ((xs.length : Int) != (ys.length : Int)) = false := by simp [hl]
    have Hl := Lib.hid hl
    clear hl
    go_enter Try.func15, Try.ntmps15
    go_wp2
    clear e1
    go_loopg [5] xs.length (fun g i wr => ∃ k : Nat, k ≤ xs.length ∧ g = xs.length - k ∧ i = .int .i64 k ∧ Qt w wr ∧ Hid (∀ j, j < k → xs.getD j 0 = ys.getD j 0))
    case atStart => exact ⟨0, Nat.zero_le _, rfl, rfl, Qt.refl _, fun j hj => absurd hj (Nat.not_lt_zero _)⟩
    case round =>
      obtain ⟨k, hk, rfl, rfl, hq, hp⟩ := hrel
      by_cases hlt : k < xs.length
      · obtain ⟨b, off, rfl, hc⟩ := hxc (by omega)
        have hl := Hl.out
        obtain ⟨b', off', rfl, hc'⟩ := hyc (by omega)
        have c1 := hq.cell (hc k hlt)
        have c2 := hq.cell (hc' k (by omega))
        have hk2 : k < ys.length := by omega
        unfold iv at c1 c2
        clear hl hxc hyc hc hc'
        go_wp2
        go_quiet (fail)
        go_wp2
        · have ht : (xs[k] != ys[k]) = true := by assumption
          go_ret
          refine ⟨ret_bool ?_, hq.drewN _⟩
          symm
          simp only [decide_eq_false_iff_not]
          intro e
          subst e
          simp at ht
        · have ht : (xs[k] != ys[k]) = false := by assumption
          go_roundg (xs.length - (k + 1))
          case measure => omega
          case rel =>
            refine ⟨k + 1, by omega, rfl, by go_num, hq.drewN _, eq_snoc hp.out ?_⟩
            have := by simpa using ht
            simpa [List.getD_eq_getElem?_getD, hlt, hk2] using this
      · go_wp2
        go_ret
        refine ⟨ret_bool ?_, hq⟩
        symm
        simp only [decide_eq_true_eq]
        exact getD_eq_list Hl.out fun j hj => hp.out j (by omega)
  · have e1 : ((xs.length : Int) != (ys.length : Int)) = true := by simp; omega
    go_enter Try.func15, Try.ntmps15
    go_wp2
    go_ret
    refine ⟨ret_bool ?_, Qt.refl _⟩
    symm
    simp only [decide_eq_false_iff_not]
    intro e
    exact hl (by rw [e])

set_option maxRecDepth 100000 in
set_option maxHeartbeats 1000000 in
theorem lawMatrices_any (P R C P' R' C' : Int) (d d' : Value) (xs ys : List Int) (w : World) (h : Ints w d xs) (h' : Ints w d' ys) :
    Calls Try.prog 14 #[.agg #[.int .i64 P, .int .i64 R, .int .i64 C, d], .agg #[.int .i64 P', .int .i64 R', .int .i64 C', d']] w fun e w' =>
      e = .returned (.bool (mxSame P R C xs P' R' C' ys)) ∧ Below w.heap.size w w' := by
  by_cases e1 : P = P'
  · subst e1
    by_cases e2 : R = R'
    · subst e2
      by_cases e3 : C = C'
      · subst e3
        have hn := fun o o' => lawInts_any d d' xs ys ((w.alloc o).alloc o') (h.below (below_alloc2 w o o')) (h'.below (below_alloc2 w o o'))
        cases hx : decide (xs = ys) with
        | true =>
          rw [hx] at hn
          have Hn := Lib.hid hn
          have Hx := Lib.hid hx
          clear hn hx
          go_enter Try.func14, Try.ntmps14
          go_wp2_with (go_at_call 15; refine (Hn.out _ _).mono ?_; rintro e w' ⟨rfl, hq⟩)
          go_ret
          have := of_decide_eq_true Hx.out
          exact ⟨ret_bool (by simp [mxSame, this]), (below_alloc2 _ _ _).trans (hq.below _)⟩
        | false =>
          rw [hx] at hn
          have Hn := Lib.hid hn
          have Hx := Lib.hid hx
          clear hn hx
          go_enter Try.func14, Try.ntmps14
          go_wp2_with (go_at_call 15; refine (Hn.out _ _).mono ?_; rintro e w' ⟨rfl, hq⟩)
          go_ret
          have := of_decide_eq_false Hx.out
          exact ⟨ret_bool (by simp [mxSame, this]), (below_alloc2 _ _ _).trans (hq.below _)⟩
      · have hz : (C == C') = false := by simp [e3]
        go_enter Try.func14, Try.ntmps14
        go_wp2_with fail
        go_ret
        exact ⟨ret_bool (by simp [mxSame, e3]), below_alloc2 _ _ _⟩
    · have hz : (R == R') = false := by simp [e2]
      go_enter Try.func14, Try.ntmps14
      go_wp2_with fail
      go_ret
      exact ⟨ret_bool (by simp [mxSame, e2]), below_alloc2 _ _ _⟩
  · have hz : (P == P') = false := by simp [e1]
    go_enter Try.func14, Try.ntmps14
    go_wp2_with fail
    go_ret
    exact ⟨ret_bool (by simp [mxSame, e1]), below_alloc2 _ _ _⟩

set_option maxRecDepth 100000 in
set_option maxHeartbeats 400000 in
theorem big_any (p : Option Addr) (n cap : Nat) (w : World) (hn : n ≤ maxLen) :
    Calls Try.prog 7 #[.slice p n cap] w fun e w' => e = .returned (.bool (decide (1048576 < n))) ∧ w = w' := by
  unfold maxLen at hn
  go_enter Try.func7, Try.ntmps7
  by_cases h : 1048576 < n
  · have h2 : (1048576 : Int) < (n : Int) := by omega
    go_wp2
    go_ret
    exact ⟨ret_bool (by simp [h]), rfl⟩
  · have h2 : ¬ (1048576 : Int) < (n : Int) := by omega
    go_wp2
    go_ret
    exact ⟨ret_bool (by simp [h]), rfl⟩

section
open Go.ChangeShapes Go.WideShapes Go.RowKit Go.Deep Go.WideElems Go.Maps
/-- bytes that came in -/
theorem trod_byts {H : Type} {enc : TypeId × Value → H} {P : Program} {W : World} {m : Nat} {t e : TypeId} {a : Option Addr} {l c : Nat} {y : DataW H × List MemPlace}
    (ht : P.underlying t = some (.slice e)) (he : P.underlying e = some (.int .u8)) (hc : P.cellsOf e = 1)
    (h : DataW.trod enc P W 0 (fun _ => true) true m t [.slice a l c] = some y) : l ≤ maxLen ∧ Byts W (.slice a l c) l := by
  rcases open_ints ht he hc h with ⟨hcs, _⟩ | ⟨x, l', c', zs, hcs, _, hl, hm, hz, _, hcell, _⟩
  · injection hcs with hcs
    injection hcs with h1 h2 h3
    subst h1 h2 h3
    exact ⟨Nat.zero_le _, fun _ => 0, none, 0, rfl, ⟨Nat.le_refl _, Nat.zero_le _⟩, fun h => absurd h (Nat.lt_irrefl _)⟩
  · injection hcs with hcs
    injection hcs with h1 h2 h3
    subst h1 h2 h3
    refine ⟨by omega, fun j => zs.getD j 0, some x, c, rfl, ⟨hl, hm⟩, fun h0 => ?_⟩
    have hz' : zs.length = c := by simpa using hz
    have h0' := hcell 0 (by omega)
    obtain ⟨b, off, spot⟩ := x
    have hs : spot = none := by
      cases spot with
      | none => rfl
      | some s => simp [Addr.add, World.cell?] at h0'; split at h0' <;> simp_all
    subst hs
    refine ⟨b, off, rfl, fun j hj => ?_⟩
    have hadd : (⟨b, off, none⟩ : Addr).add j = ⟨b, off + j, none⟩ := by unfold Addr.add; split <;> simp_all
    rw [← hadd]
    exact hcell j (by omega)
end

end Go.Proofs.Ytoodgbflaaabmaa

namespace Go.Proofs.Ytoodgbflaaabmaa
set_option linter.all false
open Go.RowKit

set_option maxRecDepth 100000 in
set_option maxHeartbeats 2000000 in
theorem power_any (p k Y : Nat) (w : World) (hY : Y = p ^ k) (h1 : 1 ≤ p) (hk : k ≤ 1000) (hb : p ^ k ≤ 1000000) :
    Calls Try.prog 11 #[.int .i64 (p : Int), .int .i64 (k : Int)] w fun e w' => e = .returned (.int .i64 (Y : Int)) ∧ w = w' := by
  have Hb := Lib.hid hb
  have HY := Lib.hid hY
  clear hb hY
  go_enter Try.func11, Try.ntmps11
  go_wp2
  go_loop [5, 6] (fun s5 s6 => ∃ i X : Nat, i ≤ k ∧ s6 = .int .i64 i ∧ s5 = .int .i64 X ∧ Hid (X = p ^ i)) (fun _ s6 => k - (intOf s6).toNat)
  case atStart => exact ⟨0, 1, Nat.zero_le _, rfl, rfl, by simp [Hid]⟩
  case round =>
    obtain ⟨i, X, hi, rfl, rfl, hpw⟩ := hrel
    by_cases hlt : i < k
    · have hlt2 : (i : Int) < (k : Int) := by omega
      have hm : X * p ≤ 1000000 := by
        rw [hpw.out, ← Nat.pow_succ]
        exact Nat.le_trans (Nat.pow_le_pow_right h1 (by omega)) Hb.out
      obtain ⟨N, hN, H3, H4⟩ := mul_hid X p (by omega)
      have HN := Lib.hid (show N = p ^ (i + 1) by rw [hN, hpw.out, Nat.pow_succ])
      clear hN hm
      have h3 := H3.out
      have h4 := H4.out
      go_wp2
      clear h3 h4
      go_round
      case rel => exact ⟨i + 1, N, by omega, by go_num, rfl, HN⟩
      case measure => simp [intOf]; omega
    · obtain rfl : i = k := by omega
      have hlt2 : ¬ (i : Int) < (i : Int) := by omega
      obtain rfl : X = Y := hpw.out.trans HY.out.symm
      go_wp2
      go_ret
      exact ⟨rfl, rfl⟩

end Go.Proofs.Ytoodgbflaaabmaa

namespace Go.Proofs.Ytoodgbflaaabmaa
set_option linter.all false
open Go.RowKit

/-! ### contracts -/
theorem strsh1 (v : Value) (sh s : List Int) (k n : Nat) (hs : s = gsL sh k n) (w : World) (h : Ints w v sh) (hx : bxOk sh k n = true) (hkn : k ≤ n) (hk1 : 1 ≤ k) (hn7 : n ≤ 7) :
    Calls Try.prog 19 #[v, .int .i64 (k : Int), .int .i64 (n : Int)] w fun e w' => ∃ (p : Option Addr) (c : Nat), e = .returned (.slice p n c) ∧ Ints w' (.slice p n c) s ∧ Below w.heap.size w w' := by
  refine (StringOfShape_any v sh k n w h hx hkn hk1 hn7).mono ?_
  rintro e w' ⟨u, h1, h2, h3⟩
  obtain ⟨p, c, rfl, _, _⟩ := h2.shape
  have hi := h2.ints
  rw [gsL_length] at h1 hi
  exact ⟨p, c, h1, by rw [hs]; exact hi, h3⟩
theorem spw1 (p : Nat) (v : Value) (s : List Int) (ms : List Mx) (hm : spMs p s = (ms, true)) (w : World) (h : Ints w v s) :
    Calls Try.prog 20 #[.int .i64 (p : Int), v] w fun e w' => ∃ (q : Option Addr) (c : Nat), e = .returned (.tuple #[.slice q ms.length c, .bool true]) ∧ RdMs w' (.slice q ms.length c) ms ∧ c ≤ maxLen ∧ Below w.heap.size w w' := by
  refine (implSpacesWith_any p v s w h).mono ?_
  rintro e w' ⟨u, h1, h2, h3⟩
  rw [hm] at h1 h2
  obtain ⟨q, c, rfl, _, hc⟩ := h2.shape
  exact ⟨q, c, h1, h2.rd, hc, h3⟩
theorem st1 (P : Int) (r n : Nat) (d : Value) (D : List Int) (s : List Int) (hs : ∀ l, StIs P r n D l → l = s) (w : World) (hd : Ints w d D) :
    Calls Try.prog 23 #[.agg #[.int .i64 P, .int .i64 (r : Int), .int .i64 (n : Int), d]] w fun e w' => ∃ (p : Option Addr) (c : Nat), e = .returned (.slice p s.length c) ∧ Ints w' (.slice p s.length c) s ∧ Below w.heap.size w w' := by
  refine (implSpaceString_ex P r n d D w hd).mono ?_
  rintro e w' ⟨l, h1, u, h2, h3, h4⟩
  obtain rfl := hs l h1
  obtain ⟨p, c, rfl, _, _⟩ := h3.shape
  exact ⟨p, c, h2, h3.ints, h4⟩
theorem sum1 (v : Value) (l : List Int) (x : Nat) (hx : sumI l = (x : Int)) (ho : sumOk l) (w : World) (h : Ints w v l) :
    Calls Try.prog 21 #[v] w fun e w' => e = .returned (.int .i64 (x : Int)) ∧ Below w.heap.size w w' :=
  (lawSum_any v l w h ho).mono fun e w' ⟨h1, h2⟩ => ⟨by rw [h1, hx], h2.below _⟩
theorem keep6s {wr W W' : World} {a0 a1 a2 a3 a4 : Addr} {v0 v1 v2 v3 v4 : Value} (hb : Below W.heap.size W W') (h : (W.cell? a0 = some v0 ∧ W.cell? a1 = some v1 ∧ W.cell? a2 = some v2 ∧ W.cell? a3 = some v3 ∧ W.cell? a4 = some v4) ∧ Below wr.heap.size wr W) : (W'.cell? a0 = some v0 ∧ W'.cell? a1 = some v1 ∧ W'.cell? a2 = some v2 ∧ W'.cell? a3 = some v3 ∧ W'.cell? a4 = some v4) ∧ Below wr.heap.size wr W' := by
  obtain ⟨⟨h0, h1, h2, h3, h4⟩, hB⟩ := h
  exact ⟨⟨cell_below hb h0, cell_below hb h1, cell_below hb h2, cell_below hb h3, cell_below hb h4⟩, below_trans hB hb⟩

set_option maxRecDepth 100000 in
set_option maxHeartbeats 8000000 in
theorem lawFnSpacesCounted (p : Option Addr) (l cap : Nat) (w : World) (hl : l ≤ maxLen) (h : Byts w (.slice p l cap) l) :
    Calls Try.prog 4 #[.slice p l cap] w fun e w' => e = .returned (.bool true) ∧ Below w.heap.size w w' := by
  have Hl := Lib.hid hl
  have Hh := Lib.hid h
  clear hl h
  go_enter Try.func4, Try.ntmps4
  go_wp2_with fail
  refine (big_any p l cap _ Hl.out).mono ?_
  rintro e w' ⟨rfl, rfl⟩
  by_cases hb : 1048576 < l
  · have e1 : decide (1048576 < l) = true := by simp [hb]
    rw [e1]
    go_wp2_with fail
    go_ret
    exact ⟨rfl, Below.refl _ _⟩
  · have e1 : decide (1048576 < l) = false := by simp [hb]
    rw [e1]
    clear e1 hb
    go_wp2_with fail
    refine (DrawSmallFlag_any _ l _ Hh.out).mono ?_
    rintro e w1 ⟨P, k, m, n, uf, ua, ub, DF, A, B, rfl, hnk, hSm, ⟨hiF, -⟩, ⟨hiA, -⟩, ⟨hiB, -⟩, hb1⟩
    obtain ⟨pF, kF, rfl, _, _⟩ := hiF
    obtain ⟨pA, kA, rfl, _, _⟩ := hiA
    obtain ⟨pB, kB, rfl, _, _⟩ := hiB
    have HSm := Lib.hid hSm
    have hn7 : n ≤ 7 := by have := hSm.2.2.2; omega
    have hk1 : 1 ≤ k := hSm.2.1
    have hkn : k ≤ n := by omega
    have hk6 : k ≤ 6 := by have := hSm.2.2.2; omega
    have hm6 : m ≤ 6 := by have := hSm.2.2.2; omega
    have hnm : n - k = m := by omega
    have HB1 := Lib.hid hb1
    obtain ⟨hs1, hs2, hs3⟩ := hSm.small
    have hP2 : 1 ≤ P := by rcases hSm.1 with rfl | ⟨rfl, _⟩ <;> omega
    have hP7 : P ≤ 7 := by rcases hSm.1 with rfl | ⟨rfl, _⟩ <;> omega
    have Hnk := Lib.hid hnk
    have Hnm := Lib.hid hnm
    have Hs := Lib.hid (show (m + 1) ^ k ≤ 1000 ∧ P ^ (k * m + 1) ≤ 1000 ∧ k * m ≤ 4 from ⟨hs1, hs2, hs3⟩)
    have Hnki := Lib.hid (show (n : Int) - (k : Int) = (m : Int) by omega)
    clear hSm hb1 hs1 hs2 hs3 hnk hnm
    go_wp2_with fail
    obtain ⟨w2, hw2⟩ : ∃ x : World, x = w1.alloc (.cells #[.int .i64 (P : Int), .int .i64 (n : Int), .int .i64 (n : Int), .slice pF DF.length kF] 34) := ⟨_, rfl⟩
    have hz2 : w2.heap[w1.heap.size]? = some (.cells #[.int .i64 (P : Int), .int .i64 (n : Int), .int .i64 (n : Int), .slice pF DF.length kF] 34) := by rw [hw2]; exact heap_alloc_top _ _
    have hb2 : Below w1.heap.size w1 w2 := by rw [hw2]; exact below_alloc _ _
    rw [← hw2]
    have HB2 := Lib.hid (HB1.out.trans (hb2.mono HB1.out.size))
    have HZ2 := Lib.hid hz2
    clear hw2 hz2 hb2 HB1
    refine (boxShapes_any k n _ hk6 hkn (by rw [Hnm.out]; exact hm6) (by rw [Hnm.out]; have := Hs.out.1; omega)).mono ?_
    rintro e w3 ⟨u, rfl, hou, hb3⟩
    rw [Hnm.out] at hou
    obtain ⟨L, hL⟩ : ∃ L, L = shs k m [] := ⟨_, rfl⟩
    rw [← hL] at hou
    have hLl : L.length ≤ 1000 := by rw [hL]; exact Nat.le_trans (shs_len k m []) Hs.out.1
    have HL := Lib.hid hL
    obtain ⟨pL, kL, rfl, hkL, hkL2⟩ := hou.shape
    unfold maxLen at hkL2
    obtain ⟨fL, hfL, hrL⟩ := hou.rd
    have HfL := Lib.hid hfL
    have HrL := Lib.hid hrL
    have HB3 := Lib.hid (HB2.out.trans (hb3.mono HB2.out.size))
    have HZ3 := Lib.hid (blk_later HZ2.out hb3)
    clear hou hL hfL hrL hb3 HB2 HZ2
    go_wp2_with fail
    go_loopg [8, 10, 11, 12, 13, 14] L.length (fun g s8 s10 s11 s12 s13 s14 wr => ∃ t : Nat, t ≤ L.length ∧ g = L.length - t ∧ s10 = .int .i64 t ∧ s8 = .int .i64 (totT P k m L t : Nat) ∧ Hid (totT P k m L t ≤ t * 1000) ∧ Hid (Below w3.heap.size w3 wr))
    case atStart => exact ⟨0, Nat.zero_le _, rfl, rfl, by rw [totT_zero]; rfl, Lib.hid (by rw [totT_zero]; omega), Lib.hid (Below.refl _ _)⟩
    case round =>
      obtain ⟨t, ht, rfl, rfl, rfl, htb, hb⟩ := hrel
      obtain ⟨w4, rfl⟩ : ∃ x : World, x = wr := ⟨_, rfl⟩
      obtain ⟨Tt, hTt⟩ : ∃ Tt, Tt = totT P k m L t := ⟨_, rfl⟩
      rw [← hTt] at htb ⊢
      have htb2 : Tt ≤ 1000000 := by have := htb.out; omega
      by_cases hlt : t < L.length
      · have hlti : (t : Int) < (L.length : Int) := by omega
        obtain ⟨sh, hsh⟩ : ∃ sh, sh = L.getD t [] := ⟨_, rfl⟩
        have hmem : sh ∈ shs k m [] := by
          rw [← HL.out, hsh, List.getD_eq_getElem?_getD, List.getElem?_eq_getElem hlt]
          exact List.getElem_mem hlt
        obtain ⟨ms, hms⟩ := scL HSm.out hmem
        have Hms := Lib.hid hms
        obtain ⟨x, hx⟩ : ∃ x : Nat, sumI sh = (x : Int) := ⟨(sumI sh).toNat, by have := hms.two.1; omega⟩
        have Hx := Lib.hid hx
        have hx4 : x ≤ k * m := by
          have a := hms.two.2
          rw [hx, show (k : Int) * (m : Int) = ((k * m : Nat) : Int) by simp] at a
          omega
        obtain ⟨f, hf⟩ : ∃ f, f = k * m - x := ⟨_, rfl⟩
        have hlen : ms.length = P ^ f := by
          rw [hms.len, hx, show (k : Int) * (m : Int) = ((k * m : Nat) : Int) by simp]
          congr 1
          omega
        have hfew := hms.few
        have Hlen := Lib.hid hlen
        have hf4 : f ≤ 4 := by have := Hs.out.2.2; omega
        have Hf := Lib.hid hf
        have Hx4 := Lib.hid hx4
        have hrow := HrL.out t hlt
        rw [← hsh] at hrow
        have hrow2 := hrow
        obtain ⟨pr, kr, er, hkr, hkr2⟩ := hrow2
        rw [er] at hrow
        have hfLw := HfL.out
        obtain ⟨_, _, e0, _, hc0⟩ := hfLw
        injection e0 with e1 e2 e3
        subst e1 e3
        obtain ⟨bL, oL, hpL, hcL⟩ := hc0 (by omega)
        subst hpL
        have d0 := hcL t hlt
        rw [er] at d0
        have d1 := cell_below hb.out d0
        obtain ⟨lr, hlr⟩ : ∃ lr, lr = sh.length := ⟨_, rfl⟩
        rw [← hlr] at d1 hrow
        have HI4 := Lib.hid (hrow.below hb.out)
        have HcL := Lib.hid hcL
        have Hsh := Lib.hid hsh
        have HD1 := Lib.hid d1
        have HZ4 := Lib.hid (blk_later HZ3.out hb.out)
        obtain ⟨S, hS⟩ : ∃ S, S = gsL sh k n := ⟨_, rfl⟩
        have HS := Lib.hid hS
        have hSl : S.length = n := by rw [hS, gsL_length]
        have HSl := Lib.hid hSl
        have HTt := Lib.hid hTt
        have Hbx := Lib.hid (show bxOk sh k n = true by have := hms.box; rwa [← Hnk.out] at this)
        have Hmss := Lib.hid (show spMs P S = (ms, true) by rw [hS, Hnk.out]; exact hms.mss)
        clear hmem hms hx hx4 hf hlen hrow er d0 hcL hc0 e2 hlr hsh hS hSl hTt hkr
        obtain ⟨m0, m1, m2, m3, mf', mz⟩ := blk4 HZ4.out
        go_wp2_with fail
        refine (strsh1 _ sh S k n HS.out _ HI4.out Hbx.out hkn hk1 hn7).mono ?_
        rintro e w5 ⟨pS, kS, rfl, hiS, hb5⟩
        have HIS5 := Lib.hid hiS
        have HI5 := Lib.hid (HI4.out.below hb5)
        have HZ5 := Lib.hid (blk_later HZ4.out hb5)
        have HD5 := Lib.hid (cell_below hb5 HD1.out)
        have HB5 := Lib.hid (hb.out.trans (hb5.mono hb.out.size))
        clear hiS hb5 HI4 HZ4 HD1 m0 m1 m2 m3 mf' mz d1
        obtain ⟨m0, m1, m2, m3, mf', mz⟩ := blk4 HZ5.out
        go_wp2_with fail
        refine (spw1 P _ S ms Hmss.out _ HIS5.out).mono ?_
        rintro e w6 ⟨pM, kM, rfl, hrm, hkM, hb6⟩
        unfold maxLen at hkM
        obtain ⟨fM, hsM, hfM⟩ := hrm
        have HfM := Lib.hid hfM
        have HsM := Lib.hid hsM
        have HIS6 := Lib.hid (HIS5.out.below hb6)
        have HI6 := Lib.hid (HI5.out.below hb6)
        have HZ6 := Lib.hid (blk_later HZ5.out hb6)
        have HD6 := Lib.hid (cell_below hb6 HD5.out)
        have HB6 := Lib.hid (HB5.out.trans (hb6.mono HB5.out.size))
        clear hb6 hfM hsM HIS5 HI5 HZ5 HD5 m0 m1 m2 m3 mf' mz
        go_wp2_with fail
        obtain ⟨m0, m1, m2, m3, mf', mz⟩ := blk4 HZ6.out
        have d6 := HD6.out
        obtain ⟨K, hK, HK1, HK2⟩ := mul_hid k m (by have := Hs.out.2.2; omega)
        have hKx : K = f + x := by have a := Hf.out; have b := Hx4.out; omega
        have h1 : IntKind.i64.wrap ((n : Int) - (k : Int)) = (m : Int) := by rw [k64 (by omega) (by omega)]; exact Hnki.out
        have h2 : IntKind.i64.wrap ((K : Int) - (x : Int)) = (f : Int) := by have := Hs.out.2.2; rw [k64 (by omega) (by omega)]; omega
        have H1 := Lib.hid h1
        have H2 := Lib.hid h2
        clear hK hKx h1 h2
        have h1 := H1.out
        have h2 := H2.out
        have h3 := HK1.out
        have h4 := HK2.out
        go_region_held3 (fun w' => (w'.cell? ⟨w1.heap.size, 0, none⟩ = some (.int .i64 (P : Int)) ∧ w'.cell? ⟨w1.heap.size, 1, none⟩ = some (.int .i64 (n : Int)) ∧ w'.cell? ⟨w1.heap.size, 2, none⟩ = some (.int .i64 (n : Int)) ∧ w'.cell? ⟨w1.heap.size, 3, none⟩ = some (.slice pF DF.length kF) ∧ w'.cell? ⟨bL, oL + t, none⟩ = some (.slice pr lr kr)) ∧ Below w6.heap.size w6 w')
          (first | assumption | exact ⟨⟨m0, m1, m2, m3, d6⟩, (Below.refl _ _).drew⟩ | exact keep6s hb1 (by assumption))
          (first
            | (go_at_call 21; refine (sum1 _ sh x Hx.out Hms.out.sum _ (held_ints HI6.out (by assumption))).mono ?_; rintro e w' ⟨rfl, hb1⟩; have hBz : Below w6.heap.size w6 w' := below_trans (held_below (by assumption)) hb1)
            | (go_at_call 11; refine (power_any P f ms.length _ Hlen.out hP2 (by omega) (by rw [← Hlen.out]; omega)).mono ?_; rintro e w' ⟨rfl, rfl⟩))
        obtain ⟨w7, hw7⟩ : ∃ x : World, x = w' := ⟨_, rfl⟩
        rw [← hw7] at hBz ⊢
        have HIS7 := Lib.hid (HIS6.out.below hBz)
        have HsM7 := Lib.hid (HsM.out.below hBz)
        have HfM7 := Lib.hid (fun i (hi : i < ms.length) => (HfM.out i hi).below hBz)
        have HB7 := Lib.hid (HB6.out.trans (hBz.mono HB6.out.size))
        clear h1 h2 h3 h4 hBz hb1 m0 m1 m2 m3 mf' mz d6 HI6 HD6 HZ6 HIS6 HsM HfM hw7
        obtain ⟨pM', kM', eM, -, hxc⟩ := HsM7.out.four
        injection eM with eM1 _ eM2
        subst eM1 eM2
        have Hxc := Lib.hid hxc
        clear hxc
        go_wp2_with fail
        go_loopg [14] ms.length (fun g s14 wr => ∃ j : Nat, j ≤ ms.length ∧ g = ms.length - j ∧ s14 = .int .i64 j ∧ Hid (Below w7.heap.size w7 wr))
        case atStart => exact ⟨0, Nat.zero_le _, rfl, rfl, Lib.hid (Below.refl _ _)⟩
        case round =>
          obtain ⟨j, hj, rfl, rfl, Hb⟩ := hrel
          obtain ⟨wo, rfl⟩ : ∃ x : World, x = wr := ⟨_, rfl⟩
          by_cases hjl : j < ms.length
          · have hji : (j : Int) < (ms.length : Int) := by omega
            obtain ⟨b, rfl, hc⟩ := Hxc.out (by omega)
            obtain ⟨a0, a1, a2, a3⟩ := hc j hjl
            obtain ⟨D, hD', hsp', hst'⟩ := Hms.out.each j hjl
            rw [← Hnk.out] at hD' hsp' hst'
            have hI := HfM7.out j hjl
            rw [hD'] at a0 a1 a2 hI
            dsimp only at a0 a1 a2 hI
            have hI2 := hI
            obtain ⟨q1, k1, e1, _, _⟩ := hI2
            rw [e1] at a3 hI
            have c0 := cell_below Hb.out a0
            have c1 := cell_below Hb.out a1
            have c2 := cell_below Hb.out a2
            have c3 := cell_below Hb.out a3
            have ID := Lib.hid (hI.below Hb.out)
            have IX := Lib.hid (HIS7.out.below Hb.out)
            have Hsp := Lib.hid hsp'
            have Hst := Lib.hid (show ∀ l, StIs P k n D l → l = S from fun l h => by rw [HS.out]; have := hst' l h; rw [this, Hnk.out])
            clear hc a0 a1 a2 a3 hD' hsp' hst' hI e1
            go_wp2_with fail
            refine (implIsSpace_yes P k n _ D Hsp.out _ ID.out).mono ?_
            rintro e w8 ⟨rfl, hb8⟩
            have c0' := cell_below hb8 c0
            have c1' := cell_below hb8 c1
            have c2' := cell_below hb8 c2
            have c3' := cell_below hb8 c3
            have ID8 := Lib.hid (ID.out.below hb8)
            have IX8 := Lib.hid (IX.out.below hb8)
            have Hb8 := Lib.hid (Hb.out.trans (hb8.mono Hb.out.size))
            clear c0 c1 c2 c3 ID IX hb8
            go_wp2_with fail
            refine (st1 P k n _ D S Hst.out _ ID8.out).mono ?_
            rintro e w9 ⟨pt, kt, rfl, hit, hb9⟩
            have It := Lib.hid hit
            have IX9 := Lib.hid (IX8.out.below hb9)
            have Hb9 := Lib.hid (Hb8.out.trans (hb9.mono Hb8.out.size))
            clear hit hb9 c0' c1' c2' c3' ID8 IX8
            go_wp2_with fail
            refine (lawInts_any _ _ S S _ It.out IX9.out).mono ?_
            rintro e w10 ⟨rfl, hq10⟩
            rw [show decide (S = S) = true from by simp]
            have Hb10 := Lib.hid (Hb9.out.trans (hq10.below _))
            clear hq10
            go_wp2_with fail
            go_roundg (ms.length - (j + 1))
            case measure => omega
            case rel => exact ⟨j + 1, by omega, rfl, by go_num, Hb10⟩
          · obtain rfl : j = ms.length := by omega
            have hji : ¬ (ms.length : Int) < (ms.length : Int) := by omega
            have Hn1 := Lib.hid (show totT P k m L (t + 1) = Tt + ms.length by
              rw [totT_succ hlt, ← HTt.out, ← Hsh.out, Hms.out.len])
            have htb3 := htb.out
            go_wp2_with fail
            go_roundg (L.length - (t + 1))
            case measure => omega
            case rel => exact ⟨t + 1, by omega, rfl, by go_num, by rw [Hn1.out]; go_num, Lib.hid (by rw [Hn1.out]; omega), Lib.hid (HB7.out.trans (Hb.out.mono HB7.out.size))⟩
      · obtain rfl : t = L.length := by omega
        have hlti : ¬ (L.length : Int) < (L.length : Int) := by omega
        have HTt := Lib.hid hTt
        have HZ4 := Lib.hid (blk_later HZ3.out hb.out)
        have Htot := Lib.hid (show csA (ishs k m) P (k * m + 1) = Tt by rw [hTt, totT_all, HL.out]; exact HSm.out.tot.symm)
        clear hTt
        obtain ⟨m0, m1, m2, m3, mf', mz⟩ := blk4 HZ4.out
        go_wp2_with fail
        refine (CountSpaces_any P k m n (k * m + 1) _ HSm.out.prime Hnk.out (by omega) hn7 rfl Hs.out.1 (by have := Hs.out.2.1; omega) (gcOk_of HSm.out)).mono ?_
        rintro e w5 ⟨rfl, hb5⟩
        rw [Htot.out]
        go_wp2_with fail
        go_ret
        exact ⟨rfl, HB3.out.trans ((hb.out.trans (hb5.mono hb.out.size)).mono HB3.out.size)⟩

end Go.Proofs.Ytoodgbflaaabmaa
