/-
  The draws: a space, two spaces.
  The draw of a shape in a box.
  The draws: a space and a flag with a shape; a small flag with two shapes.
  The laws' own comparisons: ints, matrices; how long the code is.
  The law FnConditions, walked.
-/
import Derived.Test.YtoodgbflaaabmaaJ15
import Derived.Test.YtoodgbflaaabmaaJ16
import Derived.Test.YtoodgbflaaabmaaJ10
import Derived.Test.YtoodgbflaaabmaaJ9
import Derived.Test.YtoodgbflaaabmaaJ1
import Derived.Test.YtoodgbflaaabmaaJ14
import Derived.Test.YtoodgbflaaabmaaJ4
namespace Go.Proofs.Ytoodgbflaaabmaa
set_option linter.all false
open Go.RowKit

set_option maxRecDepth 100000 in
set_option maxHeartbeats 4000000 in
theorem dSpace_any (k : Nat) (P : Int) (n : Nat) (w : World) (h : Cur w k) (hp : primeOk P = true) (h1 : 1 ≤ n) (hn : n ≤ 7) :
    Calls Try.prog 58 #[.pointer (some ⟨k, 0, none⟩), .int .i64 P, .int .i64 (n : Int)] w fun e w' =>
      ∃ (r : Nat) (u : Value) (D : List Int), e = .returned (.agg #[.int .i64 P, .int .i64 (r : Int), .int .i64 (n : Int), u]) ∧ OwnI 3 w' w.heap.size w'.heap.size u D ∧ IsSp P r n D ∧ Cur w' k ∧ Frm k (k + 1) w w' := by
  obtain ⟨hP2, hP7⟩ := primeOk_range hp
  have Hp := Lib.hid hp
  have hk := h.lt
  have z0 := heap_alloc_top w (.cells #[.int .i64 0, .int .i64 0, .int .i64 0, .slice none 0 0] 34)
  have Hc := Lib.hid (h.below (below_alloc w (.cells #[.int .i64 0, .int .i64 0, .int .i64 0, .slice none 0 0] 34)))
  have HZ1 := Lib.hid z0
  have Hb1 := Lib.hid (below_alloc w (.cells #[.int .i64 0, .int .i64 0, .int .i64 0, .slice none 0 0] 34))
  have hs1 : (w.alloc (.cells #[.int .i64 0, .int .i64 0, .int .i64 0, .slice none 0 0] 34)).heap.size = w.heap.size + 1 := size_alloc _ _
  clear h z0 hp
  have hnn : (n : Int) + 1 = ((n + 1 : Nat) : Int) := by omega
  have Hnn := Lib.hid hnn
  clear hnn
  go_enter Try.func58, Try.ntmps58
  go_wp2_with fail
  generalize w.alloc (.cells #[.int .i64 0, .int .i64 0, .int .i64 0, .slice none 0 0] 34) = w1 at *
  rw [Hnn.out]
  refine (l1Below_any k (n + 1) _ Hc.out (by omega) (by omega)).mono ?_
  rintro e w2 ⟨r, rfl, hr, hc2, hf2⟩
  have HZ2 := Lib.hid ((hf2.block w.heap.size (by omega) (Or.inr (by omega))).trans HZ1.out)
  have Hf2 := Lib.hid ((Frm.of_below Hb1.out _ _).trans hf2)
  have hs2 := hf2.size
  clear hf2
  have Hc2 := Lib.hid hc2
  clear hc2
  go_wp2_with fail
  refine (dMatrix_any k P r n _ Hc2.out Hp.out (by omega) hn).mono ?_
  rintro e w3 ⟨u, D, rfl, ho3, hl3, hD3, hc3, hf3⟩
  have HZ3 := Lib.hid ((hf3.block w.heap.size (by omega) (Or.inr (by omega))).trans HZ2.out)
  have Hf3 := Lib.hid (Hf2.out.trans hf3)
  have hs3 := hf3.size
  have Hc3 := Lib.hid hc3
  have Ho3 := Lib.hid ho3
  have Hl3 := Lib.hid hl3
  have HD3 := Lib.hid (fun t => getD_range hD3 (by omega) t)
  clear hf3 hc3 ho3 hl3 hD3
  obtain ⟨p3, k3, rfl, _, _⟩ := Ho3.out.shape
  go_wp2_with fail
  refine (l7Span_any P r n _ D _ Ho3.out.ints Hl3.out HD3.out Hp.out (by omega) (by omega)).mono ?_
  rintro e w4 ⟨m, M, q, hred, hm, v, rfl, ho4, hb4⟩
  obtain ⟨L, hL⟩ : ∃ L, L = flatM m n M := ⟨_, rfl⟩
  rw [← hL] at ho4 ⊢
  have HL := Lib.hid hL
  have Ho4 := Lib.hid ho4
  have hs4 := hb4.size
  have HZ4 := Lib.hid (blk_later HZ3.out hb4)
  have Hc4 := Lib.hid (Hc3.out.below hb4)
  have Hf4 := Lib.hid (Hf3.out.trans (Frm.of_below hb4 _ _))
  have Hred := Lib.hid hred
  obtain ⟨p4, k4, rfl, _, _⟩ := ho4.shape
  clear hL ho4 hb4 hred
  obtain ⟨n0, n1, n2, n3, nf', nz⟩ := blk4 HZ4.out
  go_wp2_with fail
  obtain ⟨f0, f1, f2, f3, ff, fz⟩ := blk4 (set4_all HZ4.out (.int .i64 P) (.int .i64 m) (.int .i64 n) (.slice p4 L.length k4))
  refine bodyPost_ret (v := .agg #[.int .i64 P, .int .i64 m, .int .i64 n, .slice p4 L.length k4]) (by simp [results, Try.results58, go_sem, f0, f1, f2, f3, fz]) rfl ⟨m, _, L, rfl, ?_, ?_, ?_, ?_⟩
  · exact (own_set4 Ho4.out (.inl (by omega)) _ _ _ _).mono (by omega) (by simp only [size_setCell]; omega)
  · rw [HL.out]; exact Hred.out.isSp Hp.out h1 hn
  · exact Hc4.out.keepB (below_set4 (Below.refl w.heap.size w4) (Nat.le_refl _) _ _ _ _) hk
  · exact Hf4.out.thenB (below_set4 (Below.refl w.heap.size w4) (Nat.le_refl _) _ _ _ _) (Nat.le_refl _)

theorem set4_other {w : World} {b b' : Nat} {o : Obj} (h : w.heap[b]? = some o) (hne : b ≠ b') (x0 x1 x2 x3 : Value) : ((((w.setCell ⟨b', 0, none⟩ x0).setCell ⟨b', 1, none⟩ x1).setCell ⟨b', 2, none⟩ x2).setCell ⟨b', 3, none⟩ x3).heap[b]? = some o := by
  rw [heap_set4 hne]; exact h

end Go.Proofs.Ytoodgbflaaabmaa

namespace Go.Proofs.Ytoodgbflaaabmaa
set_option linter.all false
open Go.RowKit

/-- i parts are drawn, m is the most that the next may have -/
structure ShUp (xs : List Int) (i c m : Nat) : Prop where
  len : xs.length = i
  each : ∀ j, j < i → shAt xs j
  le : m ≤ c
  zero : i = 0 → m = c
  last : 0 < i → xs.getD (i - 1) 0 = (m : Int)
  first : 0 < i → xs.getD 0 0 ≤ (c : Int)
theorem ShUp.nil (c : Nat) : ShUp [] 0 c c := ⟨rfl, fun j h => absurd h (Nat.not_lt_zero _), Nat.le_refl _, fun _ => rfl, fun h => absurd h (Nat.lt_irrefl _), fun h => absurd h (Nat.lt_irrefl _)⟩
theorem ShUp.snoc {xs : List Int} {i c m x : Nat} (h : ShUp xs i c m) (hc : c ≤ 16) (h1 : 1 ≤ x) (hx : x ≤ m) : ShUp (xs ++ [(x : Int)]) (i + 1) c x := by
  obtain ⟨hl, he, hle, hz, hla, hfi⟩ := h
  have old : ∀ j, j < i → (xs ++ [(x : Int)]).getD j 0 = xs.getD j 0 := fun j hj => by
    rw [List.getD_eq_getElem?_getD, List.getElem?_append_left (by omega), ← List.getD_eq_getElem?_getD]
  have new : (xs ++ [(x : Int)]).getD i 0 = (x : Int) := by
    rw [List.getD_eq_getElem?_getD, List.getElem?_append_right (by omega)]
    simp [hl]
  refine ⟨by simp [hl], fun j hj => ?_, by omega, fun e => absurd e (by omega), fun _ => by rw [Nat.add_sub_cancel]; exact new, fun _ => ?_⟩
  · unfold shAt
    by_cases e : j < i
    · have := he j e
      unfold shAt at this
      rw [old j e]
      refine ⟨this.1, this.2.1, fun h0 => ?_⟩
      rw [old (j - 1) (by omega)]
      exact this.2.2 h0
    · obtain rfl : j = i := by omega
      rw [new]
      refine ⟨by omega, by omega, fun h0 => ?_⟩
      rw [old (j - 1) (by omega), hla h0]
      omega
  · by_cases e : i = 0
    · subst e
      rw [new]; omega
    · rw [old 0 (by omega)]; exact hfi (by omega)
theorem ShUp.box {xs : List Int} {i r c m : Nat} (h : ShUp xs i c m) (hi : i ≤ r) (hr : r ≤ 16) : bxOk xs r (r + c) = true := by
  obtain ⟨hl, he, hle, hz, hla, hfi⟩ := h
  rw [bx_end (shOk_yes (by omega) (fun j hj => he j (by omega))) (by omega)]
  refine decide_eq_true ?_
  by_cases e : i = 0
  · have : xs = [] := List.eq_nil_of_length_eq_zero (by omega)
    subst this
    show (0 : Int) ≤ _
    omega
  · have := hfi (by omega)
    omega

set_option maxRecDepth 100000 in
set_option maxHeartbeats 2000000 in
/-- any shape in a box -/
theorem dShape_any (k r c : Nat) (w : World) (h : Cur w k) (hr : r ≤ 7) (hc : c ≤ 7) :
    Calls Try.prog 48 #[.pointer (some ⟨k, 0, none⟩), .int .i64 (r : Int), .int .i64 (c : Int)] w fun e w' =>
      ∃ (u : Value) (xs : List Int), e = .returned u ∧ OwnI 3 w' w.heap.size w'.heap.size u xs ∧ bxOk xs r (r + c) = true ∧ Cur w' k ∧ Frm k (k + 1) w w' := by
  have Hc := Lib.hid h
  have hk := h.lt
  clear h
  go_enter Try.func48, Try.ntmps48
  go_wp2_with fail
  go_loopg [7, 8, 9] r (fun g s7 s8 s9 wr => ∃ (i m : Nat) (xs : List Int), i ≤ r ∧ g = r - i ∧ s9 = .int .i64 i ∧ s8 = .int .i64 m ∧ m ≤ c ∧ Hid (ShUp xs i c m) ∧ Hid (OwnI 3 wr w.heap.size wr.heap.size s7 xs) ∧ Hid (Cur wr k) ∧ Hid (Frm k (k + 1) w wr))
  case atStart =>
    refine ⟨0, c, [], Nat.zero_le _, rfl, rfl, rfl, Nat.le_refl _, ShUp.nil c, ?_, Hc.out.below (below_alloc w _), Frm.of_below (below_alloc w _) _ _⟩
    exact OwnF.ints ((OwnF.made0 w 3 (iv [])).mono (Nat.le_refl _) (by simp))
  case round =>
    obtain ⟨i, m, xs, hi, rfl, rfl, rfl, hm, hu, ho, hcu, hf⟩ := hrel
    have hsr := hf.out.size
    by_cases hlt : i < r
    · have hlt2 : (i : Int) < (r : Int) := by omega
      by_cases hm0 : 0 < m
      · have hm2 : (0 : Int) < (m : Int) := by omega
        have Hm1 := Lib.hid (show (m : Int) + 1 = ((m + 1 : Nat) : Int) by omega)
        obtain ⟨p5, k5, rfl, _, _⟩ := ho.out.shape
        have hofn := ho.out.fn
        have hml : xs.length = i := hu.out.len
        rw [hml] at hofn ⊢
        have Ho := Lib.hid hofn
        have Hoi := Lib.hid (show OwnI 3 wr w.heap.size wr.heap.size (.slice p5 i k5) xs by rw [← hml]; exact ho.out)
        have Hml := Lib.hid hml
        have Hcu := Lib.hid hcu.out
        have Hf := Lib.hid hf.out
        have Hu := Lib.hid hu.out
        have Hb1 := Lib.hid (show i + 1 ≤ maxLen by unfold maxLen; omega)
        have Hb2 := Lib.hid (show (i + 1) * 8 ≤ 140737488355328 by omega)
        clear ho hofn hml hcu hf hu
        go_wp2_with fail
        rw [Hm1.out]
        refine (l1Below_any k (m + 1) _ Hcu.out (by omega) (by omega)).mono ?_
        rintro e w1 ⟨x, rfl, hx, hc1, hf1⟩
        have hs1 := hf1.size
        have Ho1 := Lib.hid (Ho.out.frm hf1 (Or.inr (by omega)))
        have Hoi1 := Lib.hid (Hoi.out.frm hf1 (Or.inr (by omega)))
        have Hc1 := Lib.hid hc1
        have Hf1 := Lib.hid (Hf.out.trans hf1)
        clear hc1 hf1
        by_cases hx0 : x = 0
        · subst hx0
          go_wp2_with fail
          go_ret
          exact ⟨_, xs, rfl, by have := Hoi1.out.mono (Nat.le_refl _) hs1; exact this, Hu.out.box hi (by omega), Hc1.out, Hf1.out⟩
        · have hx2 : ¬ (x : Int) = 0 := by omega
          go_wp2_with (at_builtin; go_must (refine wpList_append_F rfl (.tmp 29) (.tmp 31) 24 rfl 3 (.int .i64 0) 8 Try.underlying24 info_int rfl w.heap.size wr.heap.size _ i (iv xs) rfl (Ho1.out.below (below_alloc w1 _)) (by rw [size_alloc]; omega) (by rw [size_alloc]; omega) _ 1 _ rfl (rd_one _ _ _ rfl) (fun j _ => rfl) Hb1.out Hb2.out ?_; intro v2 w2 ho2 hg2))
          go_roundg (r - (i + 1))
          case measure => omega
          case rel =>
            have hbx : Below w.heap.size w1 w2 := ((below_alloc w1 _).mono (by omega)).trans (grownBy_below hg2 Ho1.out.blocks (Nat.le_refl _) (by rw [size_alloc]; omega))
            refine ⟨i + 1, x, xs ++ [(x : Int)], by omega, rfl, by go_num, rfl, by omega, Hu.out.snoc (by omega) (by omega) (by omega), ?_, Hc1.out.keepB hbx hk, Hf1.out.thenB hbx (Nat.le_refl _)⟩
            exact OwnI.snoc1 (by rw [Hml.out]; exact ho2)
      · have hm2 : ¬ (0 : Int) < (m : Int) := by omega
        obtain ⟨p5, k5, rfl, _, _⟩ := ho.out.shape
        go_wp2_with fail
        go_ret
        exact ⟨_, rfl, xs, ho.out, hu.out.box hi (by omega), hcu.out, hf.out⟩
    · have hlt2 : ¬ (i : Int) < (r : Int) := by omega
      obtain ⟨p5, k5, rfl, _, _⟩ := ho.out.shape
      go_wp2_with fail
      go_ret
      exact ⟨_, rfl, xs, ho.out, hu.out.box hi (by omega), hcu.out, hf.out⟩

end Go.Proofs.Ytoodgbflaaabmaa

namespace Go.Proofs.Ytoodgbflaaabmaa
set_option linter.all false
open Go.RowKit

/-- the cells of two results, and the cursor -/
structure R2 (w : World) (k : Nat) (W : World) : Prop where
  z0 : ∃ y0 y1 y2 y3, W.heap[w.heap.size]? = some (.cells #[y0, y1, y2, y3] 34 (0, 0))
  z1 : ∃ y0 y1 y2 y3, W.heap[w.heap.size + 1]? = some (.cells #[y0, y1, y2, y3] 34 (0, 0))
  cu : Cur W k
  kk : w.heap.size + 1 < k
  be : Below w.heap.size w W
theorem R2.frm {w W W' : World} {k : Nat} (h : R2 w k W) (hf : Frm k (k + 1) W W') (hc : Cur W' k) : R2 w k W' := by
  obtain ⟨⟨a0, a1, a2, a3, a⟩, ⟨b0, b1, b2, b3, b⟩, cu, kk, be⟩ := h
  exact ⟨⟨a0, a1, a2, a3, (hf.block _ (blk_lt a) (Or.inl (by omega))).trans a⟩, ⟨b0, b1, b2, b3, (hf.block _ (blk_lt b) (Or.inl (by omega))).trans b⟩, hc, kk, be.trans (hf.below (by omega) be.size)⟩
theorem R2.below {w W W' : World} {k : Nat} (h : R2 w k W) (hb : Below W.heap.size W W') : R2 w k W' := h.frm (Frm.of_below hb _ _) (h.cu.below hb)
/-- one box -/
structure Q1 (b : Nat) (P : Int) (r n : Nat) (v : Value) (W : World) : Prop where
  a : W.heap[b]? = some (.cells #[.int .i64 P, .int .i64 (r : Int), .int .i64 (n : Int), v] 34 (0, 0))
theorem Q1.frm {b r n k : Nat} {P : Int} {v : Value} {W W' : World} (h : Q1 b P r n v W) (hf : Frm k (k + 1) W W') (ha : k < b) : Q1 b P r n v W' := ⟨(hf.block _ (blk_lt h.a) (Or.inr (by omega))).trans h.a⟩
theorem Q1.set {b r n t : Nat} {P : Int} {v : Value} {W : World} (h : Q1 b P r n v W) (ha : b ≠ t) (x0 x1 x2 x3 : Value) : Q1 b P r n v ((((W.setCell ⟨t, 0, none⟩ x0).setCell ⟨t, 1, none⟩ x1).setCell ⟨t, 2, none⟩ x2).setCell ⟨t, 3, none⟩ x3) := ⟨set4_other h.a ha _ _ _ _⟩
theorem Q1.drew {b r n : Nat} {P : Int} {v : Value} {W : World} (h : Q1 b P r n v W) : Q1 b P r n v W.drew := ⟨h.a⟩
theorem Q1.hold {b r n : Nat} {P : Int} {v : Value} {W : World} (h : Q1 b P r n v W) : (W.cell? ⟨b, 0, none⟩ = some (.int .i64 P) ∧ W.cell? ⟨b, 1, none⟩ = some (.int .i64 (r : Int)) ∧ W.cell? ⟨b, 2, none⟩ = some (.int .i64 (n : Int)) ∧ W.cell? ⟨b, 3, none⟩ = some v) := by
  obtain ⟨a0, a1, a2, a3, _, _⟩ := blk4 h.a
  exact ⟨a0, a1, a2, a3⟩

set_option maxRecDepth 100000 in
set_option maxHeartbeats 8000000 in
theorem DrawSpaceAndFlag_any (v : Value) (l : Nat) (w : World) (h : Byts w v l) :
    Calls Try.prog 25 #[v] w fun e w' =>
      ∃ (P : Int) (r n : Nat) (us uf ux : Value) (DS DF xs : List Int), e = .returned (.tuple #[.agg #[.int .i64 P, .int .i64 (r : Int), .int .i64 (n : Int), us], .agg #[.int .i64 P, .int .i64 (n : Int), .int .i64 (n : Int), uf], ux]) ∧
        n ≤ 5 ∧ r ≤ n ∧ 1 ≤ n ∧ (Ints w' us DS ∧ IsSp P r n DS) ∧ (Ints w' uf DF ∧ IsFl P n n DF) ∧ (Ints w' ux xs ∧ bxOk xs r n = true) ∧ Below w.heap.size w w' := by
  have Hc := Lib.hid (h.below (below_alloc2 w (.cells #[.int .i64 0, .int .i64 0, .int .i64 0, .slice none 0 0] 34) (.cells #[.int .i64 0, .int .i64 0, .int .i64 0, .slice none 0 0] 34)))
  obtain ⟨z0, z1⟩ := boxes_ab w (.cells #[.int .i64 0, .int .i64 0, .int .i64 0, .slice none 0 0] 34) (.cells #[.int .i64 0, .int .i64 0, .int .i64 0, .slice none 0 0] 34)
  have Hb1 := Lib.hid (below_alloc2 w (.cells #[.int .i64 0, .int .i64 0, .int .i64 0, .slice none 0 0] 34) (.cells #[.int .i64 0, .int .i64 0, .int .i64 0, .slice none 0 0] 34))
  have hs1 : ((w.alloc (.cells #[.int .i64 0, .int .i64 0, .int .i64 0, .slice none 0 0] 34)).alloc (.cells #[.int .i64 0, .int .i64 0, .int .i64 0, .slice none 0 0] 34)).heap.size = w.heap.size + 1 + 1 := by simp
  have Y0 := Lib.hid z0
  have Y1 := Lib.hid z1
  obtain ⟨_, _, cap, rfl, _⟩ := h
  clear z0 z1
  go_enter Try.func25, Try.ntmps25
  go_wp2_with fail
  generalize (w.alloc (.cells #[.int .i64 0, .int .i64 0, .int .i64 0, .slice none 0 0] 34)).alloc (.cells #[.int .i64 0, .int .i64 0, .int .i64 0, .slice none 0 0] 34) = w1 at *
  refine (l1New_any _ l _ Hc.out).mono ?_
  rintro e w2 ⟨rfl, hc2, hb2⟩
  rw [hs1] at hc2 ⊢
  have hR2 : R2 w (w.heap.size + 1 + 1) w2 := ⟨⟨_, _, _, _, blk_later Y0.out hb2⟩, ⟨_, _, _, _, blk_later Y1.out hb2⟩, hc2, by omega, Hb1.out.trans (hb2.mono (by omega))⟩
  have HR2 := Lib.hid hR2
  have hk2 := hc2.lt
  clear hR2 hc2 hb2 Y0 Y1 Hb1 Hc
  go_wp2_with fail
  refine (dPrime_any (w.heap.size + 1 + 1) _ HR2.out.cu).mono ?_
  rintro e w3 ⟨P, rfl, hp, hc3, hf3⟩
  have Hp := Lib.hid hp
  have HR3 := Lib.hid (HR2.out.frm hf3 hc3)
  have hs3 := hf3.size
  clear hp hc3 hf3
  go_wp2_with fail
  refine (l1Below_any (w.heap.size + 1 + 1) 5 _ HR3.out.cu (by omega) (by omega)).mono ?_
  rintro e w4 ⟨m, rfl, hm, hc4, hf4⟩
  have HR4 := Lib.hid (HR3.out.frm hf4 hc4)
  have hs4 := hf4.size
  have hmm : 1 + (m : Int) = ((m + 1 : Nat) : Int) := by omega
  obtain ⟨n, hn⟩ : ∃ n, n = m + 1 := ⟨_, rfl⟩
  rw [← hn] at hmm
  have Hmm := Lib.hid hmm
  have hn1 : 1 ≤ n := by omega
  have hn5 : n ≤ 5 := by omega
  clear hn hc4 hf4 hmm
  go_wp2_with fail
  rw [Hmm.out]
  refine (dSpace_any (w.heap.size + 1 + 1) P n _ HR4.out.cu Hp.out hn1 (by omega)).mono ?_
  rintro e w5 ⟨r, us, DS, rfl, hoS, hsS, hc5, hf5⟩
  have hrn : r ≤ n := by
    obtain ⟨r', c', e1, e2, _, _, _, _, _, _, _, _, hk⟩ := hsS.facts
    obtain rfl := Int.ofNat.inj e1
    obtain rfl := Int.ofNat.inj e2
    exact hk.leC
  obtain ⟨pS, kS, rfl, _, _⟩ := hoS.shape
  have HoS := Lib.hid hoS
  have HsS := Lib.hid hsS
  have HR5 := Lib.hid (HR4.out.frm hf5 hc5)
  have hs5 := hf5.size
  clear hoS hsS hc5 hf5
  go_wp2_with fail
  obtain ⟨w6, hw6⟩ : ∃ x : World, x = w5.alloc (.cells #[.int .i64 P, .int .i64 (r : Int), .int .i64 (n : Int), .slice pS DS.length kS] 34) := ⟨_, rfl⟩
  have hz6 : w6.heap[w5.heap.size]? = some (.cells #[.int .i64 P, .int .i64 (r : Int), .int .i64 (n : Int), .slice pS DS.length kS] 34) := by rw [hw6]; exact heap_alloc_top _ _
  have hb6 : Below w5.heap.size w5 w6 := by rw [hw6]; exact below_alloc _ _
  have hs6 : w6.heap.size = w5.heap.size + 1 := by rw [hw6]; exact size_alloc _ _
  rw [← hw6]
  have HoS6 := Lib.hid (HoS.out.below hb6)
  have HR6 := Lib.hid (HR5.out.below hb6)
  have HQ := Lib.hid (show Q1 w5.heap.size P r n (.slice pS DS.length kS) w6 from ⟨hz6⟩)
  have nk : w.heap.size + 1 + 1 < w5.heap.size := by have := HR5.out.cu.lt; exact this
  have na0 : w5.heap.size ≠ w.heap.size := by omega
  have na1 : w5.heap.size ≠ w.heap.size + 1 := by omega
  have Hnr := Lib.hid (show (n : Int) - (r : Int) = ((n - r : Nat) : Int) by omega)
  have Hw := Lib.hid (show IntKind.i64.wrap ((n : Int) - (r : Int)) = ((n - r : Nat) : Int) by rw [k64 (by omega) (by omega)]; omega)
  have Hrn2 := Lib.hid (show r + (n - r) = n by omega)
  clear hw6 hz6 hb6
  obtain ⟨a0, a1, a2, a3, af, az⟩ := blk4 HQ.out.a
  go_region_held3 (fun w' => w'.cell? ⟨w5.heap.size, 0, none⟩ = some (.int .i64 P) ∧ w'.cell? ⟨w5.heap.size, 1, none⟩ = some (.int .i64 (r : Int)) ∧ w'.cell? ⟨w5.heap.size, 2, none⟩ = some (.int .i64 (n : Int)) ∧ w'.cell? ⟨w5.heap.size, 3, none⟩ = some (.slice pS DS.length kS))
    (first | with_reducible exact HQ.out.drew.hold | with_reducible exact HQ.out.hold | with_reducible exact hq2.hold | with_reducible exact hq1.hold | with_reducible exact (hq2.set na0 _ _ _ _).hold | with_reducible exact ((hq2.set na0 _ _ _ _).set na1 _ _ _ _).hold | (trace_state; fail))
    (first
      | (go_at_call 48; (first | rw [Hw.out] | rw [Hnr.out]); refine (dShape_any (w.heap.size + 1 + 1) r (n - r) _ (hR1.below (by first | exact Below.refl _ _ | exact (Below.refl _ _).drew)).cu (by omega) (by omega)).mono ?_; rintro e w' ⟨ux, xs, rfl, hoX, hbX, hc1, hf1⟩; obtain ⟨pX, kX, rfl, _, _⟩ := hoX.shape; have hoF2 := (OwnI.below hoF (by first | exact Below.refl _ _ | exact (Below.refl _ _).drew)).frm hf1 (Or.inr (Nat.le_of_lt_succ (Nat.lt_succ_of_le hlC))); have hR2 := (hR1.below (by first | exact Below.refl _ _ | exact (Below.refl _ _).drew)).frm hf1 hc1; have hq2 := (hq1.frm (Frm.of_below (by first | exact Below.refl _ _ | exact (Below.refl _ _).drew) (w.heap.size + 1 + 1) ((w.heap.size + 1 + 1) + 1)) nk).frm hf1 nk; obtain ⟨s0, s1, s2, s3, hz0⟩ := hR2.z0; obtain ⟨t0, t1, t2, t3, hz1⟩ := hR2.z1; obtain ⟨f0, f1, f2, f3, f4, f5⟩ := blk4 hz0; obtain ⟨g0, g1, g2, g3, g4, g5⟩ := blk4 hz1)
      | (go_at_call 47; refine (dFlag_any (w.heap.size + 1 + 1) n P _ (HR6.out.below (by first | exact Below.refl _ _ | exact (Below.refl _ _).drew)).cu Hp.out hn1 hn5).mono ?_; rintro e w' ⟨pF, kF, DF, rfl, hoF, hsF, hc1, hf1⟩; have hlC : w.heap.size + 1 + 1 + 1 ≤ w6.heap.size := HR6.out.cu.lt; have hR1 := (HR6.out.below (by first | exact Below.refl _ _ | exact (Below.refl _ _).drew)).frm hf1 hc1; have hq1 := (HQ.out.frm (Frm.of_below (by first | exact Below.refl _ _ | exact (Below.refl _ _).drew) (w.heap.size + 1 + 1) ((w.heap.size + 1 + 1) + 1)) nk).frm hf1 nk; have hf7 := Lib.hid ((Frm.of_below (by first | exact Below.refl _ _ | exact (Below.refl _ _).drew) (w.heap.size + 1 + 1) ((w.heap.size + 1 + 1) + 1)).trans hf1); clear hf1))
  have n1 : w.heap.size ≠ w.heap.size + 1 := by omega
  have hF6 : w6.heap.size ≤ w'.heap.size := by
    have h8 : w6.heap.size ≤ _ := hf7.out.size
    have h9 := hf1.size
    omega
  have q0 := own_set4 (own_set4 (((HoS6.out.below (Below.refl _ _).drew).frm hf7.out (Or.inr (by omega))).frm hf1 (Or.inr (by omega))) (Or.inl (show w.heap.size < w4.heap.size by omega)) (.int .i64 P) (.int .i64 (r : Int)) (.int .i64 (n : Int)) (.slice pS DS.length kS)) (Or.inl (show w.heap.size + 1 < w4.heap.size by omega)) (.int .i64 P) (.int .i64 (n : Int)) (.int .i64 (n : Int)) (.slice pF DF.length kF)
  have q1 := own_set4 (own_set4 hoF2 (Or.inl (show w.heap.size < w6.drew.heap.size by show w.heap.size < w6.heap.size; omega)) (.int .i64 P) (.int .i64 (r : Int)) (.int .i64 (n : Int)) (.slice pS DS.length kS)) (Or.inl (show w.heap.size + 1 < w6.drew.heap.size by show w.heap.size + 1 < w6.heap.size; omega)) (.int .i64 P) (.int .i64 (n : Int)) (.int .i64 (n : Int)) (.slice pF DF.length kF)
  have hX5 := hR1.cu.lt
  have q2 := own_set4 (b := w.heap.size + 1) (own_set4 (b := w.heap.size) hoX (Or.inl (by omega)) (.int .i64 P) (.int .i64 (r : Int)) (.int .i64 (n : Int)) (.slice pS DS.length kS)) (Or.inl (by omega)) (.int .i64 P) (.int .i64 (n : Int)) (.int .i64 (n : Int)) (.slice pF DF.length kF)
  have r0 := set4_other (set4_all hz0 (.int .i64 P) (.int .i64 (r : Int)) (.int .i64 (n : Int)) (.slice pS DS.length kS)) n1 (.int .i64 P) (.int .i64 (n : Int)) (.int .i64 (n : Int)) (.slice pF DF.length kF)
  have r1 := set4_all (set4_other hz1 n1.symm (.int .i64 P) (.int .i64 (r : Int)) (.int .i64 (n : Int)) (.slice pS DS.length kS)) (.int .i64 P) (.int .i64 (n : Int)) (.int .i64 (n : Int)) (.slice pF DF.length kF)
  have r4 := below_set4 (below_set4 hR2.be (Nat.le_refl _) (.int .i64 P) (.int .i64 (r : Int)) (.int .i64 (n : Int)) (.slice pS DS.length kS)) (Nat.le_succ _) (.int .i64 P) (.int .i64 (n : Int)) (.int .i64 (n : Int)) (.slice pF DF.length kF)
  rw [Hrn2.out] at hbX
  clear hoF hc1 hf1 hf7 hoX hoF2 hR2 hR1 hq2 hq1 hz0 hz1 f0 f1 f2 f3 f4 f5 g0 g1 g2 g3 g4 g5
  generalize ((((((((w').setCell ⟨w.heap.size, 0, none⟩ (.int .i64 P)).setCell ⟨w.heap.size, 1, none⟩ (.int .i64 (r : Int))).setCell ⟨w.heap.size, 2, none⟩ (.int .i64 (n : Int))).setCell ⟨w.heap.size, 3, none⟩ (.slice pS DS.length kS)).setCell ⟨w.heap.size + 1, 0, none⟩ (.int .i64 P)).setCell ⟨w.heap.size + 1, 1, none⟩ (.int .i64 (n : Int))).setCell ⟨w.heap.size + 1, 2, none⟩ (.int .i64 (n : Int))).setCell ⟨w.heap.size + 1, 3, none⟩ (.slice pF DF.length kF) = wz at q0 q1 q2 r0 r1 r4 ⊢
  obtain ⟨c00, c01, c02, c03, c0f, c0z⟩ := blk4 r0
  obtain ⟨c10, c11, c12, c13, c1f, c1z⟩ := blk4 r1
  go_wp2_with fail
  refine bodyPost_ret (v := .tuple #[.agg #[.int .i64 P, .int .i64 (r : Int), .int .i64 (n : Int), .slice pS DS.length kS], .agg #[.int .i64 P, .int .i64 (n : Int), .int .i64 (n : Int), .slice pF DF.length kF], .slice pX xs.length kX]) (by simp [results, Try.results25, go_sem, c00, c01, c02, c03, c0z, c10, c11, c12, c13, c1z]) rfl ?_
  refine ⟨P, r, n, .slice pS DS.length kS, .slice pF DF.length kF, .slice pX xs.length kX, DS, DF, xs, ?_, hn5, hrn, hn1, ⟨?_, ?_⟩, ⟨?_, ?_⟩, ⟨?_, ?_⟩, ?_⟩
  · rfl
  · exact q0.ints
  · exact HsS.out
  · exact q1.ints
  · exact hsF
  · exact q2.ints
  · exact hbX
  · exact r4

end Go.Proofs.Ytoodgbflaaabmaa

namespace Go.Proofs.Ytoodgbflaaabmaa
set_option linter.all false
open Go.RowKit

set_option maxRecDepth 100000 in
set_option maxHeartbeats 400000 in
theorem lawInts_any (v1 v2 : Value) (xs ys : List Int) (w : World) (h1 : Ints w v1 xs) (h2 : Ints w v2 ys) :
    Calls Try.prog 15 #[v1, v2] w fun e w' => e = .returned (.bool (decide (xs = ys))) ∧ Qt w w' := by
  obtain ⟨p, cap, rfl, ⟨hx1, hx⟩, hxc⟩ := h1
  obtain ⟨q, cap', rfl, ⟨hy1, hy⟩, hyc⟩ := h2
  unfold maxLen at hx hy
  by_cases hl : xs.length = ys.length
  · have e1 : ((xs.length : Int) != (ys.length : Int)) = false := by simp [hl]
    have Hl := Lib.hid hl
    clear hl
    go_enter Try.func15, Try.ntmps15
    go_wp2
    clear e1
    go_loopg [5] xs.length (fun g i wr => ∃ k : Nat, k ≤ xs.length ∧ g = xs.length - k ∧ i = .int .i64 k ∧ Qt w wr ∧ Hid (∀ j, j < k → xs.getD j 0 = ys.getD j 0))
    case atStart => exact ⟨0, Nat.zero_le _, rfl, rfl, Qt.refl _, fun j hj => absurd hj (Nat.not_lt_zero _)⟩
    case round =>
      obtain ⟨k, hk, rfl, rfl, hq, hp⟩ := hrel
      by_cases hlt : k < xs.length
      · obtain ⟨b, off, rfl, hc⟩ := hxc (by omega)
        have hl := Hl.out
        obtain ⟨b', off', rfl, hc'⟩ := hyc (by omega)
        have c1 := hq.cell (hc k hlt)
        have c2 := hq.cell (hc' k (by omega))
        have hk2 : k < ys.length := by omega
        unfold iv at c1 c2
        clear hl hxc hyc hc hc'
        go_wp2
        go_quiet (fail)
        go_wp2
        · have ht : (xs[k] != ys[k]) = true := by assumption
          go_ret
          refine ⟨ret_bool ?_, hq.drewN _⟩
          symm
          simp only [decide_eq_false_iff_not]
          intro e
          subst e
          simp at ht
        · have ht : (xs[k] != ys[k]) = false := by assumption
          go_roundg (xs.length - (k + 1))
          case measure => omega
          case rel =>
            refine ⟨k + 1, by omega, rfl, by go_num, hq.drewN _, eq_snoc hp.out ?_⟩
            have := by simpa using ht
            simpa [List.getD_eq_getElem?_getD, hlt, hk2] using this
      · go_wp2
        go_ret
        refine ⟨ret_bool ?_, hq⟩
        symm
        simp only [decide_eq_true_eq]
        exact getD_eq_list Hl.out fun j hj => hp.out j (by omega)
  · have e1 : ((xs.length : Int) != (ys.length : Int)) = true := by simp; omega
    go_enter Try.func15, Try.ntmps15
    go_wp2
    go_ret
    refine ⟨ret_bool ?_, Qt.refl _⟩
    symm
    simp only [decide_eq_false_iff_not]
    intro e
    exact hl (by rw [e])

set_option maxRecDepth 100000 in
set_option maxHeartbeats 1000000 in
theorem lawMatrices_any (P R C P' R' C' : Int) (d d' : Value) (xs ys : List Int) (w : World) (h : Ints w d xs) (h' : Ints w d' ys) :
    Calls Try.prog 14 #[.agg #[.int .i64 P, .int .i64 R, .int .i64 C, d], .agg #[.int .i64 P', .int .i64 R', .int .i64 C', d']] w fun e w' =>
      e = .returned (.bool (mxSame P R C xs P' R' C' ys)) ∧ Below w.heap.size w w' := by
  by_cases e1 : P = P'
  · subst e1
    by_cases e2 : R = R'
    · subst e2
      by_cases e3 : C = C'
      · subst e3
        have hn := fun o o' => lawInts_any d d' xs ys ((w.alloc o).alloc o') (h.below (below_alloc2 w o o')) (h'.below (below_alloc2 w o o'))
        cases hx : decide (xs = ys) with
        | true =>
          rw [hx] at hn
          have Hn := Lib.hid hn
          have Hx := Lib.hid hx
          clear hn hx
          go_enter Try.func14, Try.ntmps14
          go_wp2_with (go_at_call 15; refine (Hn.out _ _).mono ?_; rintro e w' ⟨rfl, hq⟩)
          go_ret
          have := of_decide_eq_true Hx.out
          exact ⟨ret_bool (by simp [mxSame, this]), (below_alloc2 _ _ _).trans (hq.below _)⟩
        | false =>
          rw [hx] at hn
          have Hn := Lib.hid hn
          have Hx := Lib.hid hx
          clear hn hx
          go_enter Try.func14, Try.ntmps14
          go_wp2_with (go_at_call 15; refine (Hn.out _ _).mono ?_; rintro e w' ⟨rfl, hq⟩)
          go_ret
          have := of_decide_eq_false Hx.out
          exact ⟨ret_bool (by simp [mxSame, this]), (below_alloc2 _ _ _).trans (hq.below _)⟩
      · have hz : (C == C') = false := by simp [e3]
        go_enter Try.func14, Try.ntmps14
        go_wp2_with fail
        go_ret
        exact ⟨ret_bool (by simp [mxSame, e3]), below_alloc2 _ _ _⟩
    · have hz : (R == R') = false := by simp [e2]
      go_enter Try.func14, Try.ntmps14
      go_wp2_with fail
      go_ret
      exact ⟨ret_bool (by simp [mxSame, e2]), below_alloc2 _ _ _⟩
  · have hz : (P == P') = false := by simp [e1]
    go_enter Try.func14, Try.ntmps14
    go_wp2_with fail
    go_ret
    exact ⟨ret_bool (by simp [mxSame, e1]), below_alloc2 _ _ _⟩

set_option maxRecDepth 100000 in
set_option maxHeartbeats 400000 in
theorem big_any (p : Option Addr) (n cap : Nat) (w : World) (hn : n ≤ maxLen) :
    Calls Try.prog 7 #[.slice p n cap] w fun e w' => e = .returned (.bool (decide (1048576 < n))) ∧ w = w' := by
  unfold maxLen at hn
  go_enter Try.func7, Try.ntmps7
  by_cases h : 1048576 < n
  · have h2 : (1048576 : Int) < (n : Int) := by omega
    go_wp2
    go_ret
    exact ⟨ret_bool (by simp [h]), rfl⟩
  · have h2 : ¬ (1048576 : Int) < (n : Int) := by omega
    go_wp2
    go_ret
    exact ⟨ret_bool (by simp [h]), rfl⟩

section
open Go.ChangeShapes Go.WideShapes Go.RowKit Go.Deep Go.WideElems Go.Maps
/-- bytes that came in -/
theorem trod_byts {H : Type} {enc : TypeId × Value → H} {P : Program} {W : World} {m : Nat} {t e : TypeId} {a : Option Addr} {l c : Nat} {y : DataW H × List MemPlace}
    (ht : P.underlying t = some (.slice e)) (he : P.underlying e = some (.int .u8)) (hc : P.cellsOf e = 1)
    (h : DataW.trod enc P W 0 (fun _ => true) true m t [.slice a l c] = some y) : l ≤ maxLen ∧ Byts W (.slice a l c) l := by
  rcases open_ints ht he hc h with ⟨hcs, _⟩ | ⟨x, l', c', zs, hcs, _, hl, hm, hz, _, hcell, _⟩
  · injection hcs with hcs
    injection hcs with h1 h2 h3
    subst h1 h2 h3
    exact ⟨Nat.zero_le _, fun _ => 0, none, 0, rfl, ⟨Nat.le_refl _, Nat.zero_le _⟩, fun h => absurd h (Nat.lt_irrefl _)⟩
  · injection hcs with hcs
    injection hcs with h1 h2 h3
    subst h1 h2 h3
    refine ⟨by omega, fun j => zs.getD j 0, some x, c, rfl, ⟨hl, hm⟩, fun h0 => ?_⟩
    have hz' : zs.length = c := by simpa using hz
    have h0' := hcell 0 (by omega)
    obtain ⟨b, off, spot⟩ := x
    have hs : spot = none := by
      cases spot with
      | none => rfl
      | some s => simp [Addr.add, World.cell?] at h0'; split at h0' <;> simp_all
    subst hs
    refine ⟨b, off, rfl, fun j hj => ?_⟩
    have hadd : (⟨b, off, none⟩ : Addr).add j = ⟨b, off + j, none⟩ := by unfold Addr.add; split <;> simp_all
    rw [← hadd]
    exact hcell j (by omega)
end

end Go.Proofs.Ytoodgbflaaabmaa

namespace Go.Proofs.Ytoodgbflaaabmaa
set_option linter.all false
open Go.RowKit

theorem keep8L {wr W W' : World} {a0 a1 a2 a3 a4 a5 a6 a7 : Addr} {v0 v1 v2 v3 v4 v5 v6 v7 : Value} (hb : Below W.heap.size W W') (h : (W.cell? a0 = some v0 ∧ W.cell? a1 = some v1 ∧ W.cell? a2 = some v2 ∧ W.cell? a3 = some v3 ∧ W.cell? a4 = some v4 ∧ W.cell? a5 = some v5 ∧ W.cell? a6 = some v6 ∧ W.cell? a7 = some v7) ∧ Below wr.heap.size wr W) : (W'.cell? a0 = some v0 ∧ W'.cell? a1 = some v1 ∧ W'.cell? a2 = some v2 ∧ W'.cell? a3 = some v3 ∧ W'.cell? a4 = some v4 ∧ W'.cell? a5 = some v5 ∧ W'.cell? a6 = some v6 ∧ W'.cell? a7 = some v7) ∧ Below wr.heap.size wr W' := by
  obtain ⟨⟨h0, h1, h2, h3, h4, h5, h6, h7⟩, hB⟩ := h
  exact ⟨⟨cell_below hb h0, cell_below hb h1, cell_below hb h2, cell_below hb h3, cell_below hb h4, cell_below hb h5, cell_below hb h6, cell_below hb h7⟩, below_trans hB hb⟩

set_option maxRecDepth 100000 in
set_option maxHeartbeats 8000000 in
theorem lawFnConditions (p : Option Addr) (l cap : Nat) (w : World) (hl : l ≤ maxLen) (h : Byts w (.slice p l cap) l) :
    Calls Try.prog 5 #[.slice p l cap] w fun e w' => e = .returned (.bool true) ∧ Below w.heap.size w w' := by
  have Hl := Lib.hid hl
  have Hh := Lib.hid h
  clear hl h
  go_enter Try.func5, Try.ntmps5
  go_wp2_with fail
  refine (big_any p l cap _ Hl.out).mono ?_
  rintro e w' ⟨rfl, rfl⟩
  by_cases hb : 1048576 < l
  · have e1 : decide (1048576 < l) = true := by simp [hb]
    rw [e1]
    go_wp2_with fail
    go_ret
    exact ⟨rfl, Below.refl _ _⟩
  · have e1 : decide (1048576 < l) = false := by simp [hb]
    rw [e1]
    clear e1 hb
    go_wp2_with fail
    refine (DrawSpaceAndFlag_any _ l _ Hh.out).mono ?_
    rintro e w1 ⟨P, r, n, us, uf, ux, DS, DF, DX, rfl, hn5, hrn, hn1, ⟨hiS, hsS⟩, ⟨hiF, hsF⟩, ⟨hiX, hbX⟩, hb1⟩
    have HsS := Lib.hid hsS
    have HsF := Lib.hid hsF
    have HbX := Lib.hid hbX
    have IS_1 := Lib.hid hiS
    have IF_1 := Lib.hid hiF
    have IX_1 := Lib.hid hiX
    obtain ⟨pS, kS, rfl, _, _⟩ := hiS
    obtain ⟨pF, kF, rfl, _, _⟩ := hiF
    obtain ⟨pX, kX, rfl, _, _⟩ := hiX
    have B_1 := Lib.hid hb1
    clear hsS hsF hbX hb1
    go_wp2_with fail
    refine (pos1 P r n _ _ DS DF ⟨HsS.out, HsF.out, rfl, rfl⟩ _ (IS_1.out.below (below_alloc2 w1 (.cells #[.int .i64 P, .int .i64 r, .int .i64 n, .slice pS DS.length kS] 34) (.cells #[.int .i64 P, .int .i64 n, .int .i64 n, .slice pF DF.length kF] 34))) (IF_1.out.below (below_alloc2 w1 (.cells #[.int .i64 P, .int .i64 r, .int .i64 n, .slice pS DS.length kS] 34) (.cells #[.int .i64 P, .int .i64 n, .int .i64 n, .slice pF DF.length kF] 34)))).mono ?_
    rintro e w2 ⟨pT, kT, DT, rfl, ho, hb, hC⟩
    have HC := Lib.hid hC
    have hoi := ho
    clear hC ho
    have bl2 : Below w1.heap.size w1 w2 := (below_alloc2 w1 (.cells #[.int .i64 P, .int .i64 r, .int .i64 n, .slice pS DS.length kS] 34) (.cells #[.int .i64 P, .int .i64 n, .int .i64 n, .slice pF DF.length kF] 34)).trans (hb.mono (by first | (simp; done) | (simp; omega)))
    have sz2 : w1.heap.size + 2 ≤ w2.heap.size := by have := hb.size; simp at this; omega
    have B_2 := Lib.hid (B_1.out.trans (bl2.mono B_1.out.size))
    obtain ⟨z0, z1⟩ := boxes_ab w1 (.cells #[.int .i64 P, .int .i64 r, .int .i64 n, .slice pS DS.length kS] 34) (.cells #[.int .i64 P, .int .i64 n, .int .i64 n, .slice pF DF.length kF] 34)
    have ZS_2 := Lib.hid ((hb.block _ (by simp; omega)).trans z0)
    have ZF_2 := Lib.hid ((hb.block _ (by simp)).trans z1)
    clear z0 z1
    have IF_2 := Lib.hid (IF_1.out.below bl2)
    have IS_2 := Lib.hid (IS_1.out.below bl2)
    have IX_2 := Lib.hid (IX_1.out.below bl2)
    clear hb bl2 IF_1 IS_1 IX_1 B_1
    have HT_2 := Lib.hid hoi
    clear hoi
    go_wp2_with fail
    refine (sos1 HC.out _ _ HT_2.out).mono ?_
    rintro e w3 ⟨pY, kY, DY, rfl, ho, hb, hY⟩
    have HY := Lib.hid hY
    have hoi := ho
    clear hY ho
    have bl3 : Below w2.heap.size w2 w3 := hb
    have sz3 : w2.heap.size ≤ w3.heap.size := hb.size
    have B_3 := Lib.hid (B_2.out.trans (bl3.mono B_2.out.size))
    have ZS_3 := Lib.hid (blk_later ZS_2.out bl3)
    have ZF_3 := Lib.hid (blk_later ZF_2.out bl3)
    have HT_3 := Lib.hid (HT_2.out.below bl3)
    have IF_3 := Lib.hid (IF_2.out.below bl3)
    have IS_3 := Lib.hid (IS_2.out.below bl3)
    have IX_3 := Lib.hid (IX_2.out.below bl3)
    clear hb bl3 ZS_2 ZF_2 HT_2 IF_2 IS_2 IX_2 B_2
    have IY_3 := Lib.hid (hoi)
    clear hoi
    obtain ⟨cS0, cS1, cS2, cS3, cSf, cSz⟩ := blk4 ZS_3.out
    go_wp2_with fail
    refine (dual1 HC.out hn1 (by omega) _ DY HY.out _ IY_3.out).mono ?_
    rintro e w4 ⟨pZ, kZ, DZ, rfl, ho, hb, hZ⟩
    have HZ := Lib.hid hZ
    have hoi := ho
    clear hZ ho
    have bl4 : Below w3.heap.size w3 w4 := hb
    have sz4 : w3.heap.size ≤ w4.heap.size := hb.size
    have B_4 := Lib.hid (B_3.out.trans (bl4.mono B_3.out.size))
    have ZS_4 := Lib.hid (blk_later ZS_3.out bl4)
    have ZF_4 := Lib.hid (blk_later ZF_3.out bl4)
    have HT_4 := Lib.hid (HT_3.out.below bl4)
    have IF_4 := Lib.hid (IF_3.out.below bl4)
    have IS_4 := Lib.hid (IS_3.out.below bl4)
    have IX_4 := Lib.hid (IX_3.out.below bl4)
    have IY_4 := Lib.hid (IY_3.out.below bl4)
    clear hb bl4 ZS_3 ZF_3 HT_3 IF_3 IS_3 IX_3 IY_3 B_3
    clear cS0 cS1 cS2 cS3 cSf cSz
    have IZ_4 := Lib.hid (hoi)
    clear hoi
    obtain ⟨c, hc⟩ : ∃ c, c = cnB DZ DX := ⟨_, rfl⟩
    have Hc := Lib.hid hc.symm
    have HsZ := Lib.hid (show shOk DZ = true by rw [HZ.out]; exact box_sh HC.out.dbox)
    have M1 := Lib.hid (show ∀ b, MfIs P r n DS P n n DF DX b → b = c from fun b hb => by rw [hc, HZ.out]; exact HC.out.met DX b HbX.out hb)
    have M2 := Lib.hid (show ∀ b, MfIs P r n DS P n n DF DZ b → b = true from fun b hb => by rw [HC.out.met DZ b (by rw [HZ.out]; exact HC.out.dbox) hb, ← HZ.out]; exact cn_refl HsZ.out)
    have M3 := Lib.hid (show ∀ b, MfIs P r n DS P n n DF [] b → b = true from fun b hb => by rw [HC.out.met [] b (box_nil hrn) hb, ← HZ.out]; exact cn_nil HsZ.out)
    clear hc
    obtain ⟨cS0, cS1, cS2, cS3, cSf, cSz⟩ := blk4 ZS_4.out
    obtain ⟨cF0, cF1, cF2, cF3, cFf, cFz⟩ := blk4 ZF_4.out
    go_wp2_with fail
    refine (mf1 P r n _ _ _ DS DF DX c M1.out _ IS_4.out IF_4.out IX_4.out).mono ?_
    rintro e w5 ⟨rfl, hb⟩
    have bl5 : Below w4.heap.size w4 w5 := hb
    have sz5 : w4.heap.size ≤ w5.heap.size := hb.size
    have B_5 := Lib.hid (B_4.out.trans (bl5.mono B_4.out.size))
    have ZS_5 := Lib.hid (blk_later ZS_4.out bl5)
    have ZF_5 := Lib.hid (blk_later ZF_4.out bl5)
    have HT_5 := Lib.hid (HT_4.out.below bl5)
    have IF_5 := Lib.hid (IF_4.out.below bl5)
    have IS_5 := Lib.hid (IS_4.out.below bl5)
    have IX_5 := Lib.hid (IX_4.out.below bl5)
    have IY_5 := Lib.hid (IY_4.out.below bl5)
    have IZ_5 := Lib.hid (IZ_4.out.below bl5)
    clear hb bl5 ZS_4 ZF_4 HT_4 IF_4 IS_4 IX_4 IY_4 IZ_4 B_4
    clear cS0 cS1 cS2 cS3 cSf cSz cF0 cF1 cF2 cF3 cFf cFz
    obtain ⟨cS0, cS1, cS2, cS3, cSf, cSz⟩ := blk4 ZS_5.out
    obtain ⟨cF0, cF1, cF2, cF3, cFf, cFz⟩ := blk4 ZF_5.out
    go_wp2_with fail
    refine (cns1 _ _ DZ DX c Hc.out _ IZ_5.out IX_5.out).mono ?_
    rintro e w6 ⟨rfl, hb⟩
    have bl6 : Below w5.heap.size w5 w6 := hb
    have sz6 : w5.heap.size ≤ w6.heap.size := hb.size
    have B_6 := Lib.hid (B_5.out.trans (bl6.mono B_5.out.size))
    have ZS_6 := Lib.hid (blk_later ZS_5.out bl6)
    have ZF_6 := Lib.hid (blk_later ZF_5.out bl6)
    have HT_6 := Lib.hid (HT_5.out.below bl6)
    have IF_6 := Lib.hid (IF_5.out.below bl6)
    have IS_6 := Lib.hid (IS_5.out.below bl6)
    have IX_6 := Lib.hid (IX_5.out.below bl6)
    have IY_6 := Lib.hid (IY_5.out.below bl6)
    have IZ_6 := Lib.hid (IZ_5.out.below bl6)
    clear hb bl6 ZS_5 ZF_5 HT_5 IF_5 IS_5 IX_5 IY_5 IZ_5 B_5
    clear cS0 cS1 cS2 cS3 cSf cSz cF0 cF1 cF2 cF3 cFf cFz
    obtain ⟨cS0, cS1, cS2, cS3, cSf, cSz⟩ := blk4 ZS_6.out
    obtain ⟨cF0, cF1, cF2, cF3, cFf, cFz⟩ := blk4 ZF_6.out
    go_wp2_with fail
    refine (mf1 P r n _ _ _ DS DF DZ true M2.out _ IS_6.out IF_6.out IZ_6.out).mono ?_
    rintro e w7 ⟨rfl, hb⟩
    have bl7 : Below w6.heap.size w6 w7 := hb
    have sz7 : w6.heap.size ≤ w7.heap.size := hb.size
    have B_7 := Lib.hid (B_6.out.trans (bl7.mono B_6.out.size))
    have ZS_7 := Lib.hid (blk_later ZS_6.out bl7)
    have ZF_7 := Lib.hid (blk_later ZF_6.out bl7)
    have HT_7 := Lib.hid (HT_6.out.below bl7)
    have IF_7 := Lib.hid (IF_6.out.below bl7)
    have IS_7 := Lib.hid (IS_6.out.below bl7)
    have IX_7 := Lib.hid (IX_6.out.below bl7)
    have IY_7 := Lib.hid (IY_6.out.below bl7)
    have IZ_7 := Lib.hid (IZ_6.out.below bl7)
    clear hb bl7 ZS_6 ZF_6 HT_6 IF_6 IS_6 IX_6 IY_6 IZ_6 B_6
    clear cS0 cS1 cS2 cS3 cSf cSz cF0 cF1 cF2 cF3 cFf cFz
    obtain ⟨cS0, cS1, cS2, cS3, cSf, cSz⟩ := blk4 ZS_7.out
    obtain ⟨cF0, cF1, cF2, cF3, cFf, cFz⟩ := blk4 ZF_7.out
    go_wp2_with fail
    refine (mf1 P r n _ _ _ DS DF [] true M3.out _ (IS_7.out.below (below_alloc _ _)) (IF_7.out.below (below_alloc _ _)) (ints_none _ _ _ (Nat.zero_le _))).mono ?_
    rintro e w8 ⟨rfl, hb⟩
    go_wp2_with fail
    go_ret
    exact ⟨rfl, B_7.out.trans (((below_alloc _ _).trans (hb.mono (by simp))).mono B_7.out.size)⟩

end Go.Proofs.Ytoodgbflaaabmaa
