/-
  Shapes and strings: shortened, ShapeOfString, DualShape, ContainsShape.
  Conditions of shapes: plain. What dimensions in common with a flag say of the position's shape.
  The draws: the cursor over the bytes, a number below another one.
  l7Corner, CornerRank. (DRAFT)
-/
import Derived.Test.YtoodgbflaaabmaaJ10
import Derived.Test.YtoodgbflaaabmaaJ13
import Derived.Test.YtoodgbflaaabmaaJ6
import Derived.Test.YtoodgbflaaabmaaJ12
import Derived.Test.YtoodgbflaaabmaaJ11
import Derived.Test.YtoodgbflaaabmaaJ1
import Derived.Test.YtoodgbflaaabmaaJ2
import Derived.Test.YtoodgbflaaabmaaJ7
namespace Go.Proofs.Ytoodgbflaaabmaa
set_option linter.all false
open Go.RowKit

/-- how many are left of the first n without the zeros at their end -/
def shN (xs : List Int) : Nat → Nat
  | 0 => 0
  | n + 1 => if xs.getD n 0 = 0 then shN xs n else n + 1
theorem shN_le (xs : List Int) : ∀ n, shN xs n ≤ n
  | 0 => Nat.le_refl _
  | n + 1 => by
    rw [shN]
    split
    · exact Nat.le_succ_of_le (shN_le xs n)
    · exact Nat.le_refl _
def shL (xs : List Int) : List Int := xs.take (shN xs xs.length)
theorem OwnF.made1 (w : World) (T : TypeId) (x : Value) : OwnF (w.alloc (.cells #[x] T)) w.heap.size (w.heap.size + 1) T (.slice (some ⟨w.heap.size, 0, none⟩) 1 1) 1 (fun _ => x) :=
  OwnF.mk' ⟨#[x], heap_alloc_top _ _, rfl, fun j hj => by obtain rfl : j = 0 := by omega
                                                          rfl⟩ (Nat.le_refl _) (Nat.lt_succ_self _) (Nat.le_refl _) (by unfold maxLen; omega) fun _ _ => rfl

set_option maxRecDepth 100000 in
set_option maxHeartbeats 2000000 in
theorem shortened_any (v : Value) (xs : List Int) (w : World) (h : Ints w v xs) :
    Calls Try.prog 86 #[v] w fun e w' => ∃ u, e = .returned u ∧ Ints w' u (shL xs) ∧ Qt w w' := by
  have Hh := Lib.hid h
  obtain ⟨p, cap, rfl, ⟨hx1, hx2⟩, hxc⟩ := h
  unfold maxLen at hx2
  go_enter Try.func86, Try.ntmps86
  go_wp2_with fail
  go_loopg [3] (xs.length + 1) (fun g s3 wr => ∃ k : Nat, k ≤ xs.length ∧ g = k + 1 ∧ s3 = .int .i64 k ∧ Qt w wr ∧ Hid (shN xs xs.length = shN xs k))
  case atStart => exact ⟨xs.length, Nat.le_refl _, rfl, rfl, Qt.refl _, Lib.hid rfl⟩
  case round =>
    obtain ⟨k, hk, rfl, rfl, hq, hp⟩ := hrel
    by_cases h0 : k = 0
    · subst h0
      go_wp2_with fail
      go_ret
      refine ⟨_, rfl, ?_, hq⟩
      have := ints_takeP Hh.out (i := 0) (Nat.zero_le _)
      unfold shL
      rw [hp.out]
      exact this.qt hq
    · obtain ⟨m, rfl⟩ : ∃ m, k = m + 1 := ⟨k - 1, by omega⟩
      obtain ⟨b, off, rfl, hc⟩ := hxc (by omega)
      obtain ⟨x, hx⟩ : ∃ x, x = xs.getD m 0 := ⟨_, rfl⟩
      have c1 := hq.cell (hc m (by omega))
      unfold iv at c1
      rw [← hx] at c1
      have Hx := Lib.hid hx
      have hm1 : (0 : Int) < ((m + 1 : Nat) : Int) := by omega
      have hm2 : ((m + 1 : Nat) : Int) - 1 = (m : Int) := by omega
      have hm3 : (m : Int) < (xs.length : Int) := by omega
      have hm4 : ((m + 1 : Nat) : Int) ≤ (cap : Int) := by omega
      have HN := Lib.hid (show shN xs (m + 1) = if xs.getD m 0 = 0 then shN xs m else m + 1 from rfl)
      clear hx hc hxc h0
      by_cases hx0 : x = 0
      · go_wp2_with fail
        go_roundg (m + 1)
        case measure => omega
        case rel => exact ⟨m, by omega, rfl, by go_num, hq, Lib.hid (by rw [hp.out, HN.out, if_pos (by rw [← Hx.out]; exact hx0)])⟩
      · go_wp2_with fail
        go_ret
        refine ⟨_, rfl, ?_, hq⟩
        have := ints_takeP Hh.out (i := m + 1) hk
        unfold shL
        rw [hp.out, HN.out, if_neg (by rw [← Hx.out]; exact hx0)]
        exact this.qt hq

theorem shapeOfRows_any (v : Value) (xs : List Int) (w : World) (h : Ints w v xs) :
    Calls Try.prog 61 #[v] w fun e w' => ∃ u, e = .returned u ∧ Ints w' u (shL xs) ∧ Qt w w' := by
  have Hh := Lib.hid h
  obtain ⟨p, cap, rfl, ⟨hx1, hx2⟩, hxc⟩ := h
  clear hxc
  go_enter Try.func61, Try.ntmps61
  go_wp2_with fail
  refine (shortened_any _ xs _ Hh.out).mono ?_
  rintro e w1 ⟨u, rfl, hi, hq⟩
  have Hi := Lib.hid hi
  obtain ⟨p1, c1, rfl, _, _⟩ := hi
  go_wp2_with fail
  go_ret
  exact ⟨_, rfl, Hi.out, hq⟩

/-! ### the shape of a string -/

def ssZ (t : List Int) : Nat → Nat
  | 0 => 0
  | i + 1 => if t.getD i 0 = 0 then ssZ t i + 1 else ssZ t i
def ssR (t : List Int) : Nat → List Int
  | 0 => []
  | i + 1 => if t.getD i 0 = 0 then ssR t i else (ssZ t i : Int) :: ssR t i
theorem ssZ_le (t : List Int) : ∀ i, ssZ t i ≤ i
  | 0 => Nat.le_refl _
  | i + 1 => by
    have := ssZ_le t i
    rw [ssZ]
    split <;> omega
theorem ssR_len (t : List Int) : ∀ i, (ssR t i).length ≤ i
  | 0 => Nat.le_refl _
  | i + 1 => by
    have := ssR_len t i
    rw [ssR]
    split
    · omega
    · rw [List.length_cons]; omega
theorem OwnI.cons1 {T : TypeId} {w : World} {lo hi n : Nat} {v : Value} {out : List Int} {x : Int} (hn : n = out.length) (h : OwnF w lo hi T v (1 + n) (fun j => if j < 1 then .int .i64 x else iv out (j - 1))) : OwnI T w lo hi v (x :: out) := by
  subst hn
  refine OwnF.ints ?_
  rw [List.length_cons, Nat.add_comm]
  refine h.congr fun j hj => ?_
  by_cases e : j = 0
  · subst e; rfl
  · rw [if_neg (by omega)]
    obtain ⟨i, rfl⟩ : ∃ i, j = i + 1 := ⟨j - 1, by omega⟩
    rfl

set_option maxRecDepth 100000 in
set_option maxHeartbeats 2000000 in
theorem ShapeOfString_any (v : Value) (t : List Int) (w : World) (h : Ints w v t) (ht : strOk t = true) :
    Calls Try.prog 27 #[v] w fun e w' => ∃ u, e = .returned (.tuple #[u, .int .i64 ((ssR t t.length).length : Int), .bool true]) ∧ Ints w' u (shL (ssR t t.length)) ∧ Below w.heap.size w w' := by
  have Hh := Lib.hid h
  have Ht := Lib.hid ht
  have h7 : t.length ≤ 7 := by
    unfold strOk at ht
    exact (of_decide_eq_true ht).2.1
  clear ht
  obtain ⟨p, cap, rfl, ⟨hx1, hx2⟩, hxc⟩ := h
  unfold maxLen at hx2
  go_enter Try.func27, Try.ntmps27
  go_wp2_with fail
  refine (implIsString_b _ t true Ht.out _ Hh.out).mono ?_
  rintro e w1 ⟨rfl, rfl⟩
  go_wp2_with fail
  go_loopg [5, 6, 8, 15] t.length (fun g s5 s6 s8 i wr => ∃ k : Nat, k ≤ t.length ∧ g = t.length - k ∧ i = .int .i64 k ∧ s6 = .int .i64 (ssZ t k : Nat) ∧ Hid (OwnI 3 wr w.heap.size wr.heap.size s5 (ssR t k)) ∧ Hid (Below w.heap.size w wr))
  case atStart => exact ⟨0, Nat.zero_le _, rfl, rfl, rfl, Lib.hid (OwnF.ints ((OwnF.made0 w 3 (iv [])).mono (Nat.le_refl _) (by simp))), Lib.hid (below_alloc _ _)⟩
  case round =>
    obtain ⟨k, hk, rfl, rfl, rfl, ho, hb⟩ := hrel
    have hsr := hb.out.size
    by_cases hlt : k < t.length
    · have hlt2 : (k : Int) < (t.length : Int) := by omega
      obtain ⟨b, off, rfl, hc⟩ := hxc (by omega)
      obtain ⟨x, hx⟩ : ∃ x, x = t.getD k 0 := ⟨_, rfl⟩
      have c0 := hc k hlt
      unfold iv at c0
      rw [← hx] at c0
      have c1 := cell_below hb.out c0
      have HX := Lib.hid hx
      obtain ⟨z, hz⟩ : ∃ z, z = ssZ t k := ⟨_, rfl⟩
      have hz7 : z ≤ 7 := by rw [hz]; exact Nat.le_trans (ssZ_le t k) (by omega)
      have HZ := Lib.hid hz
      rw [← hz]
      obtain ⟨q5, k5, rfl, _, _⟩ := ho.out.shape
      clear hx hc hxc hz c0
      by_cases hx0 : x = 0
      · have Hn1 := Lib.hid (show ssZ t (k + 1) = z + 1 by rw [ssZ, if_pos (by rw [← HX.out]; exact hx0), HZ.out])
        have Hn2 := Lib.hid (show ssR t (k + 1) = ssR t k by rw [ssR, if_pos (by rw [← HX.out]; exact hx0)])
        go_wp2_with fail
        go_roundg (t.length - (k + 1))
        case measure => omega
        case rel => exact ⟨k + 1, by omega, rfl, by go_num, by rw [Hn1.out]; go_num, by rw [Hn2.out]; exact ho, hb⟩
      · have Hn1 := Lib.hid (show ssZ t (k + 1) = z by rw [ssZ, if_neg (by rw [← HX.out]; exact hx0), HZ.out])
        have Hn2 := Lib.hid (show ssR t (k + 1) = (z : Int) :: ssR t k by rw [ssR, if_neg (by rw [← HX.out]; exact hx0), HZ.out])
        obtain ⟨L, hL⟩ : ∃ L, L = ssR t k := ⟨_, rfl⟩
        have hL7 : L.length ≤ 7 := by rw [hL]; exact Nat.le_trans (ssR_len t k) (by omega)
        rw [← hL] at ho Hn2 ⊢
        obtain ⟨n, hn⟩ : ∃ n, n = L.length := ⟨_, rfl⟩
        have Hrd := Lib.hid (show Rd wr (.slice q5 n k5) n (iv L) by rw [hn]; exact ho.out.ints)
        have Hn := Lib.hid hn
        rw [← hn] at hL7 ho ⊢
        have Hb1 := Lib.hid (show 1 + n ≤ maxLen by unfold maxLen; omega)
        have Hb2 := Lib.hid (show (1 + n) * 8 ≤ 140737488355328 by omega)
        clear hL hn
        go_wp2_with (at_builtin; go_must (refine wpList_append_F rfl (.tmp 24) (.tmp 25) 24 rfl 3 (.int .i64 0) 8 Try.underlying24 info_int rfl wr.heap.size (wr.heap.size + 1) _ 1 (fun _ => .int .i64 (z : Int)) rfl (OwnF.made1 wr 3 _) (by rw [size_alloc]; omega) (by rw [size_alloc]; omega) _ n (iv L) rfl (Hrd.out.below (below_alloc wr _)) (fun j _ => rfl) Hb1.out Hb2.out ?_; intro v2 w2 ho2 hg2))
        go_roundg (t.length - (k + 1))
        case measure => omega
        case rel =>
          have hbx : Below wr.heap.size wr w2 := (below_alloc wr _).trans (grownBy_below hg2 (OwnF.made1 wr 3 (.int .i64 (z : Int))).blocks (Nat.le_refl _) (by rw [size_alloc]; omega))
          exact ⟨k + 1, by omega, rfl, by go_num, by rw [Hn1.out], by rw [Hn2.out]; exact Lib.hid ((OwnI.cons1 Hn.out ho2).mono hsr (Nat.le_refl _)), Lib.hid (hb.out.trans (hbx.mono hsr))⟩
    · obtain rfl : k = t.length := by omega
      have hlt2 : ¬ (t.length : Int) < (t.length : Int) := by omega
      have hl7 : (ssR t t.length).length ≤ 7 := Nat.le_trans (ssR_len t _) h7
      obtain ⟨L, hL⟩ : ∃ L, L = ssR t t.length := ⟨_, rfl⟩
      rw [← hL] at ho hl7
      have HL := Lib.hid hL
      have Hoi := Lib.hid ho.out.ints
      obtain ⟨q5, k5, rfl, _, _⟩ := ho.out.shape
      clear ho hL hxc
      go_wp2_with fail
      refine (shapeOfRows_any _ L _ Hoi.out).mono ?_
      rintro e w2 ⟨u, rfl, hi, hq⟩
      have Hi := Lib.hid hi
      obtain ⟨p1, c1, rfl, _, _⟩ := hi
      go_wp2_with fail
      refine bodyPost_ret (v := .tuple #[.slice p1 (shL L).length c1, .int .i64 (L.length : Int), .bool true]) (by simp [results, Try.results27, go_sem]) rfl ?_
      rw [← HL.out]
      exact ⟨_, rfl, Hi.out, hb.out.trans (hq.below _)⟩

/-! ### what a shape leaves of its box -/

def duR (xs : List Int) (r c : Nat) : List Int := (List.range r).map fun b => (c : Int) - (r : Int) - xs.getD (r - 1 - b) 0
theorem duR_length (xs : List Int) (r c : Nat) : (duR xs r c).length = r := by simp [duR]
theorem duR_getD {xs : List Int} {r c b : Nat} (h : b < r) : (duR xs r c).getD b 0 = (c : Int) - (r : Int) - xs.getD (r - 1 - b) 0 := by simp [duR, List.getD_eq_getElem?_getD, h]
def duP (xs : List Int) (r c k : Nat) : List Int := (duR xs r c).take k
theorem duP_length {xs : List Int} {r c k : Nat} (h : k ≤ r) : (duP xs r c k).length = k := by simp [duP, duR_length]; omega
theorem duP_succ {xs : List Int} {r c k : Nat} (h : k < r) : duP xs r c (k + 1) = duP xs r c k ++ [(c : Int) - (r : Int) - xs.getD (r - 1 - k) 0] := by
  have hk : k < (duR xs r c).length := by rw [duR_length]; exact h
  unfold duP
  rw [List.take_succ, List.getElem?_eq_getElem hk, Option.toList, ← getD_lt hk, duR_getD h]
theorem rowOf_s2 (v : Value) (xs : List Int) (i : Nat) (s : Int) (hs : s = xs.getD i 0) (hi : i ≤ 1000000) (w : World) (h : Ints w v xs) :
    Calls Try.prog 63 #[v, .int .i64 (i : Int)] w fun e w' => e = .returned (.int .i64 s) ∧ Qt w w' := by
  rw [hs]
  exact rowOf_any v xs i w h hi

set_option maxRecDepth 100000 in
set_option maxHeartbeats 2000000 in
theorem DualShape_any (v : Value) (xs : List Int) (r c : Nat) (w : World) (h : Ints w v xs) (hx : bxOk xs r c = true) (hrc : r ≤ c) (hc0 : 1 ≤ c) (hc7 : c ≤ 7) (hr : ∀ i, i < r → 0 ≤ xs.getD i 0 ∧ xs.getD i 0 ≤ (c : Int) - (r : Int)) :
    Calls Try.prog 28 #[v, .int .i64 (r : Int), .int .i64 (c : Int)] w fun e w' => ∃ u, e = .returned u ∧ Ints w' u (shL (duR xs r c)) ∧ Below w.heap.size w w' := by
  have Hh := Lib.hid h
  have Hx := Lib.hid hx
  clear hx
  obtain ⟨p, cap, rfl, ⟨hx1, hx2⟩, hxc⟩ := h
  unfold maxLen at hx2
  clear hxc
  go_enter Try.func28, Try.ntmps28
  go_wp2_with fail
  refine (IsInBox_any _ xs r c _ (Hh.out.below (below_alloc w _)) hrc hc0 hc7).mono ?_
  rintro e w1 ⟨rfl, hq1⟩
  rw [Hx.out]
  have HB1 := Lib.hid ((below_alloc w (.cells #[] 3)).trans (hq1.below _))
  have HO1 := Lib.hid (show OwnI 3 w1 w.heap.size w1.heap.size (.slice (some ⟨w.heap.size, 0, none⟩) 0 0) [] from ((OwnF.ints (xs := []) (OwnF.made0 w 3 (iv []))).below (hq1.below _)).mono (Nat.le_refl _) (by rw [hq1.size]; simp))
  clear hq1
  go_wp2_with fail
  go_loopg [7, 8] (r + 1) (fun g s7 s8 wr => ∃ k : Nat, k ≤ r ∧ g = r - k + 1 ∧ s8 = .int .i64 ((r : Int) - 1 - (k : Int)) ∧ Hid (OwnI 3 wr w.heap.size wr.heap.size s7 (duP xs r c k)) ∧ Hid (Below w.heap.size w wr))
  case atStart => exact ⟨0, Nat.zero_le _, rfl, by go_num, HO1, HB1⟩
  case round =>
    obtain ⟨k, hk, rfl, rfl, ho, hb⟩ := hrel
    have hsr := hb.out.size
    by_cases hlt : k < r
    · obtain ⟨m, hm⟩ : ∃ m, m = r - 1 - k := ⟨_, rfl⟩
      have hmi : (r : Int) - 1 - (k : Int) = (m : Int) := by omega
      rw [hmi]
      have hm0 : (0 : Int) ≤ (m : Int) := by omega
      obtain ⟨s, hs⟩ : ∃ s, s = xs.getD m 0 := ⟨_, rfl⟩
      have hs1 := hr m (by omega)
      rw [← hs] at hs1
      have Hs := Lib.hid hs
      have Hn := Lib.hid (show duP xs r c (k + 1) = duP xs r c k ++ [(c : Int) - (r : Int) - s] by rw [duP_succ hlt, hs, hm])
      obtain ⟨q7, k7, e7, _, _⟩ := ho.out.shape
      rw [duP_length hk] at e7
      subst e7
      have hofn := ho.out.fn
      rw [duP_length hk] at hofn
      have Ho := Lib.hid hofn
      have Hm := Lib.hid hm
      have Hmi := Lib.hid hmi
      have Hb1 := Lib.hid (show k + 1 ≤ maxLen by unfold maxLen; omega)
      have Hb2 := Lib.hid (show (k + 1) * 8 ≤ 140737488355328 by omega)
      clear hs hm hmi ho hofn
      go_wp2_with fail
      refine (rowOf_s2 _ xs m s Hs.out (by have := Hm.out; omega) _ (Hh.out.below hb.out)).mono ?_
      rintro e w2 ⟨rfl, hq⟩
      have HQ := Lib.hid hq
      have hsq := hq.size
      clear hq
      go_wp2_with (at_builtin; go_must (refine wpList_append_F rfl (.tmp 22) (.tmp 30) 24 rfl 3 (.int .i64 0) 8 Try.underlying24 info_int rfl w.heap.size wr.heap.size _ k (iv (duP xs r c k)) rfl ((Ho.out.below (HQ.out.below _)).below (below_alloc _ _)) (by rw [size_alloc]; omega) (by rw [size_alloc]; omega) _ 1 _ rfl (rd_one _ _ _ HQ.out.size.symm) (fun j _ => rfl) Hb1.out Hb2.out ?_; intro v2 w3 ho2 hg2))
      go_roundg (r - (k + 1) + 1)
      case measure => omega
      case rel =>
        have hbx : Below w.heap.size wr w3 := ((HQ.out.below _).trans ((below_alloc w2 _).mono (by omega))).trans (grownBy_below hg2 Ho.out.blocks (Nat.le_refl _) (by rw [size_alloc]; omega))
        refine ⟨k + 1, by omega, rfl, ?_, ?_, Lib.hid (hb.out.trans hbx)⟩
        · have := Hmi.out
          exact congrArg (Value.int .i64) ((w64 (n := (m : Int) - 1) (by omega) (by omega)).trans (by omega))
        · rw [Hn.out]
          exact Lib.hid (OwnI.snoc1 (by rw [duP_length hk]; exact ho2))
    · obtain rfl : k = r := by omega
      have hm0 : ¬ (0 : Int) ≤ (k : Int) - 1 - (k : Int) := by omega
      have hoi := ho.out.ints
      obtain ⟨q7, k7, e7, _, _⟩ := ho.out.shape
      rw [duP_length hk] at e7
      subst e7
      rw [show duP xs k c k = duR xs k c by unfold duP; exact List.take_of_length_le (by rw [duR_length]; exact Nat.le_refl _)] at hoi
      have Hoi := Lib.hid hoi
      clear ho hoi
      go_wp2_with fail
      refine (shapeOfRows_any _ (duR xs k c) _ Hoi.out).mono ?_
      rintro e w2 ⟨u, rfl, hi, hq⟩
      have Hi := Lib.hid hi
      obtain ⟨p1, c1, rfl, _, _⟩ := hi
      go_wp2_with fail
      go_ret
      exact ⟨_, rfl, Hi.out, hb.out.trans (hq.below _)⟩

/-! ### one shape in another -/

def cnB (a b : List Int) : Bool := shOk a && shOk b && decide (b.length ≤ a.length) && decide (∀ i, i < b.length → b.getD i 0 ≤ a.getD i 0)
theorem cnB_no1 {a b : List Int} (h : shOk a = false) : cnB a b = false := by simp [cnB, h]
theorem cnB_no2 {a b : List Int} (h : shOk b = false) : cnB a b = false := by simp [cnB, h]
theorem cnB_no3 {a b : List Int} (h : ¬ b.length ≤ a.length) : cnB a b = false := by simp [cnB, h]
theorem cnB_no4 {a b : List Int} {i : Nat} (hi : i < b.length) (h : ¬ b.getD i 0 ≤ a.getD i 0) : cnB a b = false := by
  unfold cnB
  rw [show decide (∀ i, i < b.length → b.getD i 0 ≤ a.getD i 0) = false from decide_eq_false fun e => h (e i hi), Bool.and_false]
theorem cnB_yes {a b : List Int} (h1 : shOk a = true) (h2 : shOk b = true) (h3 : b.length ≤ a.length) (h4 : ∀ i, i < b.length → b.getD i 0 ≤ a.getD i 0) : cnB a b = true := by
  unfold cnB
  rw [h1, h2, decide_eq_true h3, decide_eq_true h4]; rfl

set_option maxRecDepth 100000 in
set_option maxHeartbeats 2000000 in
theorem ContainsShape_any (u v : Value) (a b : List Int) (w : World) (ha : Ints w u a) (hb : Ints w v b) :
    Calls Try.prog 30 #[u, v] w fun e w' => e = .returned (.bool (cnB a b)) ∧ Qt w w' := by
  have HA := Lib.hid ha
  have HB := Lib.hid hb
  obtain ⟨p, cap, rfl, ⟨hx1, hx2⟩, hxc⟩ := ha
  obtain ⟨p', cap', rfl, ⟨hy1, hy2⟩, hyc⟩ := hb
  unfold maxLen at hx2 hy2
  go_enter Try.func30, Try.ntmps30
  go_wp2_with fail
  refine (implIsShape_any _ a _ HA.out).mono ?_
  rintro e w1 ⟨rfl, hq1⟩
  cases h1 : shOk a with
  | false =>
    go_wp2_with fail
    go_ret
    exact ⟨ret_bool (cnB_no1 h1).symm, hq1⟩
  | true =>
  have H1 := Lib.hid h1
  clear h1
  go_wp2_with fail
  refine (implIsShape_any _ b _ (HB.out.qt hq1)).mono ?_
  rintro e w2 ⟨rfl, hq2⟩
  cases h2 : shOk b with
  | false =>
    go_wp2_with fail
    go_ret
    exact ⟨ret_bool (cnB_no2 h2).symm, hq1.trans hq2⟩
  | true =>
  have H2 := Lib.hid h2
  have HQ := Lib.hid (hq1.trans hq2)
  clear h2 hq1 hq2
  by_cases hl : b.length ≤ a.length
  case neg =>
    have hl2 : ¬ (b.length : Int) ≤ (a.length : Int) := by omega
    go_wp2_with fail
    go_ret
    exact ⟨ret_bool (cnB_no3 hl).symm, HQ.out⟩
  have hl2 : (b.length : Int) ≤ (a.length : Int) := by omega
  go_wp2_with fail
  go_loopg [5, 6, 24] b.length (fun g s5 s6 i wr => ∃ k : Nat, k ≤ b.length ∧ g = b.length - k ∧ i = .int .i64 k ∧ Qt w wr ∧ Hid (∀ j, j < k → b.getD j 0 ≤ a.getD j 0))
  case atStart => exact ⟨0, Nat.zero_le _, rfl, rfl, HQ.out, Lib.hid fun j hj => absurd hj (Nat.not_lt_zero _)⟩
  case round =>
    obtain ⟨k, hk, rfl, rfl, hq, hp⟩ := hrel
    by_cases hlt : k < b.length
    · obtain ⟨g1, o1, rfl, hc⟩ := hxc (by omega)
      obtain ⟨g2, o2, rfl, hd⟩ := hyc (by omega)
      obtain ⟨x, hx⟩ : ∃ x, x = a.getD k 0 := ⟨_, rfl⟩
      obtain ⟨y, hy⟩ : ∃ y, y = b.getD k 0 := ⟨_, rfl⟩
      have c1 := hq.cell (hc k (by omega))
      have c2 := hq.cell (hd k hlt)
      unfold iv at c1 c2
      rw [← hx] at c1
      rw [← hy] at c2
      have Hx := Lib.hid hx
      have Hy := Lib.hid hy
      clear hx hy hc hd hxc hyc
      have hk1 : (k : Int) < (b.length : Int) := by omega
      have hk2 : (k : Int) < (a.length : Int) := by omega
      by_cases hyx : y ≤ x
      · go_wp2_with fail
        go_roundg (b.length - (k + 1))
        case measure => omega
        case rel =>
          refine ⟨k + 1, by omega, rfl, by go_num, hq, Lib.hid fun j hj => ?_⟩
          by_cases e : j = k
          · subst e; rw [← Hx.out, ← Hy.out]; exact hyx
          · exact hp.out j (by omega)
      · go_wp2_with fail
        go_ret
        exact ⟨ret_bool (cnB_no4 hlt (by rw [← Hx.out, ← Hy.out]; omega)).symm, hq⟩
    · have hk1 : ¬ (k : Int) < (b.length : Int) := by omega
      go_wp2_with fail
      go_ret
      exact ⟨ret_bool (cnB_yes H1.out H2.out hl fun j hj => hp.out j (by omega)).symm, hq⟩

end Go.Proofs.Ytoodgbflaaabmaa

namespace Go.Proofs.Ytoodgbflaaabmaa
set_option linter.all false
open Go.RowKit

/-- dimensions in common with the members of a flag -/
structure Dm (n r : Nat) (d : Nat → Nat) : Prop where
  zero : d 0 = 0
  top : d n = r
  step : ∀ j, j < n → d (j + 1) = d j ∨ d (j + 1) = d j + 1
namespace Dm
variable {n r : Nat} {d : Nat → Nat}
theorem mono (h : Dm n r d) {i j : Nat} (hij : i ≤ j) (hj : j ≤ n) : d i ≤ d j ∧ d j ≤ d i + (j - i) := by
  have := steps_le h.step (j - i) i (by omega)
  rw [show i + (j - i) = j by omega] at this
  exact this
theorem le (h : Dm n r d) {j : Nat} (hj : j ≤ n) : d j ≤ j ∧ d j ≤ r := by
  have a := h.mono (Nat.zero_le j) hj
  have b := h.mono hj (Nat.le_refl n)
  have := h.zero
  have := h.top
  omega
theorem rn (h : Dm n r d) : r ≤ n := by
  have := (h.le (Nat.le_refl n)).1
  have := h.top
  omega
/-- the place of the one that brings the dimension from b to b + 1 -/
theorem at_ex (h : Dm n r d) {b : Nat} (hb : b < r) : ∃ j, j < n ∧ d j = b ∧ d (j + 1) = b + 1 := by
  have key : ∀ m, m ≤ n → b < d m → ∃ j, j < m ∧ d j = b ∧ d (j + 1) = b + 1 := by
    intro m
    induction m with
    | zero => intro _ h0; rw [h.zero] at h0; omega
    | succ m ih =>
      intro hm hb'
      by_cases e : b < d m
      · obtain ⟨j, h1, h2⟩ := ih (by omega) e
        exact ⟨j, by omega, h2⟩
      · have := h.step m (by omega)
        exact ⟨m, by omega, by omega, by omega⟩
  exact key n (Nat.le_refl n) (by rw [h.top]; exact hb)
theorem at_iff (h : Dm n r d) {b j m : Nat} (hj : j < n) (h1 : d j = b) (h2 : d (j + 1) = b + 1) (hm : m ≤ n) : b + 1 ≤ d m ↔ j + 1 ≤ m := by
  constructor
  · intro e
    rcases Nat.lt_or_ge j m with h3 | h3
    · exact h3
    · have := (h.mono h3 (by omega)).1
      omega
  · intro e
    have := (h.mono e hm).1
    omega
end Dm

/-- the string of the places where the dimension grows -/
def DmT (n : Nat) (d : Nat → Nat) (t : List Int) : Prop := t.length = n ∧ ∀ j, j < n → t.getD j 0 = (d (j + 1) : Int) - (d j : Int)
section
variable {n r : Nat} {d : Nat → Nat} {t : List Int}
theorem DmT.str (hd : Dm n r d) (h : DmT n d t) (h1 : 1 ≤ n) (h7 : n ≤ 7) : strOk t = true := by
  obtain ⟨hl, ht⟩ := h
  unfold strOk
  refine decide_eq_true ⟨by omega, by omega, strOk_take fun k hk => ?_⟩
  rw [ht k (by omega)]
  have := hd.step k (by omega)
  omega
theorem DmT.zeros (hd : Dm n r d) (h : DmT n d t) : ∀ i, i ≤ n → ssZ t i + d i = i
  | 0, _ => by rw [ssZ, hd.zero]
  | i + 1, hi => by
    have ih := DmT.zeros hd h i (by omega)
    have e := h.2 i (by omega)
    rw [ssZ]
    rcases hd.step i (by omega) with s | s
    · rw [if_pos (by rw [e]; omega)]; omega
    · rw [if_neg (by rw [e]; omega)]; omega
theorem DmT.rows (hd : Dm n r d) (h : DmT n d t) : ∀ i, i ≤ n → (ssR t i).length = d i ∧ ∀ j, j < i → d (j + 1) = d j + 1 → (ssR t i).getD (d i - 1 - d j) 0 = (j : Int) - (d j : Int)
  | 0, _ => ⟨by rw [ssR, hd.zero]; rfl, fun j hj => absurd hj (Nat.not_lt_zero _)⟩
  | i + 1, hi => by
    obtain ⟨ih1, ih2⟩ := DmT.rows hd h i (by omega)
    have e := h.2 i (by omega)
    have z := DmT.zeros hd h i (by omega)
    rw [ssR]
    rcases hd.step i (by omega) with s | s
    · rw [if_pos (by rw [e]; omega), s]
      refine ⟨ih1, fun j hj hs => ?_⟩
      by_cases ej : j = i
      · subst ej; omega
      · exact ih2 j (by omega) hs
    · rw [if_neg (by rw [e]; omega), s]
      refine ⟨by rw [List.length_cons, ih1], fun j hj hs => ?_⟩
      by_cases ej : j = i
      · subst ej
        rw [show d j + 1 - 1 - d j = 0 by omega]
        show (ssZ t j : Int) = _
        omega
      · have h1 := (hd.mono (show j + 1 ≤ i by omega) (by omega)).1
        rw [show d i + 1 - 1 - d j = (d i - 1 - d j) + 1 by omega]
        exact ih2 j (by omega) hs
end

theorem getD_shL (xs : List Int) (a : Nat) : (shL xs).getD a 0 = xs.getD a 0 := by
  have key : ∀ n a, shN xs n ≤ a → a < n → xs.getD a 0 = 0 := by
    intro n
    induction n with
    | zero => intro a _ h; omega
    | succ n ih =>
      intro a h1 h2
      rw [shN] at h1
      split at h1
      · by_cases e : a = n
        · subst e; assumption
        · exact ih a h1 (by omega)
      · omega
  unfold shL
  by_cases h : a < shN xs xs.length
  · simp [List.getD_eq_getElem?_getD, List.getElem?_take, h]
  · have e1 : (xs.take (shN xs xs.length)).getD a 0 = 0 := by
      rw [List.getD_eq_getElem?_getD, List.getElem?_eq_none (by rw [List.length_take]; omega)]
      rfl
    rw [e1]
    by_cases h2 : a < xs.length
    · exact (key _ a (by omega) h2).symm
    · rw [List.getD_eq_getElem?_getD, List.getElem?_eq_none (by omega)]
      rfl
theorem shL_last (xs : List Int) (h : 0 < (shL xs).length) : ¬ xs.getD ((shL xs).length - 1) 0 = 0 := by
  have key : ∀ n, 0 < shN xs n → ¬ xs.getD (shN xs n - 1) 0 = 0 := by
    intro n
    induction n with
    | zero => intro h; rw [shN] at h; omega
    | succ n ih =>
      intro h
      rw [shN] at h ⊢
      split at h
      · rename_i e; rw [if_pos e]; exact ih h
      · rename_i e; rw [if_neg e]; exact e
  have e : (shL xs).length = shN xs xs.length := by
    unfold shL
    rw [List.length_take]
    have := shN_le xs xs.length
    omega
  rw [e] at h ⊢
  exact key _ h
theorem shL_length (xs : List Int) : (shL xs).length ≤ xs.length := by
  unfold shL
  rw [List.length_take]
  omega
/-- rows that do not grow, without the zeros at their end, are a shape -/
theorem shL_box {L : List Int} {r n : Nat} (hl : L.length = r) (hrn : r ≤ n) (h7 : n ≤ 7) (hb : ∀ a, a < r → 0 ≤ L.getD a 0 ∧ L.getD a 0 ≤ (n : Int) - (r : Int)) (hm : ∀ a, a + 1 < r → L.getD (a + 1) 0 ≤ L.getD a 0) : bxOk (shL L) r n = true := by
  have hlen := shL_length L
  have hmon : ∀ k a, a + k < r → L.getD (a + k) 0 ≤ L.getD a 0 := by
    intro k
    induction k with
    | zero => intro a _; exact Int.le_refl _
    | succ k ih =>
      intro a h
      have := ih a (by omega)
      have := hm (a + k) (by omega)
      rw [show a + (k + 1) = a + k + 1 by omega]
      omega
  have hpos : ∀ a, a < (shL L).length → 1 ≤ L.getD a 0 := by
    intro a ha
    have h1 := shL_last L (by omega)
    have h2 := hmon ((shL L).length - 1 - a) a (by omega)
    rw [show a + ((shL L).length - 1 - a) = (shL L).length - 1 by omega] at h2
    have h3 := (hb ((shL L).length - 1) (by omega)).1
    omega
  rw [bx_end (shOk_yes (by omega) fun j hj => ?_) (by omega)]
  · refine decide_eq_true ?_
    rw [getD_shL]
    by_cases e : 0 < r
    · exact (hb 0 e).2
    · rw [List.getD_eq_getElem?_getD, List.getElem?_eq_none (by omega)]
      show (0 : Int) ≤ _
      omega
  · unfold shAt
    rw [getD_shL, getD_shL]
    have h1 := hpos j hj
    have h2 := (hb j (by omega)).2
    refine ⟨h1, by omega, fun h0 => ?_⟩
    have := hm (j - 1) (by omega)
    rw [show j - 1 + 1 = j by omega] at this
    exact this

section
variable {n r : Nat} {d : Nat → Nat} {t : List Int}
theorem DmT.box (hd : Dm n r d) (h : DmT n d t) (h7 : n ≤ 7) : bxOk (shL (ssR t n)) r n = true := by
  obtain ⟨hl, hr⟩ := DmT.rows hd h n (Nat.le_refl n)
  rw [hd.top] at hl hr
  have rn := hd.rn
  have each : ∀ a, a < r → ∃ j, j < n ∧ d j = r - 1 - a ∧ d (j + 1) = r - 1 - a + 1 ∧ (ssR t n).getD a 0 = (j : Int) - (d j : Int) := fun a ha => by
    obtain ⟨j, h1, h2, h3⟩ := hd.at_ex (b := r - 1 - a) (by omega)
    have := hr j h1 (by omega)
    rw [show r - 1 - d j = a by omega] at this
    exact ⟨j, h1, h2, h3, this⟩
  refine shL_box hl rn h7 (fun a ha => ?_) (fun a ha => ?_)
  · obtain ⟨j, h1, h2, h3, h4⟩ := each a ha
    rw [h4]
    have a1 := hd.le (j := j) (by omega)
    have a2 := (hd.mono (i := j + 1) (j := n) (by omega) (Nat.le_refl _)).2
    rw [hd.top] at a2
    omega
  · obtain ⟨j, h1, h2, h3, h4⟩ := each a (by omega)
    obtain ⟨j', h1', h2', h3', h4'⟩ := each (a + 1) ha
    rw [h4, h4']
    have : j' < j := by
      rcases Nat.lt_or_ge j' j with e | e
      · exact e
      · have := (hd.mono e (by omega)).1
        omega
    have := (hd.mono (i := j') (j := j) (by omega) (by omega)).2
    omega
/-- the rows of the shape that it leaves of its box -/
theorem DmT.dual (hd : Dm n r d) (h : DmT n d t) {b : Nat} (hb : b < r) : ∃ j, j < n ∧ d j = b ∧ d (j + 1) = b + 1 ∧ (duR (shL (ssR t n)) r n).getD b 0 = (n : Int) - (r : Int) - ((j : Int) - (b : Int)) := by
  obtain ⟨hl, hr⟩ := DmT.rows hd h n (Nat.le_refl n)
  rw [hd.top] at hl hr
  obtain ⟨j, h1, h2, h3⟩ := hd.at_ex hb
  have := hr j h1 (by omega)
  rw [h2] at this
  exact ⟨j, h1, h2, h3, by rw [duR_getD hb, getD_shL, this]⟩
theorem DmT.dualBox (hd : Dm n r d) (h : DmT n d t) (h7 : n ≤ 7) : bxOk (shL (duR (shL (ssR t n)) r n)) r n = true := by
  have rn := hd.rn
  refine shL_box (duR_length _ _ _) rn h7 (fun a ha => ?_) (fun a ha => ?_)
  · obtain ⟨j, h1, h2, h3, h4⟩ := DmT.dual hd h ha
    rw [h4]
    have a1 := hd.le (j := j) (by omega)
    have a2 := (hd.mono (i := j + 1) (j := n) (by omega) (Nat.le_refl _)).2
    rw [hd.top] at a2
    omega
  · obtain ⟨j, h1, h2, h3, h4⟩ := DmT.dual hd h (b := a) (by omega)
    obtain ⟨j', h1', h2', h3', h4'⟩ := DmT.dual hd h ha
    rw [h4, h4']
    have : j < j' := by
      rcases Nat.lt_or_ge j j' with e | e
      · exact e
      · have := (hd.mono e (by omega)).1
        omega
    omega
/-- what a shape asks is met just if it lies in the shape of the position -/
theorem DmT.meets (hd : Dm n r d) (h : DmT n d t) (h7 : n ≤ 7) {xs : List Int} (hx : bxOk xs r n = true) :
    (∀ i, i < r → i + 1 ≤ d (mfJ xs r n i)) ↔ cnB (shL (duR (shL (ssR t n)) r n)) xs = true := by
  have rn := hd.rn
  have hxf := bx_facts hx rn
  have hdb := DmT.dualBox hd h h7
  have iff1 : ∀ i, i < r → (i + 1 ≤ d (mfJ xs r n i) ↔ xs.getD i 0 ≤ (shL (duR (shL (ssR t n)) r n)).getD i 0) := fun i hi => by
    obtain ⟨j, h1, h2, h3, h4⟩ := DmT.dual hd h hi
    have hf := hxf i hi
    rw [getD_shL, h4, hd.at_iff h1 h2 h3 (by unfold mfJ; omega)]
    unfold mfJ
    omega
  have sh : ∀ ys : List Int, bxOk ys r n = true → shOk ys = true ∧ ys.length ≤ r := fun ys hy => by
    unfold bxOk at hy
    simp only [Bool.and_eq_true, decide_eq_true_eq] at hy
    exact hy.1
  obtain ⟨s1, s2⟩ := sh _ hdb
  obtain ⟨s3, s4⟩ := sh _ hx
  constructor
  · intro hm
    have hle : ∀ i, i < r → xs.getD i 0 ≤ (shL (duR (shL (ssR t n)) r n)).getD i 0 := fun i hi => (iff1 i hi).1 (hm i hi)
    refine cnB_yes s1 s3 ?_ fun i hi => hle i (by omega)
    rcases Nat.lt_or_ge (shL (duR (shL (ssR t n)) r n)).length xs.length with e | e
    · exfalso
      have a := hle (shL (duR (shL (ssR t n)) r n)).length (by omega)
      rw [show (shL (duR (shL (ssR t n)) r n)).getD (shL (duR (shL (ssR t n)) r n)).length 0 = 0 by rw [List.getD_eq_getElem?_getD, List.getElem?_eq_none (Nat.le_refl _)]; rfl] at a
      have b := (shOk_facts s3).2 _ e
      have := b.1
      omega
    · exact e
  · intro hc i hi
    unfold cnB at hc
    simp only [Bool.and_eq_true, decide_eq_true_eq] at hc
    rw [iff1 i hi]
    by_cases e : i < xs.length
    · exact hc.2 i e
    · rw [show xs.getD i 0 = 0 by rw [List.getD_eq_getElem?_getD, List.getElem?_eq_none (by omega)]; rfl]
      exact (bx_facts hdb rn i hi).1
theorem box_nil {r n : Nat} (h : r ≤ n) : bxOk [] r n = true := by
  rw [bx_end (by decide) (Nat.zero_le _)]
  refine decide_eq_true ?_
  show (0 : Int) ≤ _
  omega
theorem cn_refl {xs : List Int} (h : shOk xs = true) : cnB xs xs = true := cnB_yes h h (Nat.le_refl _) fun _ _ => Int.le_refl _
theorem cn_nil {xs : List Int} (h : shOk xs = true) : cnB xs [] = true := cnB_yes h (by decide) (Nat.zero_le _) fun i hi => absurd hi (Nat.not_lt_zero _)
theorem box_sh {xs : List Int} (h : bxOk xs r n = true) : shOk xs = true := by
  unfold bxOk at h
  simp only [Bool.and_eq_true] at h
  exact h.1.1
end

/-- the dimensions that a space and a flag have in common -/
theorem sf_dm {P : Int} {r n : Nat} {DA DB : List Int} (h : SfIs P r n DA P n n DB) :
    ∃ d, Dm n r d ∧ ∀ j, j ≤ n → CmIs P n (mf n fun t => DA.getD t 0) r (mf n fun t => DB.getD t 0) j (d j : Int) := by
  obtain ⟨hA, hB, -, -⟩ := h
  obtain ⟨r', c', e1, e2, _, _, _, _, hDA, hP2, hP7, hpr, hrA⟩ := hA.facts
  obtain rfl := Int.ofNat.inj e1
  obtain rfl := Int.ofNat.inj e2
  obtain ⟨n', e3, _, _, _, _, hDB, _, _, _, hrB⟩ := hB.facts
  obtain rfl := Int.ofNat.inj e3
  have ra := mf_rng (C := n) fun t => getD_range hDA (show 0 < P by omega) t
  have rb := mf_rng (C := n) fun t => getD_range hDB (show 0 < P by omega) t
  obtain ⟨f, f0, f1, f2⟩ := ranks_ex (M := stackM r (mf n fun t => DA.getD t 0) (mf n fun t => DB.getD t 0)) hpr (r + n) (stackM_rng (fun t c _ hc => ra t c hc) (fun t c _ hc => rb t c hc))
  have fr : f r = r := by
    refine (f1 r (by omega)).one hP2 (hrA.congr fun i j hi hj => ?_)
    rw [stackM_lt hi]
  have fn : f (r + n) = n := by
    have a := HasRank.stackB hpr ra rb hrB r _ (f1 (r + n) (Nat.le_refl _))
    have b := (f1 (r + n) (Nat.le_refl _)).leC
    omega
  have lo : ∀ j, j ≤ n → f (r + j) ≤ r + j := fun j hj => by
    have := steps_le f2 (r + j) 0 (by omega)
    rw [Nat.zero_add, f0] at this
    omega
  refine ⟨fun j => r + j - f (r + j), ⟨by show r + 0 - f (r + 0) = 0; rw [Nat.add_zero, fr]; omega, by show r + n - f (r + n) = r; rw [fn]; omega, fun j hj => ?_⟩, fun j hj => ⟨f (r + j), f1 _ (by omega), ?_⟩⟩
  · show r + (j + 1) - f (r + (j + 1)) = r + j - f (r + j) ∨ _ = r + j - f (r + j) + 1
    have a := lo j (by omega)
    have b := lo (j + 1) (by omega)
    have c := f2 (r + j) (by omega)
    rw [show r + (j + 1) = r + j + 1 by omega] at b ⊢
    omega
  · have := lo j hj
    show ((r + j - f (r + j) : Nat) : Int) = _
    omega

/-- what the law of conditions says, on lists -/
structure CondL (P : Int) (r n : Nat) (DA DB t : List Int) : Prop where
  len : t.length = n
  str : strOk t = true
  rows : (ssR t t.length).length = r
  rn : r ≤ n
  box : bxOk (shL (ssR t t.length)) r n = true
  dbox : bxOk (shL (duR (shL (ssR t t.length)) r n)) r n = true
  met : ∀ xs b, bxOk xs r n = true → MfIs P r n DA P n n DB xs b → b = cnB (shL (duR (shL (ssR t t.length)) r n)) xs
theorem condL {P : Int} {r n : Nat} {DA DB t : List Int} (h : SfIs P r n DA P n n DB) (hp : PoIs P r n DA P n n DB t) : CondL P r n DA DB t := by
  obtain ⟨d, hd, hc⟩ := sf_dm h
  rcases hp with ⟨_, hl, hu⟩ | ⟨no, _⟩
  case inr => exact absurd h no
  simp only [Int.toNat_natCast] at hl hu
  obtain ⟨r', c', e1, e2, _, h1, h7, _, hDA, hP2, hP7, hpr, hrA⟩ := h.1.facts
  obtain rfl := Int.ofNat.inj e1
  obtain rfl := Int.ofNat.inj e2
  have hT : DmT n d t := ⟨hl, fun j hj => by
    obtain ⟨a, b, k1, k2, k3⟩ := hu j (by omega)
    rw [k3, k1.one hP2 (hc (j + 1) (by omega)), k2.one hP2 (hc j (by omega))]⟩
  have met0 : ∀ xs, MfUp P r n (mf n fun t => DA.getD t 0) (mf n fun t => DB.getD t 0) xs r ↔ ∀ i, i < r → i + 1 ≤ d (mfJ xs r n i) := fun xs => by
    have rn := hd.rn
    constructor
    · intro hm i hi
      have := hm i hi _ (hc (mfJ xs r n i) (by unfold mfJ; omega))
      omega
    · intro hm i hi m hmm
      have := hm i hi
      rw [hmm.one hP2 (hc (mfJ xs r n i) (by unfold mfJ; omega))]
      omega
  refine ⟨hl, DmT.str hd hT h1 h7, by rw [hl, (DmT.rows hd hT n (Nat.le_refl n)).1, hd.top], hd.rn, by rw [hl]; exact DmT.box hd hT h7, by rw [hl]; exact DmT.dualBox hd hT h7, fun xs b hx hb => ?_⟩
  rw [hl]
  have e := DmT.meets hd hT h7 hx
  rw [← met0] at e
  have : b = true ↔ cnB (shL (duR (shL (ssR t n)) r n)) xs = true := by
    unfold MfIs at hb
    simp only [Int.toNat_natCast] at hb
    rw [hb, ← e]
    exact ⟨fun h => h.2.2, fun h2 => ⟨h, hx, h2⟩⟩
  cases b <;> cases h9 : cnB (shL (duR (shL (ssR t n)) r n)) xs <;> simp_all

/-! ### contracts -/
theorem sos1 {P : Int} {r n : Nat} {DA DB t : List Int} (h : CondL P r n DA DB t) (v : Value) (w : World) (hi : Ints w v t) :
    Calls Try.prog 27 #[v] w fun e w' =>
      ∃ (p : Option Addr) (k : Nat) (X : List Int), e = .returned (.tuple #[.slice p X.length k, .int .i64 (r : Int), .bool true]) ∧ Ints w' (.slice p X.length k) X ∧ Below w.heap.size w w' ∧ X = shL (ssR t t.length) := by
  refine (ShapeOfString_any v t w hi h.str).mono ?_
  rintro e w' ⟨u, h1, h2, h3⟩
  have h2' := h2
  obtain ⟨p, k, rfl, _, _⟩ := h2
  rw [h.rows] at h1
  exact ⟨p, k, _, h1, h2', h3, rfl⟩
theorem dual1 {P : Int} {r n : Nat} {DA DB t : List Int} (h : CondL P r n DA DB t) (h1 : 1 ≤ n) (h7 : n ≤ 7) (v : Value) (X : List Int) (hX : X = shL (ssR t t.length)) (w : World) (hi : Ints w v X) :
    Calls Try.prog 28 #[v, .int .i64 (r : Int), .int .i64 (n : Int)] w fun e w' =>
      ∃ (p : Option Addr) (k : Nat) (Y : List Int), e = .returned (.slice p Y.length k) ∧ Ints w' (.slice p Y.length k) Y ∧ Below w.heap.size w w' ∧ Y = shL (duR (shL (ssR t t.length)) r n) := by
  subst hX
  refine (DualShape_any v _ r n w hi h.box h.rn h1 h7 (bx_facts h.box h.rn)).mono ?_
  rintro e w' ⟨u, h1, h2, h3⟩
  have h2' := h2
  obtain ⟨p, k, rfl, _, _⟩ := h2
  exact ⟨p, k, _, h1, h2', h3, rfl⟩
theorem cns1 (u v : Value) (a b : List Int) (c : Bool) (hc : cnB a b = c) (w : World) (ha : Ints w u a) (hb : Ints w v b) :
    Calls Try.prog 30 #[u, v] w fun e w' => e = .returned (.bool c) ∧ Below w.heap.size w w' := by
  subst hc
  exact (ContainsShape_any u v a b w ha hb).mono fun e w' ⟨h1, h2⟩ => ⟨h1, h2.below _⟩
theorem ints_none (w : World) (p : Option Addr) (k : Nat) (hk : k ≤ maxLen) : Ints w (.slice p 0 k) [] := ⟨p, k, rfl, ⟨Nat.zero_le _, hk⟩, fun h => absurd h (Nat.lt_irrefl _)⟩
theorem pos1 (P : Int) (r n : Nat) (dA dB : Value) (DA DB : List Int) (hs : SfIs P r n DA P n n DB) (w : World) (hdA : Ints w dA DA) (hdB : Ints w dB DB) :
    Calls Try.prog 26 #[.agg #[.int .i64 P, .int .i64 (r : Int), .int .i64 (n : Int), dA], .agg #[.int .i64 P, .int .i64 (n : Int), .int .i64 (n : Int), dB]] w fun e w' =>
      ∃ (p : Option Addr) (k : Nat) (l : List Int), e = .returned (.slice p n k) ∧ Ints w' (.slice p n k) l ∧ Below w.heap.size w w' ∧ CondL P r n DA DB l := by
  refine (implPos_ex P r n P n n dA dB DA DB w hdA hdB).mono ?_
  rintro e w' ⟨l, h4, ⟨u, h1, h2, h3⟩⟩
  have hc := condL hs h4
  obtain ⟨p, k, rfl, _, _⟩ := h2.shape
  have hi := h2.ints
  rw [hc.len] at h1 hi
  exact ⟨p, k, _, h1, hi, h3, hc⟩
theorem mf1 (P : Int) (r n : Nat) (dA dB dS : Value) (DA DB DS : List Int) (b : Bool) (hb : ∀ b', MfIs P r n DA P n n DB DS b' → b' = b) (w : World) (hdA : Ints w dA DA) (hdB : Ints w dB DB) (hdS : Ints w dS DS) :
    Calls Try.prog 29 #[.agg #[.int .i64 P, .int .i64 (r : Int), .int .i64 (n : Int), dA], .agg #[.int .i64 P, .int .i64 (n : Int), .int .i64 (n : Int), dB], dS] w fun e w' => e = .returned (.bool b) ∧ Below w.heap.size w w' := by
  refine (implMf_ex P r n P n n dA dB dS DA DB DS w hdA hdB hdS).mono ?_
  rintro e w' ⟨b', h1, h2, h3⟩
  obtain rfl := hb b' h2
  exact ⟨h1, h3⟩

end Go.Proofs.Ytoodgbflaaabmaa

namespace Go.Proofs.Ytoodgbflaaabmaa
set_option linter.all false
open Go.RowKit

theorem blk3 {w : World} {b : Nat} {x0 x1 x2 : Value} {T : TypeId} (h : w.heap[b]? = some (.cells #[x0, x1, x2] T (0, 0))) :
    w.cell? ⟨b, 0, none⟩ = some x0 ∧ w.cell? ⟨b, 1, none⟩ = some x1 ∧ w.cell? ⟨b, 2, none⟩ = some x2 ∧ (∀ j, w.frozen? ⟨b, j, none⟩ = false) ∧ b < w.heap.size :=
  ⟨cell_of_blk h rfl, cell_of_blk h rfl, cell_of_blk h rfl, free_of_blk h, (Array.getElem?_eq_some_iff.1 h).1⟩

theorem and255 (x : Int) : 0 ≤ bits .and .i64 x 255 ∧ bits .and .i64 x 255 ≤ 255 := by
  have h1 : (BitVec.ofInt 64 x).toNat &&& 255 < 2 ^ 8 := Nat.and_lt_two_pow _ (by decide)
  have e : bits .and .i64 x 255 = IntKind.i64.wrap (((BitVec.ofInt 64 x).toNat &&& 255 : Nat) : Int) := by
    simp only [bits, BitVec.toNat_and]
    rfl
  have e2 : IntKind.i64.wrap (((BitVec.ofInt 64 x).toNat &&& 255 : Nat) : Int) = (((BitVec.ofInt 64 x).toNat &&& 255 : Nat) : Int) := k64 (by omega) (by omega)
  rw [e, e2]
  omega

/-- bytes that can be read -/
def Byts (w : World) (v : Value) (n : Nat) : Prop := ∃ f : Nat → Int, Rd w v n fun j => .int .u8 (f j)
theorem Byts.below {w w' : World} {v : Value} {n : Nat} (h : Byts w v n) (hb : Below w.heap.size w w') : Byts w' v n := by
  obtain ⟨f, h⟩ := h
  exact ⟨f, h.below hb⟩

theorem Byts.frm {w w' : World} {p : Option Addr} {n cap k : Nat} (h : Byts w (.slice p n cap) n) (hf : Frm k (k + 1) w w') (hne : 0 < n → ∀ a, p = some a → a.block < k) : Byts w' (.slice p n cap) n := by
  obtain ⟨f, p', cap', e, hm, hx⟩ := h
  injection e with e1 _ e3
  subst e1 e3
  refine ⟨f, p, cap, rfl, hm, fun h0 => ?_⟩
  obtain ⟨b, off, hp, hc⟩ := hx h0
  refine ⟨b, off, hp, fun j hj => ?_⟩
  have hb := World.block_lt_of_cell? w _ (hc j hj)
  have h1 := hne h0 _ hp
  rw [World.cell?_of_block (w := w) (hf.block b hb (by dsimp only at h1; omega))]
  exact hc j hj

/-- the cursor in block k -/
def Cur (w : World) (k : Nat) : Prop :=
  ∃ (p : Option Addr) (n cap i : Nat) (h : Int), w.heap[k]? = some (.cells #[.slice p n cap, .int .i64 (i : Int), .int .i64 h] 78 (0, 0)) ∧ i ≤ n ∧ Byts w (.slice p n cap) n ∧ (0 < n → ∀ a, p = some a → a.block < k)
theorem Cur.lt {w : World} {k : Nat} (h : Cur w k) : k < w.heap.size := by
  obtain ⟨_, _, _, _, _, h, _⟩ := h
  exact blk_lt h
theorem Cur.keepB {w w' : World} {k B : Nat} (h : Cur w k) (hb : Below B w w') (hB : k < B) : Cur w' k := by
  have hk := h.lt
  obtain ⟨p, n, cap, i, x, h1, h2, ⟨f, p', cap', e, hm, h3⟩, h4⟩ := h
  injection e with e1 _ e3
  subst e1 e3
  refine ⟨p, n, cap, i, x, by rw [hb.block k hB]; exact h1, h2, ⟨f, p, cap, rfl, hm, fun h0 => ?_⟩, h4⟩
  obtain ⟨b, off, hp, hc⟩ := h3 h0
  have hlt := h4 h0 _ hp
  dsimp only at hlt
  exact ⟨b, off, hp, fun j hj => by rw [World.cell?_of_block (w := w) (hb.block b (by omega))]; exact hc j hj⟩
theorem Frm.thenB {lo hi B : Nat} {a b c : World} (h : Frm lo hi a b) (hb : Below B b c) (hB : a.heap.size ≤ B) : Frm lo hi a c :=
  ⟨hb.os.trans h.os, hb.tape.trans h.tape, hb.output.trans h.output, Nat.le_trans h.size hb.size, fun k hk ho => (hb.block k (by omega)).trans (h.block k hk ho)⟩
theorem OwnI.setOther {T : TypeId} {w : World} {lo hi : Nat} {v : Value} {xs : List Int} (h : OwnI T w lo hi v xs) {a : Addr} (hne : v.ownBlock ≠ some a.block) (u : Value) : OwnI T (w.setCell a u) lo hi v xs :=
  ⟨ownsRow_of_block h.1 fun b hb => Below.heap_setCell _ _ _ _ fun e => hne (by rw [hb, e]), h.2⟩
theorem Cur.below {w w' : World} {k : Nat} (h : Cur w k) (hb : Below w.heap.size w w') : Cur w' k := by
  obtain ⟨p, n, cap, i, x, h1, h2, h3, h4⟩ := h
  exact ⟨p, n, cap, i, x, blk_later h1 hb, h2, h3.below hb, h4⟩

set_option maxRecDepth 100000 in
set_option maxHeartbeats 2000000 in
theorem l1Byte_any (k : Nat) (w : World) (h : Cur w k) :
    Calls Try.prog 65 #[.pointer (some ⟨k, 0, none⟩)] w fun e w' => ∃ x : Int, e = .returned (.int .i64 x) ∧ 0 ≤ x ∧ x ≤ 255 ∧ Cur w' k ∧ Frm k (k + 1) w w' := by
  obtain ⟨p, n, cap, i, x, h1, h2, ⟨f, h3⟩, h4⟩ := h
  obtain ⟨c0, c1, c2, cf, cz⟩ := blk3 h1
  obtain ⟨_, _, e, ⟨hx1, hx2⟩, hxc⟩ := h3
  injection e with e1 e2 e3
  subst e1 e3
  unfold maxLen at hx2
  have Hxc := Lib.hid hxc
  clear hxc e2
  go_enter Try.func65, Try.ntmps65
  go_wp2_with fail
  go_quiet (fail)
  obtain ⟨X, hX⟩ : ∃ X, X = wrap64 (wrap64 (x * 6364136223846793005) + 1442695040888963407) := ⟨_, rfl⟩
  rw [← hX]
  obtain ⟨Y, hY⟩ : ∃ Y, Y = bits BinOp.and IntKind.i64 (bits BinOp.xor IntKind.i64 (X / 8589934592) (X / 35184372088832)) 255 := ⟨_, rfl⟩
  rw [← hY]
  have hY2 := and255 (bits BinOp.xor IntKind.i64 (X / 8589934592) (X / 35184372088832))
  rw [← hY] at hY2
  clear hX hY
  have hf2 : Frm k (k + 1) w ((w.setCell ⟨k, 2, none⟩ (.int .i64 X)).drewN nq) := ((Frm.refl k (k + 1) w).setCell (Nat.le_refl _) (Nat.lt_succ_self _) _).drewN nq
  have hh2 : ((w.setCell ⟨k, 2, none⟩ (.int .i64 X)).drewN nq).heap[k]? = some (.cells #[.slice p n cap, .int .i64 (i : Int), .int .i64 X] 78 (0, 0)) := heap_setCell_at h1 2 _
  have hB2 : Byts ((w.setCell ⟨k, 2, none⟩ (.int .i64 X)).drewN nq) (.slice p n cap) n := Byts.frm ⟨f, _, _, rfl, ⟨hx1, by unfold maxLen; omega⟩, Hxc.out⟩ hf2 h4
  generalize (w.setCell ⟨k, 2, none⟩ (.int .i64 X)).drewN nq = w2 at *
  clear c0 c1 c2 cf cz Hxc f
  obtain ⟨c0, c1, c2, cf, cz⟩ := blk3 hh2
  have HB2 := Lib.hid hB2
  have Hf2 := Lib.hid hf2
  obtain ⟨f, p', cap', e, _, hxc⟩ := hB2
  injection e with e1 _ e3
  subst e1 e3
  clear hf2
  by_cases hlt : i < n
  · obtain ⟨b, off, rfl, hc⟩ := hxc (by omega)
    have cb := hc i hlt
    have hlt2 : (i : Int) < (n : Int) := by omega
    clear hxc hc
    go_wp2_with fail
    go_quiet (fail)
    go_wp2_with fail
    go_quiet (fail)
    obtain ⟨Z, hZ⟩ : ∃ Z, Z = bits BinOp.and IntKind.i64 (wrap64 (Y + wrap64 (f i))) 255 := ⟨_, rfl⟩
    rw [← hZ]
    have hZ2 := and255 (wrap64 (Y + wrap64 (f i)))
    rw [← hZ] at hZ2
    clear hZ
    have hcast : (i : Int) + 1 = ((i + 1 : Nat) : Int) := by omega
    have Hcast := Lib.hid hcast
    clear hcast
    go_wp2_with fail
    go_ret
    rw [Hcast.out]
    refine ⟨Z, rfl, hZ2.1, hZ2.2, ⟨_, n, cap, i + 1, X, by exact heap_setCell_at hh2 1 _, by omega, ?_, h4⟩, ?_⟩
    · exact HB2.out.frm (k := k) (Frm.setCell ((Frm.refl k (k + 1) w2).drewN _) (Nat.le_refl k) (Nat.lt_succ_self k) _) h4
    · exact Frm.setCell (Hf2.out.drewN _) (Nat.le_refl k) (Nat.lt_succ_self k) _
  · have hlt2 : ¬ (i : Int) < (n : Int) := by omega
    clear hxc
    go_wp2_with fail
    go_quiet (fail)
    go_wp2_with fail
    go_ret
    exact ⟨Y, rfl, hY2.1, hY2.2, ⟨p, n, cap, i, X, hh2, h2, HB2.out.frm (k := k) ((Frm.refl k (k + 1) w2).drewN _) h4, h4⟩, Hf2.out.drewN _⟩

set_option maxRecDepth 100000 in
set_option maxHeartbeats 2000000 in
/-- a number from 0 to m - 1, where m is not great -/
theorem l1Below_any (k m : Nat) (w : World) (h : Cur w k) (h0 : 1 ≤ m) (hm : m ≤ 256) :
    Calls Try.prog 32 #[.pointer (some ⟨k, 0, none⟩), .int .i64 (m : Int)] w fun e w' => ∃ x : Nat, e = .returned (.int .i64 (x : Int)) ∧ x < m ∧ Cur w' k ∧ Frm k (k + 1) w w' := by
  have Hc := Lib.hid h
  clear h
  go_enter Try.func32, Try.ntmps32
  go_wp2_with fail
  refine (l1Byte_any k _ Hc.out).mono ?_
  rintro e w1 ⟨x, rfl, hx0, hx1, hc1, hf1⟩
  obtain ⟨X, rfl⟩ := Int.eq_ofNat_of_zero_le hx0
  have Hc1 := Lib.hid hc1
  have Hf1 := Lib.hid hf1
  clear hc1 hf1
  go_wp2_with fail
  go_ret
  exact ⟨X % m, ret_int (Int.natCast_emod X m).symm, Nat.mod_lt _ (by omega), Hc1.out, Hf1.out⟩

set_option maxRecDepth 100000 in
set_option maxHeartbeats 2000000 in
theorem l1Once_any (k m : Nat) (w : World) (h : Cur w k) (h0 : 1 ≤ m) (hm : m ≤ 256) :
    Calls Try.prog 46 #[.pointer (some ⟨k, 0, none⟩), .int .i64 (m : Int)] w fun e w' => ∃ b : Bool, e = .returned (.bool b) ∧ Cur w' k ∧ Frm k (k + 1) w w' := by
  have Hc := Lib.hid h
  clear h
  go_enter Try.func46, Try.ntmps46
  go_wp2_with fail
  refine (l1Below_any k m _ Hc.out h0 hm).mono ?_
  rintro e w1 ⟨x, rfl, hx, hc1, hf1⟩
  go_wp2_with fail
  go_ret
  exact ⟨_, rfl, hc1, hf1⟩

set_option maxRecDepth 100000 in
set_option maxHeartbeats 2000000 in
/-- one of some numbers -/
theorem l1PickInt_any (k : Nat) (v : Value) (xs : List Int) (w : World) (h : Cur w k) (hv : Ints w v xs) (hne : ∀ p n c, v = .slice p n c → ∀ a, p = some a → a.block ≠ k) (h0 : 1 ≤ xs.length) (hm : xs.length ≤ 256) :
    Calls Try.prog 82 #[.pointer (some ⟨k, 0, none⟩), v] w fun e w' => ∃ x ∈ xs, e = .returned (.int .i64 x) ∧ Cur w' k ∧ Frm k (k + 1) w w' := by
  have Hc := Lib.hid h
  clear h
  obtain ⟨p, cap, rfl, ⟨hx1, hx2⟩, hxc⟩ := hv
  obtain ⟨b, off, rfl, hc⟩ := hxc h0
  have hk : b ≠ k := hne _ _ _ rfl _ rfl
  unfold maxLen at hx2
  clear hne hxc
  go_enter Try.func82, Try.ntmps82
  go_wp2_with fail
  refine (l1Below_any k xs.length _ Hc.out h0 hm).mono ?_
  rintro e w1 ⟨x, rfl, hx, hc1, hf1⟩
  have c1 : w1.cell? ⟨b, off + x, none⟩ = some (.int .i64 xs[x]) := by
    rw [World.cell?_of_block (w := w) (hf1.block b (World.block_lt_of_cell? w _ (hc x hx)) (by omega)), hc x hx]
    simp [iv, List.getD_eq_getElem?_getD, hx]
  have Hc1 := Lib.hid hc1
  have Hf1 := Lib.hid hf1
  have Hm := Lib.hid (show xs[x] ∈ xs from List.getElem_mem hx)
  obtain ⟨X, hX⟩ : ∃ X, X = xs[x] := ⟨_, rfl⟩
  rw [← hX] at c1 Hm
  clear hX hc hc1 hf1
  go_wp2_with fail
  go_ret
  exact ⟨X, Hm.out, rfl, Hc1.out, Hf1.out⟩

end Go.Proofs.Ytoodgbflaaabmaa

namespace Go.Proofs.Ytoodgbflaaabmaa
set_option linter.all false
open Go.RowKit

/-- the first i rows of a corner of b columns -/
def cornL (c b : Nat) (D : List Int) (i : Nat) : List Int := (List.range (i * b)).map fun t => D.getD ((t / b) * c + t % b) 0
theorem cornL_length (c b : Nat) (D : List Int) (i : Nat) : (cornL c b D i).length = i * b := by simp [cornL]
theorem cornL_getD {c b : Nat} {D : List Int} {i k j : Nat} (hk : k < i) (hj : j < b) : (cornL c b D i).getD (k * b + j) 0 = D.getD (k * c + j) 0 := by
  have h := mul_le_of (C := b) hk
  rw [Nat.add_mul, Nat.one_mul] at h
  obtain ⟨d1, d2⟩ := div_at (k := k) hj
  simp [cornL, List.getD_eq_getElem?_getD, show k * b + j < i * b by omega, d1, d2]

theorem cornL_mono {c b : Nat} {D : List Int} {i t : Nat} (h : t < i * b) : (cornL c b D i).getD t 0 = (cornL c b D (i + 1)).getD t 0 := by
  have h2 : t < (i + 1) * b := by rw [Nat.add_mul]; omega
  simp [cornL, List.getD_eq_getElem?_getD, h, h2]
theorem own_box {w : World} {lo hi : Nat} {Ti T : TypeId} {v : Value} {n b : Nat} {f : Nat → Value} {cs : Array Value} (h : OwnF w lo hi Ti v n f) (hz : w.heap[b]? = some (.cells cs T (0, 0))) (hT : Ti ≠ T) : v.ownBlock ≠ some b := by
  intro hv
  obtain ⟨zs, hz', _⟩ := h
  rcases Own.row hz' with ⟨e1, _⟩ | ⟨g, cap', F, e1, _, _, _, _, hr, _⟩
  · rw [e1] at hv; simp [Value.ownBlock] at hv
  · rw [e1] at hv
    simp only [Value.ownBlock, Option.some.injEq] at hv
    subst hv
    obtain ⟨c, hc, _⟩ := hr
    rw [hz] at hc
    injection hc with hc
    injection hc with _ hc
    exact hT hc.symm

theorem oper_append_F {P : Program} {w : World} {o : Oper} {a : Act} {K : Act → World → Prop} {Q : Exit → Act → World → Prop} (s x : Operand) (t : TypeId)
    (ho : o.op = .call { callee := .builtin .append, args := #[s, x], argTypes := #[t, t] })
    (e : TypeId) (z : Value) (bytes : Nat) (ht : P.underlying t = some (.slice e)) (hinfo : (P.info? e).map (fun i => (i.zero, i.size, i.bytes)) = some (some z, 1, bytes)) (hzs : z.cells.size = 1)
    (lo hi' : Nat) (v : Value) (n : Nat) (f : Nat → Value) (hs : a.eval s = v) (hown : OwnF w lo hi' e v n f) (hlo : lo ≤ w.heap.size) (hhi : hi' ≤ w.heap.size)
    (u : Value) (m : Nat) (g : Nat → Value) (hxu : a.eval x = u) (hx : Rd w u m g) (h1 : ∀ j, j < m → (g j).oneCell' = true) (h63 : n + m ≤ maxLen) (hbytes : (n + m) * bytes ≤ 140737488355328)
    (h : ∀ v' w', OwnF w' lo w'.heap.size e v' (n + m) (fun j => if j < n then f j else g (j - n)) → w.grownBy w' v.ownBlock → K (a.put o.dst v') w') :
    Oper.wp P o a w K Q := by
  obtain ⟨i, hi, hz, hsz, hby⟩ := info_parts hinfo
  obtain ⟨v', w', hr, h2, h3⟩ := run_append_F (P := P) w t o.type e i z bytes ht hi hz hsz hby hzs lo hi' v n f hown hlo hhi u m g hx h1 h63 hbytes
  unfold Oper.wp
  simp [execOp, ho, resolve, invoke, builtin, hs, hxu, hr, Result.andThen]
  exact h v' w' h2 h3

/-- what CornerRank returns -/
def CkIs (P R C : Int) (D : List Int) (a b r : Int) : Prop :=
  if mxOk P R C D = true ∧ (0 ≤ a ∧ a ≤ R) ∧ (0 ≤ b ∧ b ≤ C) then ∃ n : Nat, r = n ∧ HasRank P b.toNat a.toNat (mf C.toNat fun t => D.getD t 0) n else r = -1
theorem CkIs.one {P R C : Int} {D : List Int} {a b r r' : Int} (h : CkIs P R C D a b r) (h' : CkIs P R C D a b r') : r = r' := by
  unfold CkIs at h h'
  by_cases e : mxOk P R C D = true ∧ (0 ≤ a ∧ a ≤ R) ∧ (0 ≤ b ∧ b ≤ C)
  · rw [if_pos e] at h h'
    obtain ⟨n, rfl, h⟩ := h
    obtain ⟨n', rfl, h'⟩ := h'
    obtain ⟨_, _, _, _, _, _, _, _, _, hP, _⟩ := mxOk_facts e.1
    rw [h.one hP h']
  · rw [if_neg e] at h h'
    omega
theorem CkIs.eps {P R C : Int} {D : List Int} {a b r : Int} (h : CkIs P R C D a b r) : r = Classical.epsilon (CkIs P R C D a b) := h.one (Classical.epsilon_spec ⟨r, h⟩)
theorem CkIs.no {P R C : Int} {D : List Int} {a b : Int} (h : ¬ (mxOk P R C D = true ∧ (0 ≤ a ∧ a ≤ R) ∧ (0 ≤ b ∧ b ≤ C))) : CkIs P R C D a b (-1) := by
  unfold CkIs; rw [if_neg h]
theorem CkIs.yes {P : Int} {r c a b n : Nat} {D : List Int} (h : mxOk P r c D = true) (ha : a ≤ r) (hb : b ≤ c) (hn : HasRank P b a (mf c fun t => D.getD t 0) n) : CkIs P r c D a b n := by
  unfold CkIs
  rw [if_pos ⟨h, ⟨by omega, by omega⟩, ⟨by omega, by omega⟩⟩]
  exact ⟨n, rfl, hn⟩

end Go.Proofs.Ytoodgbflaaabmaa
