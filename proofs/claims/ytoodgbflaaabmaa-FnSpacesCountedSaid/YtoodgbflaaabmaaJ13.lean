/-
  A shape in a box, on both sides.
  The draw of a shape in a box.
  What two lists of rows have in common: slices.Clone of rows, impl.common, spec.l7Common.
  The dimension of what first rows of two matrices have in common, as a property; a list that is known by a property.
  The draws: a space and a flag with a shape; a small flag with two shapes.
  The normal form of a flag, as plain law.
  A normal form is fixed by the spans of its first rows: plain law.
-/
import Derived.Test.YtoodgbflaaabmaaJ12
import Derived.Test.YtoodgbflaaabmaaJ9
import Derived.Test.YtoodgbflaaabmaaJ11
import Derived.Test.YtoodgbflaaabmaaJ10
namespace Go.Proofs.Ytoodgbflaaabmaa
set_option linter.all false
open Go.RowKit

/-- a shape in the box of r rows and c - r columns -/
def bxOk (xs : List Int) (r c : Nat) : Bool := shOk xs && decide (xs.length ≤ r) && decide (xs.getD 0 0 ≤ (c : Int) - (r : Int))
theorem bx_no1 {xs : List Int} {r c : Nat} (h : shOk xs = false) : bxOk xs r c = false := by simp [bxOk, h]
theorem bx_no2 {xs : List Int} {r c : Nat} (h : ¬ xs.length ≤ r) : bxOk xs r c = false := by simp [bxOk, h]
theorem bx_end {xs : List Int} {r c : Nat} (h : shOk xs = true) (h2 : xs.length ≤ r) : bxOk xs r c = decide (xs.getD 0 0 ≤ (c : Int) - (r : Int)) := by simp only [bxOk, h, h2, decide_true, Bool.and_true, Bool.true_and]

set_option maxHeartbeats 400000 in
theorem isBox_yes (r c : Nat) (w : World) (hrc : r ≤ c) (hc0 : 1 ≤ c) (hc7 : c ≤ 7) :
    Calls Try.prog 55 #[.int .i64 (r : Int), .int .i64 (c : Int)] w fun e w' => e = .returned (.bool true) ∧ w = w' := by
  have h1 : (1 : Int) ≤ (c : Int) := by omega
  have h2 : (c : Int) ≤ 7 := by omega
  have h3 : (0 : Int) ≤ (r : Int) := by omega
  have h4 : (r : Int) ≤ (c : Int) := by omega
  have hs : ∀ w, Calls Try.prog 78 #[.int .i64 (c : Int)] w fun e w' => e = .returned (.bool true) ∧ w = w' := fun w => by
    go_enter Try.func78, Try.ntmps78
    go_wp2_with fail
    go_ret
    exact ⟨rfl, rfl⟩
  go_enter Try.func55, Try.ntmps55
  go_wp2_with fail
  refine (hs w).mono ?_
  rintro e w1 ⟨rfl, rfl⟩
  go_wp2_with fail
  go_ret
  exact ⟨rfl, rfl⟩

set_option maxRecDepth 100000 in
set_option maxHeartbeats 1000000 in
theorem IsInBox_any (v : Value) (xs : List Int) (r c : Nat) (w : World) (h : Ints w v xs) (hrc : r ≤ c) (hc0 : 1 ≤ c) (hc7 : c ≤ 7) :
    Calls Try.prog 62 #[v, .int .i64 (r : Int), .int .i64 (c : Int)] w fun e w' => e = .returned (.bool (bxOk xs r c)) ∧ Qt w w' := by
  have Hd := Lib.hid h
  obtain ⟨p, cap, rfl, ⟨hx1, hx2⟩, _⟩ := h
  unfold maxLen at hx2
  cases hs : shOk xs with
  | false =>
    rw [bx_no1 hs]
    have Hs := Lib.hid hs
    clear hs
    go_enter Try.func62, Try.ntmps62
    go_wp2_with fail
    refine (isBox_yes _ _ _ hrc hc0 hc7).mono ?_
    rintro e w1 ⟨rfl, rfl⟩
    go_wp2_with fail
    refine (implIsShape_any _ xs _ Hd.out).mono ?_
    rintro e w2 ⟨rfl, hq2⟩
    rw [Hs.out]
    go_wp2_with fail
    go_ret
    exact ⟨rfl, hq2⟩
  | true =>
  have Hs := Lib.hid hs
  by_cases hl : xs.length ≤ r
  case neg =>
    rw [bx_no2 hl]
    have hl1 : ¬ (xs.length : Int) ≤ (r : Int) := by omega
    clear hs hl
    go_enter Try.func62, Try.ntmps62
    go_wp2_with fail
    refine (isBox_yes _ _ _ hrc hc0 hc7).mono ?_
    rintro e w1 ⟨rfl, rfl⟩
    go_wp2_with fail
    refine (implIsShape_any _ xs _ Hd.out).mono ?_
    rintro e w2 ⟨rfl, hq2⟩
    rw [Hs.out]
    go_wp2_with fail
    go_ret
    exact ⟨rfl, hq2⟩
  rw [bx_end hs hl]
  have hl1 : (xs.length : Int) ≤ (r : Int) := by omega
  obtain ⟨s, hs0⟩ : ∃ s, s = xs.getD 0 0 := ⟨_, rfl⟩
  rw [← hs0]
  have Hs0 := Lib.hid hs0
  clear hs hl hs0
  by_cases hsc : s ≤ (c : Int) - (r : Int)
  · have hd : decide (s ≤ (c : Int) - (r : Int)) = true := decide_eq_true hsc
    rw [hd]
    clear hd
    go_enter Try.func62, Try.ntmps62
    go_wp2_with fail
    refine (isBox_yes _ _ _ hrc hc0 hc7).mono ?_
    rintro e w1 ⟨rfl, rfl⟩
    go_wp2_with fail
    refine (implIsShape_any _ xs _ Hd.out).mono ?_
    rintro e w2 ⟨rfl, hq2⟩
    rw [Hs.out]
    go_wp2_with fail
    refine (rowOf_any _ xs 0 _ (Hd.out.qt hq2) (by omega)).mono ?_
    rintro e w3 ⟨rfl, hq3⟩
    rw [← Hs0.out]
    go_wp2_with fail
    go_ret
    exact ⟨rfl, hq2.trans hq3⟩
  · have hd : decide (s ≤ (c : Int) - (r : Int)) = false := decide_eq_false hsc
    rw [hd]
    clear hd
    go_enter Try.func62, Try.ntmps62
    go_wp2_with fail
    refine (isBox_yes _ _ _ hrc hc0 hc7).mono ?_
    rintro e w1 ⟨rfl, rfl⟩
    go_wp2_with fail
    refine (implIsShape_any _ xs _ Hd.out).mono ?_
    rintro e w2 ⟨rfl, hq2⟩
    rw [Hs.out]
    go_wp2_with fail
    refine (rowOf_any _ xs 0 _ (Hd.out.qt hq2) (by omega)).mono ?_
    rintro e w3 ⟨rfl, hq3⟩
    rw [← Hs0.out]
    go_wp2_with fail
    go_ret
    exact ⟨ret_bool (decide_eq_false (by omega)), hq2.trans hq3⟩

end Go.Proofs.Ytoodgbflaaabmaa

namespace Go.Proofs.Ytoodgbflaaabmaa
set_option linter.all false
open Go.RowKit

/-- i parts are drawn, m is the most that the next may have -/
structure ShUp (xs : List Int) (i c m : Nat) : Prop where
  len : xs.length = i
  each : ∀ j, j < i → shAt xs j
  le : m ≤ c
  zero : i = 0 → m = c
  last : 0 < i → xs.getD (i - 1) 0 = (m : Int)
  first : 0 < i → xs.getD 0 0 ≤ (c : Int)
theorem ShUp.nil (c : Nat) : ShUp [] 0 c c := ⟨rfl, fun j h => absurd h (Nat.not_lt_zero _), Nat.le_refl _, fun _ => rfl, fun h => absurd h (Nat.lt_irrefl _), fun h => absurd h (Nat.lt_irrefl _)⟩
theorem ShUp.snoc {xs : List Int} {i c m x : Nat} (h : ShUp xs i c m) (hc : c ≤ 16) (h1 : 1 ≤ x) (hx : x ≤ m) : ShUp (xs ++ [(x : Int)]) (i + 1) c x := by
  obtain ⟨hl, he, hle, hz, hla, hfi⟩ := h
  have old : ∀ j, j < i → (xs ++ [(x : Int)]).getD j 0 = xs.getD j 0 := fun j hj => by
    rw [List.getD_eq_getElem?_getD, List.getElem?_append_left (by omega), ← List.getD_eq_getElem?_getD]
  have new : (xs ++ [(x : Int)]).getD i 0 = (x : Int) := by
    rw [List.getD_eq_getElem?_getD, List.getElem?_append_right (by omega)]
    simp [hl]
  refine ⟨by simp [hl], fun j hj => ?_, by omega, fun e => absurd e (by omega), fun _ => by rw [Nat.add_sub_cancel]; exact new, fun _ => ?_⟩
  · unfold shAt
    by_cases e : j < i
    · have := he j e
      unfold shAt at this
      rw [old j e]
      refine ⟨this.1, this.2.1, fun h0 => ?_⟩
      rw [old (j - 1) (by omega)]
      exact this.2.2 h0
    · obtain rfl : j = i := by omega
      rw [new]
      refine ⟨by omega, by omega, fun h0 => ?_⟩
      rw [old (j - 1) (by omega), hla h0]
      omega
  · by_cases e : i = 0
    · subst e
      rw [new]; omega
    · rw [old 0 (by omega)]; exact hfi (by omega)
theorem ShUp.box {xs : List Int} {i r c m : Nat} (h : ShUp xs i c m) (hi : i ≤ r) (hr : r ≤ 16) : bxOk xs r (r + c) = true := by
  obtain ⟨hl, he, hle, hz, hla, hfi⟩ := h
  rw [bx_end (shOk_yes (by omega) (fun j hj => he j (by omega))) (by omega)]
  refine decide_eq_true ?_
  by_cases e : i = 0
  · have : xs = [] := List.eq_nil_of_length_eq_zero (by omega)
    subst this
    show (0 : Int) ≤ _
    omega
  · have := hfi (by omega)
    omega

set_option maxRecDepth 100000 in
set_option maxHeartbeats 2000000 in
/-- any shape in a box -/
theorem dShape_any (k r c : Nat) (w : World) (h : Cur w k) (hr : r ≤ 7) (hc : c ≤ 7) :
    Calls Try.prog 48 #[.pointer (some ⟨k, 0, none⟩), .int .i64 (r : Int), .int .i64 (c : Int)] w fun e w' =>
      ∃ (u : Value) (xs : List Int), e = .returned u ∧ OwnI 3 w' w.heap.size w'.heap.size u xs ∧ bxOk xs r (r + c) = true ∧ Cur w' k ∧ Frm k (k + 1) w w' := by
  have Hc := Lib.hid h
  have hk := h.lt
  clear h
  go_enter Try.func48, Try.ntmps48
  go_wp2_with fail
  go_loopg [7, 8, 9] r (fun g s7 s8 s9 wr => ∃ (i m : Nat) (xs : List Int), i ≤ r ∧ g = r - i ∧ s9 = .int .i64 i ∧ s8 = .int .i64 m ∧ m ≤ c ∧ Hid (ShUp xs i c m) ∧ Hid (OwnI 3 wr w.heap.size wr.heap.size s7 xs) ∧ Hid (Cur wr k) ∧ Hid (Frm k (k + 1) w wr))
  case atStart =>
    refine ⟨0, c, [], Nat.zero_le _, rfl, rfl, rfl, Nat.le_refl _, ShUp.nil c, ?_, Hc.out.below (below_alloc w _), Frm.of_below (below_alloc w _) _ _⟩
    exact OwnF.ints ((OwnF.made0 w 3 (iv [])).mono (Nat.le_refl _) (by simp))
  case round =>
    obtain ⟨i, m, xs, hi, rfl, rfl, rfl, hm, hu, ho, hcu, hf⟩ := hrel
    have hsr := hf.out.size
    by_cases hlt : i < r
    · have hlt2 : (i : Int) < (r : Int) := by omega
      by_cases hm0 : 0 < m
      · have hm2 : (0 : Int) < (m : Int) := by omega
        have Hm1 := Lib.hid (show (m : Int) + 1 = ((m + 1 : Nat) : Int) by omega)
        obtain ⟨p5, k5, rfl, _, _⟩ := ho.out.shape
        have hofn := ho.out.fn
        have hml : xs.length = i := hu.out.len
        rw [hml] at hofn ⊢
        have Ho := Lib.hid hofn
        have Hoi := Lib.hid (show OwnI 3 wr w.heap.size wr.heap.size (.slice p5 i k5) xs by rw [← hml]; exact ho.out)
        have Hml := Lib.hid hml
        have Hcu := Lib.hid hcu.out
        have Hf := Lib.hid hf.out
        have Hu := Lib.hid hu.out
        have Hb1 := Lib.hid (show i + 1 ≤ maxLen by unfold maxLen; omega)
        have Hb2 := Lib.hid (show (i + 1) * 8 ≤ 140737488355328 by omega)
        clear ho hofn hml hcu hf hu
        go_wp2_with fail
        rw [Hm1.out]
        refine (l1Below_any k (m + 1) _ Hcu.out (by omega) (by omega)).mono ?_
        rintro e w1 ⟨x, rfl, hx, hc1, hf1⟩
        have hs1 := hf1.size
        have Ho1 := Lib.hid (Ho.out.frm hf1 (Or.inr (by omega)))
        have Hoi1 := Lib.hid (Hoi.out.frm hf1 (Or.inr (by omega)))
        have Hc1 := Lib.hid hc1
        have Hf1 := Lib.hid (Hf.out.trans hf1)
        clear hc1 hf1
        by_cases hx0 : x = 0
        · subst hx0
          go_wp2_with fail
          go_ret
          exact ⟨_, xs, rfl, by have := Hoi1.out.mono (Nat.le_refl _) hs1; exact this, Hu.out.box hi (by omega), Hc1.out, Hf1.out⟩
        · have hx2 : ¬ (x : Int) = 0 := by omega
          go_wp2_with (at_builtin; go_must (refine wpList_append_F rfl (.tmp 29) (.tmp 31) 24 rfl 3 (.int .i64 0) 8 Try.underlying24 info_int rfl w.heap.size wr.heap.size _ i (iv xs) rfl (Ho1.out.below (below_alloc w1 _)) (by rw [size_alloc]; omega) (by rw [size_alloc]; omega) _ 1 _ rfl (rd_one _ _ _ rfl) (fun j _ => rfl) Hb1.out Hb2.out ?_; intro v2 w2 ho2 hg2))
          go_roundg (r - (i + 1))
          case measure => omega
          case rel =>
            have hbx : Below w.heap.size w1 w2 := ((below_alloc w1 _).mono (by omega)).trans (grownBy_below hg2 Ho1.out.blocks (Nat.le_refl _) (by rw [size_alloc]; omega))
            refine ⟨i + 1, x, xs ++ [(x : Int)], by omega, rfl, by go_num, rfl, by omega, Hu.out.snoc (by omega) (by omega) (by omega), ?_, Hc1.out.keepB hbx hk, Hf1.out.thenB hbx (Nat.le_refl _)⟩
            exact OwnI.snoc1 (by rw [Hml.out]; exact ho2)
      · have hm2 : ¬ (0 : Int) < (m : Int) := by omega
        obtain ⟨p5, k5, rfl, _, _⟩ := ho.out.shape
        go_wp2_with fail
        go_ret
        exact ⟨_, rfl, xs, ho.out, hu.out.box hi (by omega), hcu.out, hf.out⟩
    · have hlt2 : ¬ (i : Int) < (r : Int) := by omega
      obtain ⟨p5, k5, rfl, _, _⟩ := ho.out.shape
      go_wp2_with fail
      go_ret
      exact ⟨_, rfl, xs, ho.out, hu.out.box hi (by omega), hcu.out, hf.out⟩

end Go.Proofs.Ytoodgbflaaabmaa

namespace Go.Proofs.Ytoodgbflaaabmaa
set_option linter.all false
open Go.RowKit

set_option maxRecDepth 100000 in
set_option maxHeartbeats 400000 in
theorem cloneRows_any (v : Value) (n : Nat) (f : Nat → Value) (w : World) (h : Rd w v n f) (h1 : ∀ j, j < n → (f j).oneCell' = true) (hl : n ≤ 1000) :
    Calls Try.prog 85 #[v] w fun e w' => ∃ u, e = .returned u ∧ OwnF w' w.heap.size w'.heap.size 24 u n f ∧ Below w.heap.size w w' := by
  have hI := Lib.hid h
  have H1 := Lib.hid h1
  obtain ⟨p, cap, rfl, ⟨hx1, hx2⟩, hxc⟩ := h
  have keq := fun (n c : Nat) => Lib.run_eql_slice_nil (P := Try.prog) w 42 24 p n c 0 0 Try.underlying42
  cases p with
  | none =>
    have hx0 : n = 0 := by
      rcases Nat.eq_zero_or_pos n with h0 | h0
      · exact h0
      · obtain ⟨b, off, e, _⟩ := hxc h0; cases e
    subst hx0
    clear hxc hI
    go_enter Try.func85, Try.ntmps85
    go_wp2_with fail
    go_ret
    exact ⟨_, rfl, OwnF.nil _ _ _ _ _, Below.refl _ _⟩
  | some a =>
    have Hb1 := Lib.hid (show 0 + n ≤ maxLen by unfold maxLen; omega)
    have Hb2 := Lib.hid (show (0 + n) * 24 ≤ 140737488355328 by omega)
    clear hxc h1
    go_enter Try.func85, Try.ntmps85
    go_wp2_with (at_builtin; go_must (refine wpList_append_F rfl (.tmp 5) (.tmp 6) 42 rfl 24 (.slice none 0 0) 24 Try.underlying42 info_sl rfl w.heap.size (w.heap.size + 1) _ 0 (fun _ => undef) rfl (OwnF.made0 w _ _) (by simp) (by simp) _ _ _ rfl (hI.out.below (below_alloc w _)) H1.out Hb1.out Hb2.out ?_; intro v' w' ho' hg'))
    go_ret
    refine ⟨_, rfl, ?_, (below_alloc w _).trans (grownBy_below hg' (OwnF.made0 w 24 (fun _ => undef)).blocks (Nat.le_refl _) (by simp))⟩
    rw [Nat.zero_add] at ho'
    exact ho'.congr fun j _ => by simp

/-- rows that can be read, one list behind another one -/
theorem rdII_join {T : TypeId} {w : World} {lo hi : Nat} {v : Value} {a b : List (List Int)} {f g : Nat → Value} (h : OwnF w lo hi T v (a.length + b.length) (fun j => if j < a.length then f j else g (j - a.length)))
    (hf : ∀ i, i < a.length → Ints w (f i) (a.getD i [])) (hg : ∀ i, i < b.length → Ints w (g i) (b.getD i [])) : RdII w v (a ++ b) := by
  refine ⟨_, by rw [List.length_append]; exact h.rd, fun i hi => ?_⟩
  rw [List.length_append] at hi
  by_cases e : i < a.length
  · simp only [e, if_true]
    rw [show (a ++ b).getD i [] = a.getD i [] by simp [List.getD_eq_getElem?_getD, List.getElem?_append_left e]]
    exact hf i e
  · simp only [e, if_false]
    rw [show (a ++ b).getD i [] = b.getD (i - a.length) [] by simp [List.getD_eq_getElem?_getD, List.getElem?_append_right (Nat.le_of_not_lt e)]]
    exact hg _ (by omega)
theorem Ints.one {w : World} {v : Value} {xs : List Int} (h : Ints w v xs) : v.oneCell' = true := by
  obtain ⟨p, cap, rfl, _⟩ := h
  rfl
theorem Ints.grown {T : TypeId} {w w' : World} {lo hi n : Nat} {v u : Value} {f : Nat → Value} {xs : List Int} {B : Nat} (h : Ints w u xs) (hb : Below B w w') (hu : ∀ b, (∃ n c o, u = .slice (some ⟨b, o, none⟩) n c) → b < B) : Ints w' u xs := by
  obtain ⟨p, cap, rfl, hm, hc⟩ := h
  refine ⟨p, cap, rfl, hm, fun h0 => ?_⟩
  obtain ⟨b, off, rfl, hx⟩ := hc h0
  exact ⟨b, off, rfl, fun j hj => by
    have := hx j hj
    rw [hb.cell (hu b ⟨_, _, _, rfl⟩)]
    exact this⟩
/-- behind what changed from B on: rows that lay below B -/
theorem Ints.up {w0 w w' : World} {u : Value} {xs : List Int} (h : Ints w0 u xs) (hb : Below w0.heap.size w0 w') : Ints w' u xs := h.below hb

set_option maxRecDepth 100000 in
set_option maxHeartbeats 1000000 in
theorem common_any (P : Int) (C : Nat) (u v : Value) (A B : List (List Int)) (w : World) (hu : RdII w u A) (hv : RdII w v B) (hA : RowsOk P C A) (hB : RowsOk P C B) (hp : primeOk P = true) (hlA : A.length ≤ 40) (hlB : B.length ≤ 40) (hC : C ≤ 100) :
    Calls Try.prog 60 #[u, v, .int .i64 P] w fun e w' => ∃ n : Nat, e = .returned (.int .i64 ((A.length : Int) + (B.length : Int) - (n : Int))) ∧ HasRank P C (A.length + B.length) (mt (A ++ B)) n ∧ Below w.heap.size w w' := by
  obtain ⟨f, hf, hfi⟩ := hu
  obtain ⟨g, hg, hgi⟩ := hv
  obtain ⟨NA, hNA⟩ : ∃ n, n = A.length := ⟨_, rfl⟩
  obtain ⟨NB, hNB⟩ : ∃ n, n = B.length := ⟨_, rfl⟩
  rw [← hNA, ← hNB]
  rw [← hNA] at hf hfi hlA
  rw [← hNB] at hg hgi hlB
  have Hf := Lib.hid hf
  have Hg := Lib.hid hg
  have Hfi := Lib.hid hfi
  have Hgi := Lib.hid hgi
  have HA := Lib.hid hA
  have HB := Lib.hid hB
  have Hp := Lib.hid hp
  obtain ⟨pu, ku, rfl, ⟨_, mu⟩, _⟩ := hf
  obtain ⟨pv, kv, rfl, ⟨_, mv⟩, _⟩ := hg
  unfold maxLen at mu mv
  have HNA := Lib.hid hNA
  have HNB := Lib.hid hNB
  have Hl1 := Lib.hid (show NA + NB ≤ maxLen by unfold maxLen; omega)
  have Hl2 := Lib.hid (show (NA + NB) * 24 ≤ 140737488355328 by omega)
  clear hfi hgi hA hB hp hNA hNB
  go_enter Try.func60, Try.ntmps60
  go_wp2_with fail
  refine (cloneRows_any _ NA f _ Hf.out (fun j hj => (Hfi.out j hj).one) (by omega)).mono ?_
  rintro e w1 ⟨y, rfl, ho, hb⟩
  obtain ⟨py, ky, rfl, _, _⟩ := ho.shape
  have hs1 := hb.size
  have Ho := Lib.hid ho
  have Hb := Lib.hid hb
  clear ho hb
  go_wp2_with (at_builtin; go_must (refine wpList_append_F rfl (.tmp 13) (.tmp 14) 42 rfl 24 (.slice none 0 0) 24 Try.underlying42 info_sl rfl w.heap.size w1.heap.size _ NA _ rfl Ho.out hs1 (Nat.le_refl _) _ _ _ rfl (Rd.below Hg.out Hb.out) (fun j hj => (Hgi.out j hj).one) Hl1.out Hl2.out ?_; intro v' w2 ho' hg'))
  have hb2 : Below w.heap.size w w2 := Hb.out.trans (grownBy_below hg' Ho.out.blocks (Nat.le_refl _) hs1)
  rw [HNA.out, HNB.out] at ho'
  have hr := rdII_join ho' (fun i hi => (Hfi.out i (by rw [HNA.out]; exact hi)).below hb2) (fun i hi => (Hgi.out i (by rw [HNB.out]; exact hi)).below hb2)
  rw [← HNA.out, ← HNB.out] at ho'
  obtain ⟨pj, kj, rfl, _, _⟩ := ho'.shape
  obtain ⟨J, hJ⟩ : ∃ J, J = A ++ B := ⟨_, rfl⟩
  have hJl : J.length = NA + NB := by rw [hJ, List.length_append, ← HNA.out, ← HNB.out]
  rw [← hJ] at hr
  have Hr := Lib.hid hr
  have HJ := Lib.hid hJ
  have HJl := Lib.hid hJl
  have Hb2 := Lib.hid hb2
  clear hr hJ hb2 ho' hg' hJl
  go_wp2_with fail
  refine (reduced_any _ J C P _ Hr.out (by rw [HJ.out]; exact RowsOk.join HA.out HB.out) Hp.out (by rw [HJl.out]; omega) hC).mono ?_
  rintro e w3 ⟨y, L, q, rfl, hoR, hb3, hR1, hR2, hR3, hR4, hR5⟩
  obtain ⟨pr, kr, rfl, hkr1, hkr2⟩ := hoR.shape
  unfold maxLen at hkr2
  rw [HJl.out] at hR5
  have hrank : HasRank P C (NA + NB) (mt J) L.length := by
    refine ⟨mt L, q, hR2, hR3, fun i j hi hj => (hR1 i hi).2 j, ?_⟩
    rw [← HJl.out]; exact hR4
  have Hrank := Lib.hid hrank
  have Hb3 := Lib.hid (Hb2.out.trans (hb3.mono Hb2.out.size))
  clear hrank hb3 hoR hR1 hR2 hR3 hR4
  go_wp2_with fail
  go_ret
  refine ⟨L.length, rfl, ?_, Hb3.out⟩
  rw [← HJ.out]; exact Hrank.out


theorem list_range (D : List Int) {n : Nat} (h : n ≤ D.length) : (List.range n).map (fun t => D.getD t 0) = D.take n := by
  apply List.ext_getElem (by simp; omega)
  intro i h1 h2
  simp at h1
  simp [List.getD_eq_getElem?_getD, show i < D.length by omega]
/-- the first rows -/
theorem l7Top_D (P : Int) (R C n : Nat) (d : Value) (D : List Int) (w : World) (hd : Ints w d D) (hN : D.length = R * C) (hn : n ≤ R) (hR : R ≤ 14) (hC : C ≤ 14) :
    Calls Try.prog 95 #[.agg #[.int .i64 P, .int .i64 (R : Int), .int .i64 (C : Int), d], .int .i64 (n : Int)] w (RetM w ⟨P, n, C, D.take (n * C)⟩) := by
  have hnC : n * C ≤ D.length := by rw [hN]; exact Nat.mul_le_mul_right C hn
  rw [← list_range D hnC]
  obtain ⟨p, k, rfl, _⟩ := id hd
  refine l7Top_any P R C n p k D.length (fun t => D.getD t 0) w ?_ hN hn hR hC
  rw [list_range D (Nat.le_refl _), List.take_length]
  exact hd
theorem take_getD {D : List Int} {n t : Nat} (h : t < n) : (D.take n).getD t 0 = D.getD t 0 := by simp [List.getD_eq_getElem?_getD, List.getElem?_take, h]
theorem flat_lt {n C i c : Nat} (hi : i < n) (hc : c < C) : i * C + c < n * C := by
  have : (i + 1) * C ≤ n * C := Nat.mul_le_mul_right C hi
  rw [Nat.succ_mul] at this
  omega
theorem take_rng {P : Int} {D : List Int} {n : Nat} (hP : 0 < P) (h : ∀ t, 0 ≤ D.getD t 0 ∧ D.getD t 0 < P) (t : Nat) : 0 ≤ (D.take n).getD t 0 ∧ (D.take n).getD t 0 < P := by
  by_cases e : t < n
  · rw [take_getD e]; exact h t
  · rw [List.getD_eq_getElem?_getD, List.getElem?_take, if_neg e]; simp; exact hP
theorem HasRank.take {P : Int} {C n k : Nat} {D : List Int} (h : HasRank P C n (mf C fun t => (D.take (n * C)).getD t 0) k) : HasRank P C n (mf C fun t => D.getD t 0) k :=
  h.congr fun i j hi hj => (take_getD (flat_lt hi hj)).symm


end Go.Proofs.Ytoodgbflaaabmaa

namespace Go.Proofs.Ytoodgbflaaabmaa
set_option linter.all false
open Go.RowKit

/-- a list that is known by a property, or none -/
def LsQ (Q : List Int → Prop) (l : List Int) : Prop := Q l ∨ ((∀ m, ¬ Q m) ∧ l = [])
theorem LsQ.spec (Q : List Int → Prop) : LsQ Q (Classical.epsilon (LsQ Q)) := by
  refine Classical.epsilon_spec (p := LsQ Q) ?_
  by_cases h : ∃ m, Q m
  · obtain ⟨m, h⟩ := h
    exact ⟨m, .inl h⟩
  · exact ⟨[], .inr ⟨fun m hq => h ⟨m, hq⟩, rfl⟩⟩
theorem LsQ.eps {Q : List Int → Prop} {m : List Int} (hone : ∀ m m', Q m → Q m' → m = m') (h : Q m) : m = Classical.epsilon (LsQ Q) := by
  rcases LsQ.spec Q with h2 | ⟨h2, _⟩
  · exact hone _ _ h h2
  · exact absurd h (h2 m)
theorem LsQ.len {Q : List Int → Prop} {n : Nat} (h : ∀ m, Q m → m.length ≤ n) : (Classical.epsilon (LsQ Q)).length ≤ n := by
  rcases LsQ.spec Q with h2 | ⟨_, h2⟩
  · exact h _ h2
  · rw [h2]; exact Nat.zero_le _

/-- eight cells that are read, where what changed lies from B on -/
theorem keep8B {w W W' : World} {B b1 b2 o0 o1 o2 o3 o4 o5 o6 o7 : Nat} {v0 v1 v2 v3 v4 v5 v6 v7 : Value} (hb : Below B W W') (hB1 : b1 < B) (hB2 : b2 < B) (hw : w.heap.size ≤ B)
    (h : (W.cell? ⟨b1, o0, none⟩ = some v0 ∧ W.cell? ⟨b1, o1, none⟩ = some v1 ∧ W.cell? ⟨b1, o2, none⟩ = some v2 ∧ W.cell? ⟨b1, o3, none⟩ = some v3 ∧ W.cell? ⟨b2, o4, none⟩ = some v4 ∧ W.cell? ⟨b2, o5, none⟩ = some v5 ∧ W.cell? ⟨b2, o6, none⟩ = some v6 ∧ W.cell? ⟨b2, o7, none⟩ = some v7) ∧ Below w.heap.size w W) :
    (W'.cell? ⟨b1, o0, none⟩ = some v0 ∧ W'.cell? ⟨b1, o1, none⟩ = some v1 ∧ W'.cell? ⟨b1, o2, none⟩ = some v2 ∧ W'.cell? ⟨b1, o3, none⟩ = some v3 ∧ W'.cell? ⟨b2, o4, none⟩ = some v4 ∧ W'.cell? ⟨b2, o5, none⟩ = some v5 ∧ W'.cell? ⟨b2, o6, none⟩ = some v6 ∧ W'.cell? ⟨b2, o7, none⟩ = some v7) ∧ Below w.heap.size w W' := by
  obtain ⟨⟨h0, h1, h2, h3, h4, h5, h6, h7⟩, hB⟩ := h
  have e1 : W'.heap[b1]? = W.heap[b1]? := hb.block _ hB1
  have e2 : W'.heap[b2]? = W.heap[b2]? := hb.block _ hB2
  refine ⟨⟨?_, ?_, ?_, ?_, ?_, ?_, ?_, ?_⟩, hB.trans (hb.mono hw)⟩
  · rw [World.cell?_of_block (w := W) e1]; exact h0
  · rw [World.cell?_of_block (w := W) e1]; exact h1
  · rw [World.cell?_of_block (w := W) e1]; exact h2
  · rw [World.cell?_of_block (w := W) e1]; exact h3
  · rw [World.cell?_of_block (w := W) e2]; exact h4
  · rw [World.cell?_of_block (w := W) e2]; exact h5
  · rw [World.cell?_of_block (w := W) e2]; exact h6
  · rw [World.cell?_of_block (w := W) e2]; exact h7
theorem two_lt {w W : World} {c : Prop} {B : Nat} (hs : B ≤ w.heap.size) {w0 : World} (h : c ∧ Below w0.heap.size w0 W) (hw : Below w.heap.size w W) : B ≤ W.heap.size := Nat.le_trans hs hw.size

/-- the dimension of what the first i rows of one and the first j rows of another one have in common, both being bases -/
def CmIs (P : Int) (C : Nat) (A : Nat → Nat → Int) (i : Nat) (B : Nat → Nat → Int) (j : Nat) (m : Int) : Prop := ∃ k : Nat, HasRank P C (i + j) (stackM i A B) k ∧ m = (i : Int) + (j : Int) - (k : Int)
theorem CmIs.one {P : Int} {C i j : Nat} {A B : Nat → Nat → Int} {m m' : Int} (hP : 2 ≤ P) (h : CmIs P C A i B j m) (h' : CmIs P C A i B j m') : m = m' := by
  obtain ⟨k, h1, rfl⟩ := h
  obtain ⟨k', h1', rfl⟩ := h'
  rw [h1.one hP h1']

theorem take_length_le {α : Type} {l : List α} {n : Nat} (h : n ≤ l.length) : (l.take n).length = n := by rw [List.length_take]; omega
theorem take_getD2 {l : List (List Int)} {n i : Nat} (h : i < n) : (l.take n).getD i [] = l.getD i [] := by simp [List.getD_eq_getElem?_getD, List.getElem?_take, h]
theorem RowsOk.take {p : Int} {C n : Nat} {a : List (List Int)} (ha : RowsOk p C a) : RowsOk p C (a.take n) := fun i hi => by
  rw [List.length_take] at hi
  rw [take_getD2 (by omega)]; exact ha i (by omega)
theorem RdII.take {w : World} {p : Option Addr} {n cap k : Nat} {rows : List (List Int)} (h : RdII w (.slice p n cap) rows) (hk : k ≤ rows.length) : RdII w (.slice p k cap) (rows.take k) := by
  obtain ⟨f, ⟨q, c, e, ⟨h1, h2⟩, h3⟩, h4⟩ := h
  injection e with e1 e2 e3
  subst e1 e3
  refine ⟨f, ⟨p, cap, ?_, ⟨by rw [List.length_take]; omega, h2⟩, fun h0 => ?_⟩, fun i hi => ?_⟩
  · rw [take_length_le hk]
  · rw [take_length_le hk] at h0
    obtain ⟨b, off, rfl, hx⟩ := h3 (by omega)
    exact ⟨b, off, rfl, fun j hj => hx j (by rw [List.length_take] at hj; omega)⟩
  · rw [List.length_take] at hi
    rw [take_getD2 (by omega)]
    exact h4 i (by omega)
theorem rowsOf_take {C R n : Nat} {D : List Int} (h : n ≤ R) : (rowsOf R C D).take n = rowsOf n C D := by
  apply List.ext_getElem
  · rw [List.length_take, rowsOf_length, rowsOf_length]; omega
  · intro i h1 h2
    rw [List.getElem_take]
    simp [rowsOf]
/-- common, of the first rows of two matrices -/
theorem common_b (P : Int) (AR BR C i j : Nat) (u v : Value) (DA DB : List Int) (w : World) (hu : RdII w u (rowsOf i C DA)) (hv : RdII w v (rowsOf j C DB)) (hlA : DA.length = AR * C) (hlB : DB.length = BR * C) (hrA : AR ≤ 7) (hrB : BR ≤ 7) (hC : C ≤ 7) (hi : i ≤ AR) (hj : j ≤ BR)
    (hgA : ∀ t, 0 ≤ DA.getD t 0 ∧ DA.getD t 0 < P) (hgB : ∀ t, 0 ≤ DB.getD t 0 ∧ DB.getD t 0 < P) (hpr : primeOk P = true) :
    Calls Try.prog 60 #[u, v, .int .i64 P] w fun e w' =>
      ∃ m : Int, e = .returned (.int .i64 m) ∧ CmIs P C (mf C fun t => DA.getD t 0) i (mf C fun t => DB.getD t 0) j m ∧ -100 ≤ m ∧ m ≤ 100 ∧ Below w.heap.size w w' := by
  have rA : RowsOk P C (rowsOf i C DA) := by
    have := rowsOf_ok (C := C) (R := AR) hlA hgA
    rw [← rowsOf_take hi]; exact this.take
  have rB : RowsOk P C (rowsOf j C DB) := by
    have := rowsOf_ok (C := C) (R := BR) hlB hgB
    rw [← rowsOf_take hj]; exact this.take
  refine (common_any P C u v _ _ w hu hv rA rB hpr (by rw [rowsOf_length]; omega) (by rw [rowsOf_length]; omega) (by omega)).mono ?_
  rintro e w' ⟨n, rfl, hn, hb⟩
  rw [rowsOf_length, rowsOf_length] at hn ⊢
  have e3 := hn.leC
  refine ⟨_, rfl, ⟨n, hn.same ?_, rfl⟩, by omega, by omega, hb⟩
  have := rowsOf_join (P := P) (R := i) (R' := j) (C := C) (D := DA) (D' := DB)
  rwa [List.length_append, rowsOf_length, rowsOf_length] at this

/-- a space and a flag that lie in one -/
def SfIs (P R C : Int) (D : List Int) (P' R' C' : Int) (D' : List Int) : Prop := IsSp P R C D ∧ IsFl P' R' C' D' ∧ P = P' ∧ C = C'
theorem IsSp.facts {P R C : Int} {D : List Int} (h : IsSp P R C D) : ∃ r c : Nat, R = r ∧ C = c ∧ r ≤ 7 ∧ 1 ≤ c ∧ c ≤ 7 ∧ D.length = r * c ∧ (∀ x ∈ D, 0 ≤ x ∧ x < P) ∧ 2 ≤ P ∧ P ≤ 7 ∧ primeOk P = true ∧ HasRank P c r (mf c fun t => D.getD t 0) r := by
  obtain ⟨h1, h2⟩ := h
  obtain ⟨r, c, rfl, rfl, hr, hc0, hc, hlD, hD, hP2, hP7, hpr⟩ := mxOk_facts h1
  unfold SpIs at h2
  rw [if_pos h1] at h2
  obtain ⟨n, M, q, hr2, _, e⟩ := h2
  injection e with _ e2 _ _
  obtain rfl := Int.ofNat.inj e2
  simp only [Int.toNat_natCast] at hr2
  exact ⟨r, c, rfl, rfl, hr, hc0, hc, hlD, hD, hP2, hP7, hpr, M, q, hr2⟩

end Go.Proofs.Ytoodgbflaaabmaa

namespace Go.Proofs.Ytoodgbflaaabmaa
set_option linter.all false
open Go.RowKit

/-- the cells of two results, and the cursor -/
structure R2 (w : World) (k : Nat) (W : World) : Prop where
  z0 : ∃ y0 y1 y2 y3, W.heap[w.heap.size]? = some (.cells #[y0, y1, y2, y3] 34 (0, 0))
  z1 : ∃ y0 y1 y2 y3, W.heap[w.heap.size + 1]? = some (.cells #[y0, y1, y2, y3] 34 (0, 0))
  cu : Cur W k
  kk : w.heap.size + 1 < k
  be : Below w.heap.size w W
theorem R2.frm {w W W' : World} {k : Nat} (h : R2 w k W) (hf : Frm k (k + 1) W W') (hc : Cur W' k) : R2 w k W' := by
  obtain ⟨⟨a0, a1, a2, a3, a⟩, ⟨b0, b1, b2, b3, b⟩, cu, kk, be⟩ := h
  exact ⟨⟨a0, a1, a2, a3, (hf.block _ (blk_lt a) (Or.inl (by omega))).trans a⟩, ⟨b0, b1, b2, b3, (hf.block _ (blk_lt b) (Or.inl (by omega))).trans b⟩, hc, kk, be.trans (hf.below (by omega) be.size)⟩
theorem R2.below {w W W' : World} {k : Nat} (h : R2 w k W) (hb : Below W.heap.size W W') : R2 w k W' := h.frm (Frm.of_below hb _ _) (h.cu.below hb)
/-- one box -/
structure Q1 (b : Nat) (P : Int) (r n : Nat) (v : Value) (W : World) : Prop where
  a : W.heap[b]? = some (.cells #[.int .i64 P, .int .i64 (r : Int), .int .i64 (n : Int), v] 34 (0, 0))
theorem Q1.frm {b r n k : Nat} {P : Int} {v : Value} {W W' : World} (h : Q1 b P r n v W) (hf : Frm k (k + 1) W W') (ha : k < b) : Q1 b P r n v W' := ⟨(hf.block _ (blk_lt h.a) (Or.inr (by omega))).trans h.a⟩
theorem Q1.set {b r n t : Nat} {P : Int} {v : Value} {W : World} (h : Q1 b P r n v W) (ha : b ≠ t) (x0 x1 x2 x3 : Value) : Q1 b P r n v ((((W.setCell ⟨t, 0, none⟩ x0).setCell ⟨t, 1, none⟩ x1).setCell ⟨t, 2, none⟩ x2).setCell ⟨t, 3, none⟩ x3) := ⟨set4_other h.a ha _ _ _ _⟩
theorem Q1.drew {b r n : Nat} {P : Int} {v : Value} {W : World} (h : Q1 b P r n v W) : Q1 b P r n v W.drew := ⟨h.a⟩
theorem Q1.hold {b r n : Nat} {P : Int} {v : Value} {W : World} (h : Q1 b P r n v W) : (W.cell? ⟨b, 0, none⟩ = some (.int .i64 P) ∧ W.cell? ⟨b, 1, none⟩ = some (.int .i64 (r : Int)) ∧ W.cell? ⟨b, 2, none⟩ = some (.int .i64 (n : Int)) ∧ W.cell? ⟨b, 3, none⟩ = some v) := by
  obtain ⟨a0, a1, a2, a3, _, _⟩ := blk4 h.a
  exact ⟨a0, a1, a2, a3⟩

set_option maxRecDepth 100000 in
set_option maxHeartbeats 8000000 in
theorem DrawSpaceAndFlag_any (v : Value) (l : Nat) (w : World) (h : Byts w v l) :
    Calls Try.prog 25 #[v] w fun e w' =>
      ∃ (P : Int) (r n : Nat) (us uf ux : Value) (DS DF xs : List Int), e = .returned (.tuple #[.agg #[.int .i64 P, .int .i64 (r : Int), .int .i64 (n : Int), us], .agg #[.int .i64 P, .int .i64 (n : Int), .int .i64 (n : Int), uf], ux]) ∧
        n ≤ 5 ∧ r ≤ n ∧ 1 ≤ n ∧ (Ints w' us DS ∧ IsSp P r n DS) ∧ (Ints w' uf DF ∧ IsFl P n n DF) ∧ (Ints w' ux xs ∧ bxOk xs r n = true) ∧ Below w.heap.size w w' := by
  have Hc := Lib.hid (h.below (below_alloc2 w (.cells #[.int .i64 0, .int .i64 0, .int .i64 0, .slice none 0 0] 34) (.cells #[.int .i64 0, .int .i64 0, .int .i64 0, .slice none 0 0] 34)))
  obtain ⟨z0, z1⟩ := boxes_ab w (.cells #[.int .i64 0, .int .i64 0, .int .i64 0, .slice none 0 0] 34) (.cells #[.int .i64 0, .int .i64 0, .int .i64 0, .slice none 0 0] 34)
  have Hb1 := Lib.hid (below_alloc2 w (.cells #[.int .i64 0, .int .i64 0, .int .i64 0, .slice none 0 0] 34) (.cells #[.int .i64 0, .int .i64 0, .int .i64 0, .slice none 0 0] 34))
  have hs1 : ((w.alloc (.cells #[.int .i64 0, .int .i64 0, .int .i64 0, .slice none 0 0] 34)).alloc (.cells #[.int .i64 0, .int .i64 0, .int .i64 0, .slice none 0 0] 34)).heap.size = w.heap.size + 1 + 1 := by simp
  have Y0 := Lib.hid z0
  have Y1 := Lib.hid z1
  obtain ⟨_, _, cap, rfl, _⟩ := h
  clear z0 z1
  go_enter Try.func25, Try.ntmps25
  go_wp2_with fail
  generalize (w.alloc (.cells #[.int .i64 0, .int .i64 0, .int .i64 0, .slice none 0 0] 34)).alloc (.cells #[.int .i64 0, .int .i64 0, .int .i64 0, .slice none 0 0] 34) = w1 at *
  refine (l1New_any _ l _ Hc.out).mono ?_
  rintro e w2 ⟨rfl, hc2, hb2⟩
  rw [hs1] at hc2 ⊢
  have hR2 : R2 w (w.heap.size + 1 + 1) w2 := ⟨⟨_, _, _, _, blk_later Y0.out hb2⟩, ⟨_, _, _, _, blk_later Y1.out hb2⟩, hc2, by omega, Hb1.out.trans (hb2.mono (by omega))⟩
  have HR2 := Lib.hid hR2
  have hk2 := hc2.lt
  clear hR2 hc2 hb2 Y0 Y1 Hb1 Hc
  go_wp2_with fail
  refine (dPrime_any (w.heap.size + 1 + 1) _ HR2.out.cu).mono ?_
  rintro e w3 ⟨P, rfl, hp, hc3, hf3⟩
  have Hp := Lib.hid hp
  have HR3 := Lib.hid (HR2.out.frm hf3 hc3)
  have hs3 := hf3.size
  clear hp hc3 hf3
  go_wp2_with fail
  refine (l1Below_any (w.heap.size + 1 + 1) 5 _ HR3.out.cu (by omega) (by omega)).mono ?_
  rintro e w4 ⟨m, rfl, hm, hc4, hf4⟩
  have HR4 := Lib.hid (HR3.out.frm hf4 hc4)
  have hs4 := hf4.size
  have hmm : 1 + (m : Int) = ((m + 1 : Nat) : Int) := by omega
  obtain ⟨n, hn⟩ : ∃ n, n = m + 1 := ⟨_, rfl⟩
  rw [← hn] at hmm
  have Hmm := Lib.hid hmm
  have hn1 : 1 ≤ n := by omega
  have hn5 : n ≤ 5 := by omega
  clear hn hc4 hf4 hmm
  go_wp2_with fail
  rw [Hmm.out]
  refine (dSpace_any (w.heap.size + 1 + 1) P n _ HR4.out.cu Hp.out hn1 (by omega)).mono ?_
  rintro e w5 ⟨r, us, DS, rfl, hoS, hsS, hc5, hf5⟩
  have hrn : r ≤ n := by
    obtain ⟨r', c', e1, e2, _, _, _, _, _, _, _, _, hk⟩ := hsS.facts
    obtain rfl := Int.ofNat.inj e1
    obtain rfl := Int.ofNat.inj e2
    exact hk.leC
  obtain ⟨pS, kS, rfl, _, _⟩ := hoS.shape
  have HoS := Lib.hid hoS
  have HsS := Lib.hid hsS
  have HR5 := Lib.hid (HR4.out.frm hf5 hc5)
  have hs5 := hf5.size
  clear hoS hsS hc5 hf5
  go_wp2_with fail
  obtain ⟨w6, hw6⟩ : ∃ x : World, x = w5.alloc (.cells #[.int .i64 P, .int .i64 (r : Int), .int .i64 (n : Int), .slice pS DS.length kS] 34) := ⟨_, rfl⟩
  have hz6 : w6.heap[w5.heap.size]? = some (.cells #[.int .i64 P, .int .i64 (r : Int), .int .i64 (n : Int), .slice pS DS.length kS] 34) := by rw [hw6]; exact heap_alloc_top _ _
  have hb6 : Below w5.heap.size w5 w6 := by rw [hw6]; exact below_alloc _ _
  have hs6 : w6.heap.size = w5.heap.size + 1 := by rw [hw6]; exact size_alloc _ _
  rw [← hw6]
  have HoS6 := Lib.hid (HoS.out.below hb6)
  have HR6 := Lib.hid (HR5.out.below hb6)
  have HQ := Lib.hid (show Q1 w5.heap.size P r n (.slice pS DS.length kS) w6 from ⟨hz6⟩)
  have nk : w.heap.size + 1 + 1 < w5.heap.size := by have := HR5.out.cu.lt; exact this
  have na0 : w5.heap.size ≠ w.heap.size := by omega
  have na1 : w5.heap.size ≠ w.heap.size + 1 := by omega
  have Hnr := Lib.hid (show (n : Int) - (r : Int) = ((n - r : Nat) : Int) by omega)
  have Hw := Lib.hid (show IntKind.i64.wrap ((n : Int) - (r : Int)) = ((n - r : Nat) : Int) by rw [k64 (by omega) (by omega)]; omega)
  have Hrn2 := Lib.hid (show r + (n - r) = n by omega)
  clear hw6 hz6 hb6
  obtain ⟨a0, a1, a2, a3, af, az⟩ := blk4 HQ.out.a
  go_region_held3 (fun w' => w'.cell? ⟨w5.heap.size, 0, none⟩ = some (.int .i64 P) ∧ w'.cell? ⟨w5.heap.size, 1, none⟩ = some (.int .i64 (r : Int)) ∧ w'.cell? ⟨w5.heap.size, 2, none⟩ = some (.int .i64 (n : Int)) ∧ w'.cell? ⟨w5.heap.size, 3, none⟩ = some (.slice pS DS.length kS))
    (first | with_reducible exact HQ.out.drew.hold | with_reducible exact HQ.out.hold | with_reducible exact hq2.hold | with_reducible exact hq1.hold | with_reducible exact (hq2.set na0 _ _ _ _).hold | with_reducible exact ((hq2.set na0 _ _ _ _).set na1 _ _ _ _).hold | (trace_state; fail))
    (first
      | (go_at_call 48; (first | rw [Hw.out] | rw [Hnr.out]); refine (dShape_any (w.heap.size + 1 + 1) r (n - r) _ (hR1.below (by first | exact Below.refl _ _ | exact (Below.refl _ _).drew)).cu (by omega) (by omega)).mono ?_; rintro e w' ⟨ux, xs, rfl, hoX, hbX, hc1, hf1⟩; obtain ⟨pX, kX, rfl, _, _⟩ := hoX.shape; have hoF2 := (OwnI.below hoF (by first | exact Below.refl _ _ | exact (Below.refl _ _).drew)).frm hf1 (Or.inr (Nat.le_of_lt_succ (Nat.lt_succ_of_le hlC))); have hR2 := (hR1.below (by first | exact Below.refl _ _ | exact (Below.refl _ _).drew)).frm hf1 hc1; have hq2 := (hq1.frm (Frm.of_below (by first | exact Below.refl _ _ | exact (Below.refl _ _).drew) (w.heap.size + 1 + 1) ((w.heap.size + 1 + 1) + 1)) nk).frm hf1 nk; obtain ⟨s0, s1, s2, s3, hz0⟩ := hR2.z0; obtain ⟨t0, t1, t2, t3, hz1⟩ := hR2.z1; obtain ⟨f0, f1, f2, f3, f4, f5⟩ := blk4 hz0; obtain ⟨g0, g1, g2, g3, g4, g5⟩ := blk4 hz1)
      | (go_at_call 47; refine (dFlag_any (w.heap.size + 1 + 1) n P _ (HR6.out.below (by first | exact Below.refl _ _ | exact (Below.refl _ _).drew)).cu Hp.out hn1 hn5).mono ?_; rintro e w' ⟨pF, kF, DF, rfl, hoF, hsF, hc1, hf1⟩; have hlC : w.heap.size + 1 + 1 + 1 ≤ w6.heap.size := HR6.out.cu.lt; have hR1 := (HR6.out.below (by first | exact Below.refl _ _ | exact (Below.refl _ _).drew)).frm hf1 hc1; have hq1 := (HQ.out.frm (Frm.of_below (by first | exact Below.refl _ _ | exact (Below.refl _ _).drew) (w.heap.size + 1 + 1) ((w.heap.size + 1 + 1) + 1)) nk).frm hf1 nk; have hf7 := Lib.hid ((Frm.of_below (by first | exact Below.refl _ _ | exact (Below.refl _ _).drew) (w.heap.size + 1 + 1) ((w.heap.size + 1 + 1) + 1)).trans hf1); clear hf1))
  have n1 : w.heap.size ≠ w.heap.size + 1 := by omega
  have hF6 : w6.heap.size ≤ w'.heap.size := by
    have h8 : w6.heap.size ≤ _ := hf7.out.size
    have h9 := hf1.size
    omega
  have q0 := own_set4 (own_set4 (((HoS6.out.below (Below.refl _ _).drew).frm hf7.out (Or.inr (by omega))).frm hf1 (Or.inr (by omega))) (Or.inl (show w.heap.size < w4.heap.size by omega)) (.int .i64 P) (.int .i64 (r : Int)) (.int .i64 (n : Int)) (.slice pS DS.length kS)) (Or.inl (show w.heap.size + 1 < w4.heap.size by omega)) (.int .i64 P) (.int .i64 (n : Int)) (.int .i64 (n : Int)) (.slice pF DF.length kF)
  have q1 := own_set4 (own_set4 hoF2 (Or.inl (show w.heap.size < w6.drew.heap.size by show w.heap.size < w6.heap.size; omega)) (.int .i64 P) (.int .i64 (r : Int)) (.int .i64 (n : Int)) (.slice pS DS.length kS)) (Or.inl (show w.heap.size + 1 < w6.drew.heap.size by show w.heap.size + 1 < w6.heap.size; omega)) (.int .i64 P) (.int .i64 (n : Int)) (.int .i64 (n : Int)) (.slice pF DF.length kF)
  have hX5 := hR1.cu.lt
  have q2 := own_set4 (b := w.heap.size + 1) (own_set4 (b := w.heap.size) hoX (Or.inl (by omega)) (.int .i64 P) (.int .i64 (r : Int)) (.int .i64 (n : Int)) (.slice pS DS.length kS)) (Or.inl (by omega)) (.int .i64 P) (.int .i64 (n : Int)) (.int .i64 (n : Int)) (.slice pF DF.length kF)
  have r0 := set4_other (set4_all hz0 (.int .i64 P) (.int .i64 (r : Int)) (.int .i64 (n : Int)) (.slice pS DS.length kS)) n1 (.int .i64 P) (.int .i64 (n : Int)) (.int .i64 (n : Int)) (.slice pF DF.length kF)
  have r1 := set4_all (set4_other hz1 n1.symm (.int .i64 P) (.int .i64 (r : Int)) (.int .i64 (n : Int)) (.slice pS DS.length kS)) (.int .i64 P) (.int .i64 (n : Int)) (.int .i64 (n : Int)) (.slice pF DF.length kF)
  have r4 := below_set4 (below_set4 hR2.be (Nat.le_refl _) (.int .i64 P) (.int .i64 (r : Int)) (.int .i64 (n : Int)) (.slice pS DS.length kS)) (Nat.le_succ _) (.int .i64 P) (.int .i64 (n : Int)) (.int .i64 (n : Int)) (.slice pF DF.length kF)
  rw [Hrn2.out] at hbX
  clear hoF hc1 hf1 hf7 hoX hoF2 hR2 hR1 hq2 hq1 hz0 hz1 f0 f1 f2 f3 f4 f5 g0 g1 g2 g3 g4 g5
  generalize ((((((((w').setCell ⟨w.heap.size, 0, none⟩ (.int .i64 P)).setCell ⟨w.heap.size, 1, none⟩ (.int .i64 (r : Int))).setCell ⟨w.heap.size, 2, none⟩ (.int .i64 (n : Int))).setCell ⟨w.heap.size, 3, none⟩ (.slice pS DS.length kS)).setCell ⟨w.heap.size + 1, 0, none⟩ (.int .i64 P)).setCell ⟨w.heap.size + 1, 1, none⟩ (.int .i64 (n : Int))).setCell ⟨w.heap.size + 1, 2, none⟩ (.int .i64 (n : Int))).setCell ⟨w.heap.size + 1, 3, none⟩ (.slice pF DF.length kF) = wz at q0 q1 q2 r0 r1 r4 ⊢
  obtain ⟨c00, c01, c02, c03, c0f, c0z⟩ := blk4 r0
  obtain ⟨c10, c11, c12, c13, c1f, c1z⟩ := blk4 r1
  go_wp2_with fail
  refine bodyPost_ret (v := .tuple #[.agg #[.int .i64 P, .int .i64 (r : Int), .int .i64 (n : Int), .slice pS DS.length kS], .agg #[.int .i64 P, .int .i64 (n : Int), .int .i64 (n : Int), .slice pF DF.length kF], .slice pX xs.length kX]) (by simp [results, Try.results25, go_sem, c00, c01, c02, c03, c0z, c10, c11, c12, c13, c1z]) rfl ?_
  refine ⟨P, r, n, .slice pS DS.length kS, .slice pF DF.length kF, .slice pX xs.length kX, DS, DF, xs, ?_, hn5, hrn, hn1, ⟨?_, ?_⟩, ⟨?_, ?_⟩, ⟨?_, ?_⟩, ?_⟩
  · rfl
  · exact q0.ints
  · exact HsS.out
  · exact q1.ints
  · exact hsF
  · exact q2.ints
  · exact hbX
  · exact r4

end Go.Proofs.Ytoodgbflaaabmaa

namespace Go.Proofs.Ytoodgbflaaabmaa
set_option linter.all false
open Go.RowKit

/-- a row r less multiples of the first k rows of X, such that it has 0 where they begin -/
def elN (P : Int) (X : Nat → Nat → Int) (q : Nat → Nat) (r : Nat → Int) : Nat → Nat → Int
  | 0, j => r j
  | k + 1, j => (elN P X q r k j + (P - elN P X q r k (q k)) * X k j) % P
theorem elN_congr {P : Int} {n : Nat} {X X' : Nat → Nat → Int} {q q' : Nat → Nat} {r : Nat → Int} : ∀ k, (∀ l, l < k → q l < n) → (∀ l, l < k → q l = q' l) → (∀ l j, l < k → j < n → X l j = X' l j) → ∀ j, j < n → elN P X q r k j = elN P X' q' r k j
  | 0, _, _, _, j, _ => rfl
  | k + 1, h0, h1, h2, j, hj => by
    have ih := elN_congr (P := P) (r := r) k (fun l hl => h0 l (by omega)) (fun l hl => h1 l (by omega)) (fun l j hl hj => h2 l j (by omega) hj)
    unfold elN
    rw [ih j hj, ih (q k) (h0 k (by omega)), h1 k (by omega), h2 k j (by omega) hj]
theorem elN_rng {P : Int} {n : Nat} {X : Nat → Nat → Int} {q : Nat → Nat} {r : Nat → Int} (hP : 2 ≤ P) (hr : ∀ j, j < n → 0 ≤ r j ∧ r j < P) : ∀ k j, j < n → 0 ≤ elN P X q r k j ∧ elN P X q r k j < P
  | 0, j, hj => hr j hj
  | k + 1, j, _ => ⟨Int.emod_nonneg _ (by omega), Int.emod_lt_of_pos _ (by omega)⟩

/-- row k of the normal form -/
def NfRow (P : Int) (n : Nat) (M0 X : Nat → Nat → Int) (q : Nat → Nat) (k : Nat) : Prop :=
  q k < n ∧ (∀ j, j < q k → elN P X q (M0 k) k j = 0) ∧ elN P X q (M0 k) k (q k) ≠ 0 ∧ ∃ v : Int, v * elN P X q (M0 k) k (q k) % P = 1 ∧ ∀ j, j < n → X k j = v * elN P X q (M0 k) k j % P
def NfUp (P : Int) (n : Nat) (M0 X : Nat → Nat → Int) (q : Nat → Nat) (i : Nat) : Prop := ∀ k, k < i → NfRow P n M0 X q k
theorem inv_one {P x v v' y : Int} (h : v * x % P = 1) (h' : v' * x % P = 1) : v * y % P = v' * y % P := by
  have h1 : P ∣ v * x - 1 := by have := Int.dvd_self_sub_emod (x := v * x) (m := P); rwa [h] at this
  have h2 : P ∣ v' * x - 1 := by have := Int.dvd_self_sub_emod (x := v' * x) (m := P); rwa [h'] at this
  have h3 : P ∣ v - v' := by
    have a : P ∣ v' * (v * x - 1) := Int.dvd_mul_of_dvd_right h1
    have b : P ∣ v * (v' * x - 1) := Int.dvd_mul_of_dvd_right h2
    have e : v * (v' * x - 1) - v' * (v * x - 1) = -(v - v') := by
      have c : v * (v' * x) = v' * (v * x) := by rw [← Int.mul_assoc, ← Int.mul_assoc, Int.mul_comm v v']
      rw [Int.mul_sub, Int.mul_sub, c, Int.mul_one, Int.mul_one]
      omega
    have := Int.dvd_sub b a
    rw [e] at this
    have := Int.dvd_neg.2 this
    rwa [Int.neg_neg] at this
  have h4 : P ∣ v * y - v' * y := by rw [← Int.sub_mul]; exact Int.dvd_mul_of_dvd_left h3
  exact Int.emod_eq_emod_iff_emod_sub_eq_zero.2 (Int.emod_eq_zero_of_dvd h4)
theorem NfUp.one {P : Int} {n : Nat} {M0 X X' : Nat → Nat → Int} {q q' : Nat → Nat} (hP : 2 ≤ P) : ∀ i, NfUp P n M0 X q i → NfUp P n M0 X' q' i → (∀ k, k < i → q k = q' k) ∧ ∀ k j, k < i → j < n → X k j = X' k j
  | 0, _, _ => ⟨fun k hk => absurd hk (Nat.not_lt_zero _), fun k j hk => absurd hk (Nat.not_lt_zero _)⟩
  | i + 1, h, h' => by
    obtain ⟨h1, h2⟩ := NfUp.one hP i (fun k hk => h k (by omega)) (fun k hk => h' k (by omega))
    obtain ⟨a1, a2, a3, v, a4, a5⟩ := h i (by omega)
    obtain ⟨b1, b2, b3, v', b4, b5⟩ := h' i (by omega)
    have he := elN_congr (P := P) (r := M0 i) i (fun l hl => (h l (by omega)).1) h1 h2
    have hq : q i = q' i := by
      rcases Nat.lt_trichotomy (q i) (q' i) with hlt | e | hlt
      · exact absurd (by rw [he _ a1]; exact b2 _ hlt) a3
      · exact e
      · exact absurd (by rw [← he _ b1]; exact a2 _ hlt) b3
    refine ⟨fun k hk => ?_, fun k j hk hj => ?_⟩
    · by_cases e : k = i
      · subst e; exact hq
      · exact h1 k (by omega)
    · by_cases e : k = i
      · subst e
        rw [a5 j hj, b5 j hj, he j hj]
        rw [he _ a1, hq] at a4
        exact inv_one a4 b4
      · exact h2 k j (by omega) hj
theorem NfUp.rng {P : Int} {n i : Nat} {M0 X : Nat → Nat → Int} {q : Nat → Nat} (hP : 2 ≤ P) (h : NfUp P n M0 X q i) : ∀ k j, k < i → j < n → 0 ≤ X k j ∧ X k j < P := fun k j hk hj => by
  obtain ⟨_, _, _, v, _, a5⟩ := h k hk
  rw [a5 j hj]
  exact ⟨Int.emod_nonneg _ (by omega), Int.emod_lt_of_pos _ (by omega)⟩
/-- the row with others spans what it spanned -/
theorem elN_same {P : Int} {n i : Nat} {X : Nat → Nat → Int} {q : Nat → Nat} {r : Nat → Int} : ∀ t, t ≤ i → SameSp P n (i + 1) (snocM i X r) (i + 1) (snocM i X (elN P X q r t))
  | 0, _ => .of_eqv fun k hk => .of_eq fun j hj => by
    unfold snocM
    split <;> rfl
  | t + 1, ht => by
    refine (elN_same (q := q) t (by omega)).trans (SameSp.elim t (by omega) (fun k => if k = i then P - elN P X q r t (q t) else 0) ?_ fun k hk hne => ?_)
    · rw [snocM_lt (by omega), snocM_lt (by omega)]; exact .refl _ _ _
    · by_cases e : k = i
      · subst e
        simp only [if_true]
        rw [snocM_at, snocM_at, snocM_lt (show t < k by omega)]
        exact Eqv.emod (p := P) (C := n) (fun j => elN P X q r t j + (P - elN P X q r t (q t)) * X t j)
      · simp only [e, if_false]
        rw [snocM_lt (by omega), snocM_lt (by omega)]
        exact .of_eq fun j _ => by omega
theorem SameSp.snocR {P : Int} {C i : Nat} {M X : Nat → Nat → Int} (h : SameSp P C i M i X) : SameSp P C (i + 1) M (i + 1) (snocM i X (M i)) :=
  h.snoc (by rw [snocM_at]; exact .refl _ _ _) fun k hk => by rw [snocM_lt hk]; exact .refl _ _ _
theorem NfUp.same {P : Int} {n : Nat} {M0 X : Nat → Nat → Int} {q : Nat → Nat} (hP : 2 ≤ P) : ∀ i, NfUp P n M0 X q i → SameSp P n i M0 i X
  | 0, _ => ⟨fun k hk => absurd hk (Nat.not_lt_zero _), fun k hk => absurd hk (Nat.not_lt_zero _)⟩
  | i + 1, h => by
    have ih := NfUp.same hP i (fun k hk => h k (by omega))
    obtain ⟨a1, a2, a3, v, a4, a5⟩ := h i (by omega)
    refine (ih.snocR.trans (elN_same (q := q) i (Nat.le_refl _))).trans (SameSp.scale i (by omega) v (elN P X q (M0 i) i (q i)) ?_ ?_ fun k hk hne => ?_)
    · have := Int.dvd_self_sub_emod (x := v * elN P X q (M0 i) i (q i)) (m := P)
      rwa [a4] at this
    · rw [snocM_at]
      intro j hj
      rw [a5 j hj]
      exact Eqv.emod (p := P) (C := n) (fun j => v * elN P X q (M0 i) i j) j hj
    · rw [snocM_lt (by omega)]; exact .refl _ _ _
/-- of a flag, something is left of the row -/
theorem NfUp.left {P : Int} {n i : Nat} {M0 X : Nat → Nat → Int} {q : Nat → Nat} (hp : primeOk P = true) (hM : ∀ k j, j < n → 0 ≤ M0 k j ∧ M0 k j < P) (hn : HasRank P n n M0 n) (h : NfUp P n M0 X q i) (hi : i < n) : ¬ ∀ j, j < n → elN P X q (M0 i) i j = 0 := fun h0 => by
  have hP := (primeOk_range hp).1
  have h1 := hn.part hp (fun k j _ hj => hM k j hj) (show i + 1 ≤ n by omega)
  have h2 := (NfUp.same hP i h).snocR.trans (elN_same (q := q) i (Nat.le_refl _))
  have h3 : SameSp P n i X (i + 1) (snocM i X (elN P X q (M0 i) i)) := by
    refine ⟨fun k hk => ?_, fun k hk => ?_⟩
    · have : Sp P n (i + 1) (snocM i X (elN P X q (M0 i) i)) (snocM i X (elN P X q (M0 i) i) k) := .row (by omega)
      rwa [snocM_lt hk] at this
    · by_cases e : k < i
      · rw [snocM_lt e]; exact .row e
      · obtain rfl : k = i := by omega
        rw [snocM_at]
        exact Sp.zero.eqv (.of_eq fun j hj => (h0 j hj).symm)
  have h4 := (h1.same h2.symm).same h3
  have := h4.le hp (h.rng hP)
  omega
theorem NfUp.snoc {P : Int} {n i : Nat} {M0 X X' : Nat → Nat → Int} {q q' : Nat → Nat} (h : NfUp P n M0 X q i) (hX : ∀ k j, k < i → j < n → X' k j = X k j) (hq : ∀ k, k < i → q' k = q k) (hr : NfRow P n M0 X' q' i) : NfUp P n M0 X' q' (i + 1) := fun k hk => by
  by_cases e : k = i
  · subst e; exact hr
  · have hki : k < i := by omega
    obtain ⟨a1, a2, a3, v, a4, a5⟩ := h k hki
    have he := elN_congr (P := P) (r := M0 k) k (fun l hl => (h l (by omega)).1) (fun l hl => (hq l (by omega)).symm) (fun l j hl hj => (hX l j (by omega) hj).symm)
    refine ⟨by rw [hq k hki]; exact a1, fun j hj => ?_, ?_, v, ?_, fun j hj => ?_⟩
    · rw [hq k hki] at hj; rw [← he j (by omega)]; exact a2 j hj
    · rw [hq k hki, ← he _ a1]; exact a3
    · rw [hq k hki, ← he _ a1]; exact a4
    · rw [hX k j hki hj, ← he j hj]; exact a5 j hj

end Go.Proofs.Ytoodgbflaaabmaa

namespace Go.Proofs.Ytoodgbflaaabmaa
set_option linter.all false
open Go.RowKit

/-- what the rows of a normal form look like -/
structure Nf (P : Int) (n : Nat) (X : Nat → Nat → Int) (q : Nat → Nat) (m : Nat) : Prop where
  lt : ∀ k, k < m → q k < n
  zero : ∀ k j, k < m → j < q k → X k j = 0
  one : ∀ k, k < m → X k (q k) = 1
  early : ∀ k l, k < m → l < k → X k (q l) = 0
  rng : ∀ k j, k < m → j < n → 0 ≤ X k j ∧ X k j < P

theorem elN_early {P : Int} {X : Nat → Nat → Int} {q : Nat → Nat} {r : Nat → Int} : ∀ t, (∀ k, k < t → X k (q k) = 1) → (∀ k l, k < t → l < k → X k (q l) = 0) → ∀ l, l < t → elN P X q r t (q l) = 0
  | 0, _, _, l, hl => absurd hl (by omega)
  | t + 1, h1, h2, l, hl => by
    unfold elN
    by_cases e : l = t
    · subst e
      rw [h1 l (by omega), Int.mul_one, show elN P X q r l (q l) + (P - elN P X q r l (q l)) = P from by omega, Int.emod_self]
    · rw [elN_early t (fun k hk => h1 k (by omega)) (fun k l hk hl => h2 k l (by omega) hl) l (by omega), h2 t l (by omega) (by omega)]
      simp
theorem NfUp.nf {P : Int} {n : Nat} {M0 X : Nat → Nat → Int} {q : Nat → Nat} (hP : 2 ≤ P) : ∀ m, NfUp P n M0 X q m → Nf P n X q m
  | 0, _ => ⟨fun _ h => absurd h (by omega), fun _ _ h => absurd h (by omega), fun _ h => absurd h (by omega), fun _ _ h => absurd h (by omega), fun _ _ h => absurd h (by omega)⟩
  | m + 1, h => by
    have ih := NfUp.nf hP m (fun k hk => h k (by omega))
    obtain ⟨a, b, c, v, d, e⟩ := h m (by omega)
    have hone : ∀ k, k < m + 1 → X k (q k) = 1 := fun k hk => by
      by_cases ek : k = m
      · subst ek; rw [e _ a, d]
      · exact ih.one k (by omega)
    refine ⟨fun k hk => (h k hk).1, fun k j hk hj => ?_, hone, fun k l hk hl => ?_, fun k j hk hj => h.rng hP k j hk hj⟩
    · by_cases ek : k = m
      · subst ek; rw [e j (by omega), b j hj]; simp
      · exact ih.zero k j (by omega) hj
    · by_cases ek : k = m
      · subst ek
        rw [e _ (h l (by omega)).1, elN_early k (fun t ht => ih.one t ht) (fun t s ht hs => ih.early t s ht hs) l hl]; simp
      · exact ih.early k l (by omega) hl

theorem sm_but {p : Int} {l : Nat} {f : Nat → Int} : ∀ n, l < n → (∀ t, t < n → t ≠ l → p ∣ f t) → p ∣ sm n f - f l
  | 0, hl, _ => absurd hl (by omega)
  | n + 1, hl, h => by
    by_cases e : l = n
    · subst e
      have := sm_dvd (p := p) (n := l) (f := f) (fun i hi => h i (by omega) (by omega))
      simp only [sm]
      rwa [show sm l f + f l - f l = sm l f from by omega]
    · have h1 := sm_but n (by omega) (fun t ht hne => h t (by omega) hne)
      have h2 := h n (by omega) (fun c => e c.symm)
      simp only [sm]
      have := Int.dvd_add h1 h2
      rwa [show sm n f - f l + f n = sm n f + f n - f l from by omega] at this

/-- a row in the span of the rows so far, with 0 where the others begin, is a multiple of the last -/
theorem Nf.mult {P : Int} {n i : Nat} {X : Nat → Nat → Int} {q : Nat → Nat} {v : Nat → Int} (h : Nf P n X q (i + 1)) (hv : Sp P n (i + 1) X v) (h0 : ∀ l, l < i → v (q l) = 0) : ∃ c : Int, ∀ j, j < n → P ∣ v j - c * X i j := by
  obtain ⟨c, hc⟩ := hv.coef
  have hz : ∀ l, l < i → P ∣ c l := by
    intro l
    induction l using Nat.strongRecOn with
    | ind l ih =>
      intro hl
      have h1 := hc (q l) (h.lt l (by omega))
      rw [h0 l hl] at h1
      have h2 := sm_but (p := P) (l := l) (f := fun t => c t * X t (q l)) (i + 1) (by omega) (fun t ht hne => by
        by_cases e : t < l
        · exact Int.dvd_trans (ih t e (by omega)) ⟨_, rfl⟩
        · simp only [h.early t l ht (by omega)]; simp)
      simp only [h.one l (by omega), Int.mul_one] at h2
      have := Int.dvd_add h1 h2
      rw [show (0 - sm (i + 1) fun t => c t * X t (q l)) + ((sm (i + 1) fun t => c t * X t (q l)) - c l) = -c l from by omega] at this
      exact (Int.dvd_neg).1 this
  refine ⟨c i, fun j hj => ?_⟩
  have h2 := sm_but (p := P) (l := i) (f := fun t => c t * X t j) (i + 1) (by omega) (fun t ht hne => Int.dvd_trans (hz t (by omega)) ⟨_, rfl⟩)
  have := Int.dvd_add (hc j hj) h2
  rwa [show (v j - sm (i + 1) fun t => c t * X t j) + ((sm (i + 1) fun t => c t * X t j) - c i * X i j) = v j - c i * X i j from by omega] at this

theorem rng_eq {P x y : Int} (hx : 0 ≤ x ∧ x < P) (hy : 0 ≤ y ∧ y < P) (h : P ∣ x - y) : x = y := by
  have h1 := Int.emod_emod_of_dvd (x - y) (Int.dvd_refl P)
  have h2 : (x - y) % P = 0 := Int.emod_eq_zero_of_dvd h
  have h3 := Int.emod_eq_emod_iff_emod_sub_eq_zero.2 h2
  rwa [Int.emod_eq_of_lt hx.1 hx.2, Int.emod_eq_of_lt hy.1 hy.2] at h3

theorem Nf.same {P : Int} {n m : Nat} {X X' : Nat → Nat → Int} {q q' : Nat → Nat} (hP : 2 ≤ P) (h : Nf P n X q m) (h' : Nf P n X' q' m) (hs : ∀ i, i ≤ m → SameSp P n i X i X') :
    ∀ i, i ≤ m → (∀ k, k < i → q k = q' k) ∧ ∀ k j, k < i → j < n → X k j = X' k j
  | 0, _ => ⟨fun _ h => absurd h (by omega), fun _ _ h => absurd h (by omega)⟩
  | i + 1, hi => by
    obtain ⟨e1, e2⟩ := Nf.same hP h h' hs i (by omega)
    have hp : ∀ {Y r}, Nf P n Y r m → Nf P n Y r (i + 1) := fun g => ⟨fun k hk => g.lt k (by omega), fun k j hk => g.zero k j (by omega), fun k hk => g.one k (by omega), fun k l hk => g.early k l (by omega), fun k j hk => g.rng k j (by omega)⟩
    have s := hs (i + 1) hi
    obtain ⟨c, hc⟩ := (hp h').mult (v := X i) (s.1 i (by omega)) (fun l hl => by rw [← e1 l hl]; exact h.early i l (by omega) hl)
    obtain ⟨d, hd⟩ := (hp h).mult (v := X' i) (s.2 i (by omega)) (fun l hl => by rw [e1 l hl]; exact h'.early i l (by omega) hl)
    have hq : q i = q' i := by
      rcases Nat.lt_trichotomy (q i) (q' i) with g | g | g
      · have := hc (q i) (h.lt i (by omega))
        rw [h.one i (by omega), h'.zero i _ (by omega) g] at this
        exact absurd (by simpa using this) (Red.not_dvd_one hP)
      · exact g
      · have := hd (q' i) (h'.lt i (by omega))
        rw [h'.one i (by omega), h.zero i _ (by omega) g] at this
        exact absurd (by simpa using this) (Red.not_dvd_one hP)
    have h1 : P ∣ 1 - c := by
      have := hc (q i) (h.lt i (by omega))
      rw [h.one i (by omega), hq, h'.one i (by omega)] at this
      simpa using this
    have hx : ∀ j, j < n → X i j = X' i j := fun j hj => by
      refine rng_eq (h.rng i j (by omega) hj) (h'.rng i j (by omega) hj) ?_
      have h2 : P ∣ (1 - c) * X' i j := Int.dvd_trans h1 ⟨_, rfl⟩
      have h3 := Int.dvd_sub (hc j hj) h2
      rwa [show X i j - c * X' i j - (1 - c) * X' i j = X i j - X' i j from by rw [Int.sub_mul]; omega] at h3
    refine ⟨fun k hk => ?_, fun k j hk hj => ?_⟩
    · by_cases ek : k = i
      · subst ek; exact hq
      · exact e1 k (by omega)
    · by_cases ek : k = i
      · subst ek; exact hx j hj
      · exact e2 k j (by omega) hj

/-- two flags with the same members have one normal form -/
theorem NfUp.fix {P : Int} {n : Nat} {M M' X X' : Nat → Nat → Int} {q q' : Nat → Nat} (hP : 2 ≤ P) (h : NfUp P n M X q n) (h' : NfUp P n M' X' q' n) (hs : ∀ i, i ≤ n → SameSp P n i M i M') :
    (∀ k, k < n → q k = q' k) ∧ ∀ k j, k < n → j < n → X k j = X' k j :=
  (h.nf hP).same hP (h'.nf hP) (fun i hi => ((NfUp.same hP i (fun k hk => h k (by omega))).symm.trans (hs i hi)).trans (NfUp.same hP i (fun k hk => h' k (by omega)))) n (Nat.le_refl _)
/-- a normal form is its own -/
theorem NfUp.own {P : Int} {n : Nat} {M X' : Nat → Nat → Int} {q q' : Nat → Nat} (hP : 2 ≤ P) (h : Nf P n M q n) (h' : NfUp P n M X' q' n) :
    (∀ k, k < n → q k = q' k) ∧ ∀ k j, k < n → j < n → M k j = X' k j :=
  h.same hP (h'.nf hP) (fun i hi => NfUp.same hP i (fun k hk => h' k (by omega))) n (Nat.le_refl _)
theorem Nf.inj {P : Int} {n m : Nat} {X : Nat → Nat → Int} {q : Nat → Nat} (h : Nf P n X q m) {k l : Nat} (hk : k < m) (hl : l < m) (e : q k = q l) : k = l := by
  rcases Nat.lt_trichotomy k l with g | g | g
  · have h1 := h.early l k hl g
    rw [e, h.one l hl] at h1; omega
  · exact g
  · have h1 := h.early k l hk g
    rw [← e, h.one k hk] at h1; omega
/-- rows added to later ones -/
theorem same_added {P : Int} {n : Nat} {M M' : Nat → Nat → Int} : ∀ m, (∀ i, i < m → ∃ s : Nat → Int, Sp P n i M' s ∧ Eqv P n (M' i) (fun j => M i j + s j)) → ∀ i, i ≤ m → SameSp P n i M i M'
  | 0, _, i, hi => by
    have : i = 0 := by omega
    subst this; exact ⟨fun _ h => absurd h (by omega), fun _ h => absurd h (by omega)⟩
  | m + 1, h, i, hi => by
    by_cases e : i = m + 1
    · subst e
      have ih := same_added m (fun k hk => h k (by omega)) m (Nat.le_refl _)
      obtain ⟨s, hs, es⟩ := h m (by omega)
      refine ⟨fun k hk => ?_, fun k hk => ?_⟩
      · by_cases ek : k = m
        · subst ek
          refine Sp.eqv ((Sp.row (M := M') (i := k) (by omega)).sub (hs.mono (by omega))) (fun j hj => by have := es j hj; rwa [show M' k j - (M k j + s j) = M' k j - s j - M k j from by omega] at this)
        · exact (ih.1 k (by omega)).mono (by omega)
      · by_cases ek : k = m
        · subst ek
          refine Sp.eqv ((Sp.row (M := M) (i := k) (by omega)).sum ((hs.trans (fun l hl => ih.2 l hl)).mono (by omega))) (fun j hj => by have := es.symm j hj; exact this)
        · exact (ih.2 k (by omega)).mono (by omega)
    · exact same_added m (fun k hk => h k (by omega)) i (by omega)

end Go.Proofs.Ytoodgbflaaabmaa
