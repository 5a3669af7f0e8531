/-
  What the program asks of numbers; its exchange of two places; the search among permutations.
  Localize on both sides.
  NewSession: what both make, and the law's helpers on sessions whose classes and shape are empty.
  The program's allPerms and AllPerms.
  LocalTable: the values at all permutations, on both sides.
  LocalTable, whole, on both sides.
  Slices of structs, any number of one-cell fields an element: over any program.
-/
import Derived.Test.YtajmoclnmphmgaaJ7
import Derived.Test.YtajmoclnmphmgaaJ10
import Derived.Test.YtajmoclnmphmgaaJ4
import Derived.Test.YtajmoclnmphmgaaJ6
import Derived.BigRegion
import Derived.Test.YtajmoclnmphmgaaJ8
import Derived.Lib.OwnKind
namespace Go.Proofs.Ytajmoclnmphmgaa
set_option linter.all false
open Go.RowKit

set_option maxRecDepth 100000 in
set_option maxHeartbeats 2000000 in
theorem shiftsOk_any (N : Int) (v : Value) (y : List Int) (w : World) (h : Ints w v y) :
    Calls Try.prog 49 #[v, .int .i64 N] w fun e w' => e = .returned (.bool (shiftB N y)) ∧ w = w' := by
  obtain ⟨p, cap, rfl, ⟨hx1, hx⟩, hxc⟩ := h
  unfold maxLen at hx
  go_enter Try.func49, Try.ntmps49
  go_wp2_with fail
  go_loopg [6, 9] y.length (fun g s6 s9 wr => ∃ k : Nat, k ≤ y.length ∧ g = y.length - k ∧ s9 = .int .i64 k ∧ w = wr ∧ Hid (∀ j, j < k → -9 ≤ y.getD j 0 ∧ y.getD j 0 ≤ 9))
  case atStart => exact ⟨0, Nat.zero_le _, rfl, rfl, rfl, Lib.hid fun j hj => absurd hj (Nat.not_lt_zero _)⟩
  case round =>
    obtain ⟨k, hk, rfl, rfl, rfl, hp⟩ := hrel
    by_cases hlt : k < y.length
    · obtain ⟨b, off, rfl, hc⟩ := hxc (by omega)
      obtain ⟨x, hx'⟩ : ∃ x, x = y.getD k 0 := ⟨_, rfl⟩
      have c1 := hc k hlt
      unfold iv at c1
      rw [← hx'] at c1
      have Hx := Lib.hid hx'
      have hk1 : (k : Int) < (y.length : Int) := by omega
      clear hx' hc hxc
      have bad : ¬ (-9 ≤ x ∧ x ≤ 9) → shiftB N y = false := fun hr => by
        unfold shiftB
        rw [decide_eq_false (show ¬ ∀ x ∈ y, -9 ≤ x ∧ x ≤ 9 from fun e => hr (by rw [Hx.out]; exact e _ (getD_mem hlt))), Bool.and_false]
      have Bad := Lib.hid bad
      clear bad
      by_cases h1 : x < -9
      · go_wp2_with fail
        go_ret
        exact ⟨ret_bool (Bad.out (by omega)).symm, rfl⟩
      by_cases h2 : 9 < x
      · go_wp2_with fail
        go_ret
        exact ⟨ret_bool (Bad.out (by omega)).symm, rfl⟩
      go_wp2_with fail
      go_roundg (y.length - (k + 1))
      case measure => omega
      case rel =>
        refine ⟨k + 1, by omega, rfl, by go_num, rfl, Lib.hid fun j hj => ?_⟩
        by_cases e : j = k
        · subst e; rw [← Hx.out]; omega
        · exact hp.out j (by omega)
    · have hk1 : ¬ (k : Int) < (y.length : Int) := by omega
      have ha : decide (∀ x ∈ y, -9 ≤ x ∧ x ≤ 9) = true := decide_eq_true (all_of_getD fun j hj => hp.out j (by omega))
      have Ha := Lib.hid ha
      clear ha
      by_cases hN : (y.length : Int) = N
      · go_wp2_with fail
        go_ret
        exact ⟨ret_bool (by unfold shiftB; rw [Ha.out, decide_eq_true hN]; rfl), rfl⟩
      · go_wp2_with fail
        go_ret
        exact ⟨ret_bool (by unfold shiftB; simp [hN]), rfl⟩

theorem nm_shift {N : Int} {y : List Int} (h1 : 1 ≤ N) (h2 : N ≤ 5) : nmOk N y = shiftB N y := by
  unfold nmOk shiftB
  rw [decide_eq_true h1, decide_eq_true h2]; simp

set_option maxRecDepth 100000 in
set_option maxHeartbeats 2000000 in
theorem weightsOk_any (N : Int) (v : Value) (y : List Int) (w : World) (h : Ints w v y) :
    Calls Try.prog 42 #[.int .i64 N, v] w fun e w' => e = .returned (.bool (apOk N y)) ∧ Qt w w' := by
  have Hh := Lib.hid h
  obtain ⟨p, cap, rfl, ⟨hx1, hx⟩, hxc⟩ := h
  unfold maxLen at hx
  go_enter Try.func42, Try.ntmps42
  by_cases hN1 : N < 1
  · go_wp2_with fail
    go_ret
    exact ⟨ret_bool (ap_no1 (nm_no1 (by omega))).symm, Qt.refl _⟩
  by_cases hN4 : 4 < N
  · go_wp2_with fail
    go_ret
    exact ⟨ret_bool (ap_no2 (by omega)).symm, Qt.refl _⟩
  go_wp2_with fail
  refine (shiftsOk_any N _ y _ Hh.out).mono ?_
  rintro e w1 ⟨rfl, rfl⟩
  cases hs : shiftB N y with
  | false =>
    go_wp2_with fail
    go_ret
    exact ⟨ret_bool (ap_no1 (by rw [nm_shift (by omega) (by omega), hs])).symm, Qt.refl _⟩
  | true =>
  have hn : nmOk N y = true := by rw [nm_shift (by omega) (by omega), hs]
  obtain ⟨n, rfl, hn1, hn5, hyl, _⟩ := nm_facts hn
  have Hn := Lib.hid hn
  have Hyl := Lib.hid hyl
  have hle : n ≤ cap := by omega
  rw [hyl] at Hh hxc ⊢
  clear hn hyl hs
  go_wp2_with fail
  go_loopg [5, 6, 21] n (fun g s5 s6 s21 wr => ∃ k : Nat, k ≤ n ∧ g = n - k ∧ s21 = .int .i64 k ∧ Qt w wr ∧ Hid (∀ j, j < k → ¬ y.getD j 0 ∈ y.take j))
  case atStart => exact ⟨0, Nat.zero_le _, rfl, rfl, Qt.refl _, Lib.hid fun j hj => absurd hj (Nat.not_lt_zero _)⟩
  case round =>
    obtain ⟨k, hk, rfl, rfl, hq, hp⟩ := hrel
    by_cases hlt : k < n
    · obtain ⟨b, off, rfl, hc⟩ := hxc (by omega)
      obtain ⟨x, hx'⟩ : ∃ x, x = y.getD k 0 := ⟨_, rfl⟩
      have c1 := hq.cell (hc k hlt)
      unfold iv at c1
      rw [← hx'] at c1
      have Hx := Lib.hid hx'
      have hk1 : (k : Int) < (n : Int) := by omega
      have hk2 : (k : Int) ≤ (cap : Int) := by omega
      have HI := Lib.hid (show Ints wr (.slice (some ⟨b, off, none⟩) k cap) (y.take k) by
        have := Hh.out
        rw [← Hyl.out] at this
        exact (ints_takeP2 this (by rw [Hyl.out]; omega)).qt hq)
      obtain ⟨bb, hbb⟩ : ∃ bb, bb = decide (x ∈ y.take k) := ⟨_, rfl⟩
      have Hbb := Lib.hid hbb
      clear hx' hc hxc hbb
      go_wp2_with fail
      refine (contains_any _ (y.take k) x _ HI.out).mono ?_
      rintro e w2 ⟨rfl, hq2⟩
      rw [← Hbb.out]
      have Hq2 := Lib.hid (hq.trans hq2)
      clear hq2 hq
      cases bb with
      | true =>
        go_wp2_with fail
        go_ret
        exact ⟨ret_bool (ap_no3 (k := k) (by rw [Hyl.out]; exact hlt) (by rw [← Hx.out]; exact of_decide_eq_true Hbb.out.symm)).symm, Hq2.out⟩
      | false =>
        go_wp2_with fail
        go_roundg (n - (k + 1))
        case measure => omega
        case rel =>
          refine ⟨k + 1, by omega, rfl, by go_num, Hq2.out, Lib.hid fun j hj => ?_⟩
          by_cases e : j = k
          · subst e; rw [← Hx.out]; exact of_decide_eq_false Hbb.out.symm
          · exact hp.out j (by omega)
    · have hk1 : ¬ (k : Int) < (n : Int) := by omega
      go_wp2_with fail
      go_ret
      exact ⟨ret_bool (ap_yes Hn.out (by omega) fun j hj => hp.out j (by have := Hyl.out; omega)).symm, hq⟩

end Go.Proofs.Ytajmoclnmphmgaa

namespace Go.Proofs.Ytajmoclnmphmgaa
set_option linter.all false
set_option maxRecDepth 100000
open Go.RowKit

def locOk (vs ws ys : List Int) : Bool := permOk vs && permOk ws && decide (vs.length = ws.length) && nmOk vs.length ys
/-- what Localize says -/
def locL (vs ws ys : List Int) : Int × Bool := if locOk vs ws ys then (wrap64 (Ev (dblP vs ys) (mono (pickL ws ys))), true) else (0, false)
def RetIB (w : World) (r : Int × Bool) (e : Ending) (w' : World) : Prop := e = .returned (.tuple #[.int .i64 r.1, .bool r.2]) ∧ Below w.heap.size w w'
theorem locL_no {vs ws ys : List Int} (h : locOk vs ws ys = false) : locL vs ws ys = (0, false) := by unfold locL; rw [h]; rfl
theorem locL_yes {vs ws ys : List Int} (h : locOk vs ws ys = true) : locL vs ws ys = (wrap64 (Ev (dblP vs ys) (mono (pickL ws ys))), true) := by unfold locL; rw [h]; rfl
structure LocIs (n : Nat) (vs ws ys : List Int) : Prop where
  v : P5 n vs
  w : P5 n ws
  y : ys.length = n
  one : 1 ≤ n
  y9 : ∀ x ∈ ys, -9 ≤ x ∧ x ≤ 9
theorem locIs_of {vs ws ys : List Int} (h1 : permOk vs = true) (h2 : permOk ws = true) (h3 : vs.length = ws.length) (h4 : nmOk vs.length ys = true) : LocIs vs.length vs ws ys := by
  obtain ⟨n, e, hn1, hn5, hyl, hy9⟩ := nm_facts h4
  have e := Int.ofNat.inj e
  rw [← e] at hn1 hn5 hyl
  exact ⟨⟨h1, rfl, hn5⟩, ⟨h2, h3.symm, hn5⟩, hyl, hn1, all_of_getD fun k hk => hy9 k (by omega)⟩
theorem ret_ib {a : Int} {b : Bool} {r : Int × Bool} (h : (a, b) = r) : Ending.returned (.tuple #[.int .i64 a, .bool b]) = .returned (.tuple #[.int .i64 r.1, .bool r.2]) := by rw [← h]

theorem nm_no {n : Nat} {ys : List Int} (h : ¬ n ≤ 5) : nmOk n ys = false := by unfold nmOk; rw [decide_eq_false (show ¬ (n : Int) ≤ 5 by omega)]; simp

end Go.Proofs.Ytajmoclnmphmgaa

namespace Go.Proofs.Ytajmoclnmphmgaa
set_option linter.all false
open Go.RowKit

theorem eqClassS_nil (p q : Option Addr) (c d : Nat) (w : World) :
    Calls Try.prog 10 #[.slice p 0 c, .slice q 0 d] w fun e w' => e = .returned (.bool true) ∧ Below w.heap.size w w' := by
  go_enter Try.func10, Try.ntmps10
  go_wp2
  go_loopg [5] 0 (fun g i wr => i = .int .i64 0 ∧ Qt w wr)
  case atStart => exact ⟨rfl, Qt.refl _⟩
  case round =>
    obtain ⟨rfl, hq⟩ := hrel
    go_wp2
    go_ret
    exact ⟨rfl, hq.below _⟩
theorem markClassS_nil (p : Option Addr) (c : Nat) (k : Int) (w : World) :
    Calls Try.prog 13 #[.slice p 0 c, .int .i64 k] w fun e w' => e = .returned (.int .i64 k) ∧ Below w.heap.size w w' := by
  go_enter Try.func13, Try.ntmps13
  go_wp2
  go_loopg [1, 5] 0 (fun g k' i wr => k' = .int .i64 k ∧ i = .int .i64 0 ∧ Qt w wr)
  case atStart => exact ⟨rfl, rfl, Qt.refl _⟩
  case round =>
    obtain ⟨rfl, rfl, hq⟩ := hrel
    go_wp2
    go_ret
    exact ⟨rfl, hq.below _⟩
theorem heldClassS_nil (p : Option Addr) (c : Nat) (k : Int) (w : World) :
    Calls Try.prog 14 #[.slice p 0 c, .int .i64 k] w fun e w' => e = .returned (.int .i64 k) ∧ Below w.heap.size w w' := by
  go_enter Try.func14, Try.ntmps14
  go_wp2
  go_loopg [1, 5] 0 (fun g k' i wr => k' = .int .i64 k ∧ i = .int .i64 0 ∧ Qt w wr)
  case atStart => exact ⟨rfl, rfl, Qt.refl _⟩
  case round =>
    obtain ⟨rfl, rfl, hq⟩ := hrel
    go_wp2
    go_ret
    exact ⟨rfl, hq.below _⟩
theorem blk5 {w : World} {b : Nat} {x0 x1 x2 x3 x4 : Value} {T : TypeId} (h : w.heap[b]? = some (.cells #[x0, x1, x2, x3, x4] T (0, 0))) :
    w.cell? ⟨b, 0, none⟩ = some x0 ∧ w.cell? ⟨b, 1, none⟩ = some x1 ∧ w.cell? ⟨b, 2, none⟩ = some x2 ∧ w.cell? ⟨b, 3, none⟩ = some x3 ∧ w.cell? ⟨b, 4, none⟩ = some x4 ∧ (∀ j, w.frozen? ⟨b, j, none⟩ = false) ∧ b < w.heap.size :=
  ⟨cell_of_blk h rfl, cell_of_blk h rfl, cell_of_blk h rfl, cell_of_blk h rfl, cell_of_blk h rfl, free_of_blk h, blk_lt h⟩
theorem ints_nil (w : World) (p : Option Addr) : Ints w (.slice p 0 0) [] := ⟨p, 0, rfl, ⟨Nat.le_refl _, Nat.zero_le _⟩, fun h => absurd h (by simp)⟩
theorem own_nil (T : TypeId) (w : World) (lo hi : Nat) : OwnI T w lo hi (.slice none 0 0) [] := ⟨World.ownsRow_nil _ _ _ _, fun k hk => by simp [Value.ownBlock] at hk⟩

end Go.Proofs.Ytajmoclnmphmgaa

namespace Go.Proofs.Ytajmoclnmphmgaa
set_option linter.all false
open Go.RowKit

set_option maxRecDepth 100000 in
set_option maxHeartbeats 2000000 in
theorem implPerms_go (n : Nat) (hn : n ≤ 5) (f : Nat) : ∀ (ch : List Int) (v : Value) (lo hi : Nat) (w : World), OwnI 3 w lo hi v ch → hi ≤ w.heap.size → lo ≤ w.heap.size → ch.length + f = n →
    Calls Try.prog 67 #[.int .i64 n, v] w fun e w' => ∃ u, e = .returned u ∧ OwnII 22 3 w' lo w'.heap.size u (allL n f ch) ∧ Below w.heap.size w w' := by
  induction f with
  | zero =>
    intro ch v lo hi w h hhi hlo hf
    have H := Lib.hid h
    obtain ⟨p, k, rfl, _, _⟩ := h.shape
    clear h
    obtain rfl : n = ch.length := by omega
    clear hf
    go_enter Try.func67, Try.ntmps67
    go_wp2_with fail
    go_ret
    refine ⟨_, rfl, ⟨fun _ => .slice p ch.length k, ?_, fun i hi => ?_, fun i j hij hj => ?_⟩, below_alloc _ _⟩
    · refine ⟨[.slice p ch.length k], Own.of_rowIs (g := w.heap.size) (n := 1) (cap := 1) (F := fun _ => .slice p ch.length k) ⟨#[.slice p ch.length k], heap_alloc_top _ _, rfl, fun i hi => ?_⟩ hlo (by simp) (Nat.le_refl _) (by unfold maxLen; omega) rfl (fun j hj => ?_), fun j hj => ?_⟩
      · obtain rfl : i = 0 := by omega
        rfl
      · obtain rfl : j = 0 := by omega
        rfl
      · obtain rfl : j = 0 := by simpa [allL] using hj
        rfl
    · obtain rfl : i = 0 := by simpa [allL] using hi
      exact ((H.out.below (below_alloc _ _))).mono (Nat.le_refl _) (by simp; omega)
    · have : j = 0 := by simpa [allL] using hj
      omega
  | succ f ih =>
    intro ch v lo hi w h hhi hlo hf
    have H := Lib.hid h
    have Ih := Lib.hid ih
    obtain ⟨p, k, rfl, _, _⟩ := h.shape
    have hne : (((ch.length : Int)) == (n : Int)) = false := by simp; omega
    clear h ih
    go_enter Try.func67, Try.ntmps67
    go_wp2_with fail
    go_loopg [5, 15] n (fun g s5 i wr => ∃ (x : Nat) (rows : List (List Int)), x ≤ n ∧ g = n - x ∧ i = .int .i64 x ∧ Below w.heap.size w wr ∧
      Hid (rows = (List.range x).flatMap fun (y : Nat) => if (y : Int) ∈ ch then [] else allL n f (ch ++ [(y : Int)])) ∧ Hid (OwnII 22 3 wr w.heap.size wr.heap.size s5 rows))
    case atStart => exact ⟨0, [], Nat.zero_le _, rfl, rfl, below_alloc _ _, rfl, ⟨fun _ => undef, (OwnF.made0 w _ _).mono (Nat.le_refl _) (by simp), fun i hi => absurd hi (by simp), fun i j _ hj => absurd hj (by simp)⟩⟩
    case round =>
      obtain ⟨x, rows, hx, rfl, rfl, hb, hr, ho⟩ := hrel
      obtain ⟨wo, rfl⟩ : ∃ x : World, x = wr := ⟨_, rfl⟩
      obtain ⟨p3, k3, rfl, _, _⟩ := ho.out.shape
      by_cases hlt : x < n
      · have hci : Ints wo (.slice p ch.length k) ch := (H.out.below hb).ints
        go_wp2_with fail
        refine (contains_any _ ch x _ hci).mono ?_
        rintro e w1 ⟨rfl, hq⟩
        by_cases hc : (x : Int) ∈ ch
        · rw [decide_eq_true hc]
          have hr2 : rows = (List.range (x + 1)).flatMap fun (y : Nat) => if (y : Int) ∈ ch then [] else allL n f (ch ++ [(y : Int)]) := by
            rw [flatMap_snoc, if_pos hc, List.append_nil]
            exact hr.out
          have Hr2 := Lib.hid hr2
          have Ho2 := Lib.hid (ho.out.below (hq.below _))
          have hqs := hq.size
          have Hb2 := Lib.hid (hb.trans (hq.below _))
          clear hr2 hci hc hq hr ho
          go_wp2
          go_roundg (n - (x + 1))
          case measure => omega
          case rel => exact ⟨x + 1, rows, by omega, rfl, by go_num, Hb2.out, Hr2.out, by rw [hqs]; exact Ho2.out⟩
        · rw [decide_eq_false hc]
          have hr2 : rows ++ allL n f (ch ++ [(x : Int)]) = (List.range (x + 1)).flatMap fun (y : Nat) => if (y : Int) ∈ ch then [] else allL n f (ch ++ [(y : Int)]) := by
            rw [flatMap_snoc, if_neg hc, hr.out]
          have hpow : n ^ f ≤ 3125 := Nat.le_trans (Nat.pow_le_pow_left hn f) (Nat.pow_le_pow_right (by decide) (show f ≤ 5 by omega))
          have hrl : rows.length ≤ x * n ^ f := by
            rw [hr.out]
            refine flatMap_len _ _ (fun y => ?_) x
            split
            · simp
            · exact allL_len _ _ _
          have hrl2 : rows.length + (allL n f (ch ++ [(x : Int)])).length ≤ 18750 := by
            have h1 : x * n ^ f ≤ 5 * 3125 := Nat.mul_le_mul (by omega) hpow
            have h2 := allL_len n f (ch ++ [(x : Int)])
            omega
          have Hr2 := Lib.hid hr2
          have Hbnd := Lib.hid hrl2
          have Hq := Lib.hid hq
          have Hci := Lib.hid (hci.qt hq)
          have hqs := hq.size
          have hs1 := hb.size
          have hc5 : ch.length ≤ 5 := by omega
          have Hc1 := Lib.hid (show ch.length + 1 ≤ maxLen by unfold maxLen; omega)
          have Hc2 := Lib.hid (show (ch.length + 1) * 8 ≤ 140737488355328 by omega)
          have Hlen := Lib.hid (show (ch ++ [(x : Int)]).length + f = n by simp; omega)
          clear hr2 hrl2 hrl hpow hci hc hq hr
          go_wp2_with fail
          refine (clone_any _ ch _ Hci.out (by omega)).mono ?_
          rintro e w2 ⟨u, rfl, ho2, hb2⟩
          obtain ⟨p2, k2, rfl, _, _⟩ := ho2.shape
          have Ho2 := Lib.hid ho2
          have hs2 := hb2.size
          go_wp2_with (at_builtin; go_must (refine wpList_append_F rfl (.tmp 25) (.tmp 27) 22 rfl 3 (.int .i64 0) 8 Try.underlying22 info_int rfl w1.heap.size w2.heap.size _ ch.length (iv ch) rfl ((Ho2.out.below (below_alloc _ _)).fn) (by simp; omega) (by simp) _ _ _ rfl (rd_one _ _ _ rfl) (fun j _ => rfl) Hc1.out Hc2.out ?_; intro v' w3 ho3 hg3))
          have ho4 := OwnI.snoc1 ho3
          have hs3 := hg3.size
          simp only [size_alloc] at hs3
          have hb3 : Below wo.heap.size wo w3 := (Hq.out.below _).trans ((hb2.mono (by omega)).trans (((below_alloc w2 _).mono (by omega)).trans (grownBy_below hg3 Ho2.out.fn.blocks (by omega) (by simp; omega))))
          obtain ⟨p4, k4, rfl, _, _⟩ := ho4.shape
          refine (Ih.out (ch ++ [(x : Int)]) _ w1.heap.size w3.heap.size w3 ho4 (Nat.le_refl _) (by omega) Hlen.out).mono ?_
          rintro e w5 ⟨u5, rfl, ho5, hb5⟩
          generalize allL n f (ch ++ [(x : Int)]) = new at *
          have hb6 : Below wo.heap.size wo w5 := hb3.trans (hb5.mono (by omega))
          have hs5 := hb5.size
          obtain ⟨p5, k5, rfl, _, _⟩ := ho5.shape
          obtain ⟨F, g1, g2, g3⟩ := ho
          obtain ⟨G, j1, j2, j3⟩ := ho5
          have G1 := Lib.hid (g1.below hb6)
          have G2 := Lib.hid (fun i hi => (g2 i hi).below hb6)
          have G3 := Lib.hid g3
          have J1 := Lib.hid j1
          have J2 := Lib.hid j2
          have J3 := Lib.hid j3
          have hone : ∀ j, j < new.length → (G j).oneCell' = true := fun j hj => by
            obtain ⟨p, c, e, _⟩ := (j2 j hj).shape
            rw [e]; rfl
          have Hone := Lib.hid hone
          have hbnd := Hbnd.out
          have Hd1 := Lib.hid (show rows.length + new.length ≤ maxLen by unfold maxLen; omega)
          have Hd2 := Lib.hid (show (rows.length + new.length) * 24 ≤ 140737488355328 by omega)
          have Hb6 := Lib.hid hb6
          clear g1 g2 g3 j1 j2 j3 hone hb6 hb5 hb3 ho4 ho3 hg3 ho2 hb2 hbnd
          go_wp2_with (at_builtin; go_must (refine wpList_append_F rfl (.tmp 22) (.tmp 29) 47 rfl 22 (.slice none 0 0) 24 Try.underlying47 info_sl rfl w.heap.size wo.heap.size _ rows.length F rfl G1.out (by omega) (by omega) _ _ _ rfl J1.out.rd Hone.out Hd1.out Hd2.out ?_; intro v' w' ho' hg'))
          have hsw' := hg'.size
          have hblow : Below w.heap.size wo w' := (Hb6.out.mono hs1).trans (grownBy_below hg' G1.out.blocks (Nat.le_refl _) (by omega))
          go_roundg (n - (x + 1))
          case measure => omega
          case rel =>
            refine ⟨x + 1, rows ++ new, by omega, rfl, by go_num, hb.trans hblow, Hr2.out, ?_⟩
            exact OwnII.join G1.out G2.out G3.out (fun i hi => (J2.out i hi).mono (by omega) (Nat.le_refl _)) J3.out hs1 (by omega) (by decide) hg' (by omega) ho'
      · go_wp2_with fail
        go_ret
        obtain rfl : x = n := by omega
        have e : allL x (f + 1) ch = rows := by rw [hr.out]; rfl
        rw [e]
        exact ⟨_, rfl, ho.out.mono hlo (Nat.le_refl _), hb⟩

set_option maxRecDepth 100000 in
theorem implAllPerms_any (N : Int) (w : World) :
    Calls Try.prog 30 #[.int .i64 N] w (RetII w (allPermsL N)) := by
  by_cases h : 1 ≤ N ∧ N ≤ 5
  · obtain ⟨n, rfl⟩ := Int.eq_ofNat_of_zero_le (show (0 : Int) ≤ N by omega)
    have e : allPermsL n = allL n n [] := by rw [allL_perms n (by omega) (by omega)]; simp [allPermsL, h]
    rw [e]
    have H1 : decide ((n : Int) < 1) = false := by simp; omega
    have H2 : decide ((5 : Int) < n) = false := by simp; omega
    clear e
    go_enter Try.func30, Try.ntmps30
    go_wp2_with fail
    refine (implPerms_go n (by omega) n [] _ w.heap.size w.heap.size _ (own_nil _ _ _ _) (Nat.le_refl _) (Nat.le_refl _) (by simp)).mono ?_
    rintro e w2 ⟨u, rfl, ho, hb⟩
    go_wp2_with fail
    go_ret
    exact ⟨_, rfl, ho, hb⟩
  · have e : allPermsL N = [] := by simp [allPermsL, h]
    rw [e]
    clear e
    by_cases h1 : N < 1
    · clear h
      go_enter Try.func30, Try.ntmps30
      go_wp2_with fail
      go_ret
      exact ⟨_, rfl, ownII_nil _ _ _, Below.refl _ _⟩
    · have h2 : 5 < N := by omega
      clear h
      go_enter Try.func30, Try.ntmps30
      go_wp2_with fail
      go_ret
      exact ⟨_, rfl, ownII_nil _ _ _, Below.refl _ _⟩

end Go.Proofs.Ytajmoclnmphmgaa

namespace Go.Proofs.Ytajmoclnmphmgaa
set_option linter.all false
open Go.RowKit

/-- the value at one permutation -/
def tabV (vs ys ws : List Int) : Int := wrap64 (Ev (dblP vs ys) (mono (pickL ws ys)))
def tabL (vs ys : List Int) : List Int := (permsL vs.length).map (tabV vs ys)
theorem tabL_length (vs ys : List Int) : (tabL vs ys).length = fact vs.length := by simp [tabL, permsL]
theorem permsL_length (n : Nat) : (permsL n).length = fact n := by simp [permsL]
def prmB (n : Nat) : Bool := (permsL n).all fun w => permOk w && decide (w.length = n)
set_option maxRecDepth 100000 in
theorem prm_all : ∀ n : Fin 6, 1 ≤ (n : Nat) → prmB n = true := by decide +kernel
theorem prm_p5 {n : Nat} (h1 : 1 ≤ n) (h5 : n ≤ 5) {x : Nat} (hx : x < fact n) : P5 n ((permsL n).getD x []) := by
  have := prm_all ⟨n, by omega⟩ h1
  unfold prmB at this
  rw [List.all_eq_true] at this
  have hm : (permsL n).getD x [] ∈ permsL n := by
    rw [List.getD_eq_getElem?_getD, List.getElem?_eq_getElem (by rw [permsL_length]; exact hx)]
    exact List.getElem_mem _
  have := this _ hm
  rw [Bool.and_eq_true, decide_eq_true_eq] at this
  exact ⟨this.1, this.2, h5⟩
theorem tab_getD {vs ys : List Int} {n x : Nat} (hn : vs.length = n) (hx : x < fact n) : (tabL vs ys).getD x 0 = tabV vs ys ((permsL n).getD x []) := by
  unfold tabL
  rw [hn, List.getD_eq_getElem?_getD, List.getElem?_map, List.getD_eq_getElem?_getD, List.getElem?_eq_getElem (by rw [permsL_length]; exact hx)]
  rfl
theorem tab_take {vs ys : List Int} {n x : Nat} (hn : vs.length = n) (hx : x < fact n) : (tabL vs ys).take (x + 1) = (tabL vs ys).take x ++ [tabV vs ys ((permsL n).getD x [])] := by
  have hl : x < (tabL vs ys).length := by rw [tabL_length, hn]; exact hx
  rw [← tab_getD hn hx, getD_lt hl, List.take_append_getElem]
theorem fact4 {n : Nat} (h1 : 1 ≤ n) (h5 : n ≤ 5) : 1 ≤ fact n ∧ fact n ≤ 120 := by
  have : ∀ n : Fin 6, 1 ≤ fact n ∧ fact n ≤ 120 := by decide
  exact this ⟨n, by omega⟩

set_option maxRecDepth 100000 in
set_option maxHeartbeats 4000000 in
theorem l8Table_any (n : Nat) (vs ys : List Int) (pv py : Value) (w : World) (hp : P5 n vs) (h1 : 1 ≤ n) (hyl : ys.length = n) (hy9 : ∀ x ∈ ys, -9 ≤ x ∧ x ≤ 9) (hv : Ints w pv vs) (hy : Ints w py ys) :
    Calls Try.prog 40 #[pv, py] w (RetI w (tabL vs ys)) := by
  have HV := Lib.hid hv
  have HY := Lib.hid hy
  have Hp := Lib.hid hp
  have Hvl := Lib.hid hp.len
  have Hyl := Lib.hid hyl
  have Hy9 := Lib.hid hy9
  have h5 := hp.le
  obtain ⟨F, hF⟩ : ∃ F, F = fact n := ⟨_, rfl⟩
  have hf := fact4 h1 h5
  rw [← hF] at hf
  have HF := Lib.hid hF
  obtain ⟨T, hT⟩ : ∃ T, T = tabL vs ys := ⟨_, rfl⟩
  have HT := Lib.hid hT
  have HTl := Lib.hid (show T.length = F by rw [hT, tabL_length, hp.len, hF])
  rw [← hT]
  obtain ⟨av, cv, rfl, ⟨hv1, hv2⟩, _⟩ := hv
  obtain ⟨ay, cy, rfl, ⟨hy1, hy2⟩, _⟩ := hy
  unfold maxLen at hv2 hy2
  rw [Hvl.out] at HV hv1 ⊢
  rw [hyl] at HY hy1 ⊢
  clear hp hyl hy9 hF hT
  obtain ⟨B0, hB0⟩ : ∃ B, B = w.heap.size := ⟨_, rfl⟩
  have HB0 := Lib.hid hB0
  clear hB0
  go_enter Try.func40, Try.ntmps40
  go_wp2_with fail
  refine (specPerms_any n h1 h5 _).mono ?_
  rintro e w2 ⟨u2, rfl, ho2, hb2⟩
  have hRl : (permsL n).length = F := by rw [permsL_length, HF.out]
  have HRl := Lib.hid hRl
  have e1 : (w.alloc (.cells #[] 3)).heap.size = B0 + 1 := by rw [size_alloc, HB0.out]
  obtain ⟨p2, k2, rfl, hk2, hk22⟩ := ho2.shape
  rw [hRl] at hk2 ⊢
  unfold maxLen at hk22
  have hs2 : B0 + 1 ≤ w2.heap.size := by rw [← e1]; exact hb2.size
  rw [e1] at ho2
  rw [hRl] at ho2
  have Hrows := Lib.hid ho2
  have Hb2 := Lib.hid (show Below B0 w w2 from by rw [HB0.out]; exact (below_alloc w _).trans (hb2.mono (by simp)))
  have Ho0 := Lib.hid (show OwnI 3 w2 B0 w2.heap.size (.slice (some ⟨w.heap.size, 0, none⟩) 0 0) (T.take 0) from by
    rw [List.take_zero]
    have := (OwnF.ints (xs := []) (OwnF.made0 w 3 (iv []))).below hb2
    rw [← HB0.out] at this ⊢
    exact this.mono (Nat.le_refl _) (by omega))
  clear hRl ho2 hb2 e1
  obtain ⟨M, hM⟩ : ∃ M, M = w2.heap.size := ⟨_, rfl⟩
  rw [← hM] at hs2
  have HM := Lib.hid hM
  clear hM
  go_wp2_with fail
  go_loopg [5, 7] F (fun g s5 s7 wr => ∃ k : Nat, k ≤ F ∧ g = F - k ∧ s7 = .int .i64 (k : Int) ∧ Hid (Below B0 w wr) ∧ Hid (M ≤ wr.heap.size) ∧ Hid (OwnII 22 3 wr (B0 + 1) M (.slice p2 F k2) (permsL n)) ∧ Hid (OwnI 3 wr B0 wr.heap.size s5 (T.take k)) ∧ Hid (∀ b, s5.ownBlock = some b → b = B0 ∨ M ≤ b))
  case atStart =>
    refine ⟨0, Nat.zero_le _, rfl, rfl, Hb2, Lib.hid (Nat.le_of_eq HM.out), by rw [HM.out]; exact Hrows, Ho0, Lib.hid fun b hb => .inl ?_⟩
    rw [HB0.out]; cases hb; rfl
  case round =>
    obtain ⟨k, hk, rfl, rfl, hb, hM2, hrows, ho, hbk⟩ := hrel
    obtain ⟨wx, rfl⟩ : ∃ x : World, x = wr := ⟨_, rfl⟩
    have Hb := Lib.hid hb.out
    have Hrw := Lib.hid hrows.out
    have Ho := Lib.hid ho.out
    have Hbk := Lib.hid hbk.out
    have hMx := hM2.out
    have htl : (T.take k).length = k := by rw [List.length_take, HTl.out]; omega
    obtain ⟨p5, k5, rfl, hk5, hk55⟩ := ho.out.shape
    rw [htl] at hk5 ⊢
    have Htl := Lib.hid htl
    clear hb hrows ho hbk hM2 htl
    by_cases hlt : k < F
    · have hki : (k : Int) < (F : Int) := by omega
      have HI : Hid (P5 n ((permsL n).getD k [])) := prm_p5 h1 h5 (by rw [← HF.out]; exact hlt)
      obtain ⟨f, hf1, hf2⟩ := Hrw.out.rd
      rw [HRl.out] at hf1 hf2
      have hr := hf2 k hlt
      have hr' := hr
      obtain ⟨pr, kr, er, ⟨hkr, hkr2⟩, _⟩ := hr'
      obtain ⟨row, hrow⟩ : ∃ row, row = (permsL n).getD k [] := ⟨_, rfl⟩
      rw [← hrow] at hr HI er
      rw [HI.out.len] at er
      rw [er] at hr
      have Hr := Lib.hid hr
      have Hrow := Lib.hid hrow
      obtain ⟨_, _, e0, _, hlc0⟩ := hf1
      injection e0 with e1 e2 e3
      subst e1 e3
      obtain ⟨bl, ol, rfl, hlc⟩ := hlc0 (by omega)
      have d0 := hlc k hlt
      rw [er] at d0
      clear hf2 hr er hrow hlc0 hlc e2 hkr hkr2
      have Htk := Lib.hid (tab_take (ys := ys) Hvl.out (show k < fact n by rw [← HF.out]; exact hlt))
      go_wp2_with fail
      refine (l8Local_any n vs row ys _ _ _ _ HI.out h1 Hvl.out Hyl.out Hy9.out (HV.out.below (HB0.out ▸ Hb.out)) Hr.out (HY.out.below (HB0.out ▸ Hb.out))).mono ?_
      rintro e w4 ⟨rfl, hb4⟩
      obtain ⟨R, hR⟩ : ∃ R, R = wrap64 (sumS vs ys (fstL row) (idL n) (idL n)) := ⟨_, rfl⟩
      have HR := Lib.hid hR
      rw [← hR]
      have Hb4 := Lib.hid hb4
      have hs4 := hb4.size
      have h0x : B0 ≤ wx.heap.size := by omega
      have Ho4 := Lib.hid (Ho.out.below hb4)
      have Hrw4 := Lib.hid (Hrw.out.below hb4)
      have hbd1 : k + 1 ≤ maxLen := by unfold maxLen; omega
      have hbd2 : (k + 1) * 8 ≤ 140737488355328 := by omega
      clear hb4 hR
      have hofn := Ho4.out.fn
      rw [Htl.out] at hofn
      go_wp2_with (at_builtin; go_must (refine wpList_append_G rfl (.tmp 18) (.tmp 26) 22 rfl 3 (.int .i64 0) 8 Try.underlying22 info_int rfl B0 wx.heap.size _ k (iv (T.take k)) rfl (hofn.below (below_alloc w4 _)) (by rw [size_alloc]; omega) (by rw [size_alloc]; omega) _ 1 _ rfl (rd_one _ _ _ rfl) (fun j _ => rfl) hbd1 hbd2 ?_; intro v5 w5 ho5 hg5 hw5))
      have hg6 : (w4.alloc (.cells #[.int .i64 R] 3)).grownBy w5 (Value.slice p5 k k5).ownBlock := hg5
      have hw6 : ∀ b, v5.ownBlock = some b → (Value.slice p5 k k5).ownBlock = some b ∨ w4.heap.size + 1 ≤ b := fun b hb => by have := hw5 b hb; rw [size_alloc] at this; exact this
      have hbk0 := Hbk.out
      rw [Htl.out] at hbk0
      have hs5 : w4.heap.size + 1 ≤ w5.heap.size := by have := hg6.size; rw [size_alloc] at this; exact this
      clear hg5 hw5
      go_wp2_with fail
      go_roundg (F - (k + 1))
      case measure => omega
      case rel =>
        refine ⟨k + 1, hlt, rfl, by go_num, Lib.hid ?_, Lib.hid (by omega), Lib.hid ?_, Lib.hid ?_, Lib.hid fun b hb => ?_⟩
        · exact ((Hb.out.trans (Hb4.out.mono h0x)).trans ((below_alloc w4 _).mono (by omega))).trans (grownBy_below hg6 hofn.blocks (Nat.le_refl _) (by rw [size_alloc]; omega))
        · exact (Hrw4.out.below (below_alloc w4 _)).grown hg6 fun b hb => by rcases hbk0 b hb with h | h <;> omega
        · have e : T.take (k + 1) = T.take k ++ [R] := by
            rw [HT.out, Htk.out, HR.out, ← loc_law Hp.out HI.out Hyl.out h1, ← Hrow.out]; rfl
          rw [e]
          exact OwnI.snoc1 (by rw [Htl.out]; exact ho5)
        · rcases hw6 b hb with h | h
          · exact hbk0 b h
          · exact .inr (by omega)
    · obtain rfl : k = F := by omega
      have hki : ¬ (k : Int) < (k : Int) := by omega
      have hof : OwnI 3 wx B0 wx.heap.size (.slice p5 k k5) T := by
        have := Ho.out
        rwa [Htl.out, List.take_of_length_le (by rw [HTl.out]; exact Nat.le_refl _)] at this
      have Hof := Lib.hid hof
      clear hof
      go_wp2_with fail
      go_ret
      exact ⟨_, rfl, HB0.out ▸ Hof.out, HB0.out ▸ Hb.out⟩

set_option maxRecDepth 100000 in
set_option maxHeartbeats 8000000 in
/-- the loop of the program's LocalTable -/
theorem implTable_any (n : Nat) (vs ys : List Int) (pv py : Value) (w : World) (hp : P5 n vs) (h1 : 1 ≤ n) (h4 : n ≤ 4) (hyl : ys.length = n) (hy9 : ∀ x ∈ ys, -9 ≤ x ∧ x ≤ 9) (hv : Ints w pv vs) (hy : Ints w py ys) :
    Calls Try.prog 19 #[pv, py] w fun e w' => ∃ u, e = .returned (.tuple #[u, .bool true]) ∧ OwnI 3 w' w.heap.size w'.heap.size u (tabL vs ys) ∧ Below w.heap.size w w' := by
  have HV := Lib.hid hv
  have HY := Lib.hid hy
  have Hp := Lib.hid hp
  have Hvl := Lib.hid hp.len
  have Hyl := Lib.hid hyl
  have Hy9 := Lib.hid hy9
  have h5 := hp.le
  obtain ⟨F, hF⟩ : ∃ F, F = fact n := ⟨_, rfl⟩
  have hf := fact4 h1 h5
  rw [← hF] at hf
  have HF := Lib.hid hF
  obtain ⟨T, hT⟩ : ∃ T, T = tabL vs ys := ⟨_, rfl⟩
  have HT := Lib.hid hT
  have HTl := Lib.hid (show T.length = F by rw [hT, tabL_length, hp.len, hF])
  rw [← hT]
  have Hsh := Lib.hid (show shiftB (n : Int) ys = true by
    unfold shiftB
    rw [hyl, decide_eq_true rfl, decide_eq_true hy9]; rfl)
  obtain ⟨av, cv, rfl, ⟨hv1, hv2⟩, _⟩ := hv
  obtain ⟨ay, cy, rfl, ⟨hy1, hy2⟩, _⟩ := hy
  unfold maxLen at hv2 hy2
  rw [Hvl.out] at HV hv1 ⊢
  rw [hyl] at HY hy1 ⊢
  clear hp hyl hy9 hF hT
  have hni : ¬ (4 : Int) < (n : Int) := by omega
  go_enter Try.func19, Try.ntmps19
  go_wp2_with fail
  refine (implIsPerm_b _ vs true Hp.out.ok _ HV.out).mono ?_
  rintro e w1 ⟨rfl, hb⟩
  have HB1 := Lib.hid hb
  clear hb
  go_wp2_with fail
  refine (shiftsOk_any _ _ ys _ (HY.out.below HB1.out)).mono ?_
  rintro e w1' ⟨rfl, rfl⟩
  rw [Hsh.out]
  go_wp2_with fail
  refine (double_any _ _ vs ys _ (HV.out.below HB1.out) (HY.out.below HB1.out) (by rw [Hvl.out]; exact h1) (by rw [Hvl.out]; exact h5) (by rw [Hvl.out]; exact Hyl.out) Hy9.out Hp.out.low).mono ?_
  rintro e w3 ⟨u3, rfl, hp3, hb3⟩
  have HP := Lib.hid hp3
  obtain ⟨bf, Df, rfl, _, _⟩ := hp3
  have HB3 := Lib.hid (HB1.out.trans (hb3.mono HB1.out.size))
  have hs13 := HB3.out.size
  clear hb3
  obtain ⟨B0, hB0⟩ : ∃ B, B = w3.heap.size := ⟨_, rfl⟩
  have HB0 := Lib.hid hB0
  rw [← hB0] at hs13
  clear hB0
  go_wp2_with fail
  refine (implAllPerms_any (n : Int) _).mono ?_
  have hap : allPermsL (n : Int) = permsL n := by unfold allPermsL; rw [if_pos (by omega), Int.toNat_natCast]
  rw [hap]
  clear hap
  rintro e w2 ⟨u2, rfl, ho2, hb2⟩
  have hRl : (permsL n).length = F := by rw [permsL_length, HF.out]
  have HRl := Lib.hid hRl
  have e1 : (w3.alloc (.cells #[] 3)).heap.size = B0 + 1 := by rw [size_alloc, HB0.out]
  obtain ⟨p2, k2, rfl, hk2, hk22⟩ := ho2.shape
  rw [hRl] at hk2 ⊢
  unfold maxLen at hk22
  have hs2 : B0 + 1 ≤ w2.heap.size := by rw [← e1]; exact hb2.size
  rw [e1] at ho2
  rw [hRl] at ho2
  have Hrows := Lib.hid ho2
  have Hb2 := Lib.hid (show Below B0 w3 w2 from by rw [HB0.out]; exact (below_alloc w3 _).trans (hb2.mono (by simp)))
  have Ho0 := Lib.hid (show OwnI 3 w2 B0 w2.heap.size (.slice (some ⟨w3.heap.size, 0, none⟩) 0 0) (T.take 0) from by
    rw [List.take_zero]
    have := (OwnF.ints (xs := []) (OwnF.made0 w3 3 (iv []))).below hb2
    rw [← HB0.out] at this ⊢
    exact this.mono (Nat.le_refl _) (by omega))
  clear hRl ho2 hb2 e1
  obtain ⟨M, hM⟩ : ∃ M, M = w2.heap.size := ⟨_, rfl⟩
  rw [← hM] at hs2
  have HM := Lib.hid hM
  clear hM
  go_wp2_with fail
  go_loopg [7, 33] F (fun g s7 s33 wr => ∃ k : Nat, k ≤ F ∧ g = F - k ∧ s33 = .int .i64 (k : Int) ∧ Hid (Below B0 w3 wr) ∧ Hid (M ≤ wr.heap.size) ∧ Hid (OwnII 22 3 wr (B0 + 1) M (.slice p2 F k2) (permsL n)) ∧ Hid (OwnI 3 wr B0 wr.heap.size s7 (T.take k)) ∧ Hid (∀ b, s7.ownBlock = some b → b = B0 ∨ M ≤ b))
  case atStart =>
    refine ⟨0, Nat.zero_le _, rfl, rfl, Hb2, Lib.hid (Nat.le_of_eq HM.out), by rw [HM.out]; exact Hrows, Ho0, Lib.hid fun b hb => .inl ?_⟩
    rw [HB0.out]; cases hb; rfl
  case round =>
    obtain ⟨k, hk, rfl, rfl, hb, hM2, hrows, ho, hbk⟩ := hrel
    obtain ⟨wx, rfl⟩ : ∃ x : World, x = wr := ⟨_, rfl⟩
    have Hb := Lib.hid hb.out
    have Hrw := Lib.hid hrows.out
    have Ho := Lib.hid ho.out
    have Hbk := Lib.hid hbk.out
    have hMx := hM2.out
    have htl : (T.take k).length = k := by rw [List.length_take, HTl.out]; omega
    obtain ⟨p5, k5, rfl, hk5, hk55⟩ := ho.out.shape
    rw [htl] at hk5 ⊢
    have Htl := Lib.hid htl
    have Hbw := Lib.hid (HB3.out.trans (Hb.out.mono hs13))
    clear hb hrows ho hbk hM2 htl
    by_cases hlt : k < F
    · have hki : (k : Int) < (F : Int) := by omega
      have HI : Hid (P5 n ((permsL n).getD k [])) := prm_p5 h1 h5 (by rw [← HF.out]; exact hlt)
      obtain ⟨f, hf1, hf2⟩ := Hrw.out.rd
      rw [HRl.out] at hf1 hf2
      have hr := hf2 k hlt
      have hr' := hr
      obtain ⟨pr, kr, er, ⟨hkr, hkr2⟩, _⟩ := hr'
      obtain ⟨row, hrow⟩ : ∃ row, row = (permsL n).getD k [] := ⟨_, rfl⟩
      rw [← hrow] at hr HI er
      rw [HI.out.len] at er
      rw [er] at hr
      have Hr := Lib.hid hr
      have Hrow := Lib.hid hrow
      obtain ⟨_, _, e0, _, hlc0⟩ := hf1
      injection e0 with e1 e2 e3
      subst e1 e3
      obtain ⟨bl, ol, rfl, hlc⟩ := hlc0 (by omega)
      have d0 := hlc k hlt
      rw [er] at d0
      clear hf2 hr er hrow hlc0 hlc e2 hkr hkr2
      have Htk := Lib.hid (tab_take (ys := ys) Hvl.out (show k < fact n by rw [← HF.out]; exact hlt))
      go_wp2_with fail
      refine (valueAt_any _ _ _ 10 _ (dblP vs ys) row ys _ (HP.out.below (HB0.out ▸ Hb.out)) (by omega) Hr.out (HY.out.below Hbw.out) (by rw [HI.out.len]; omega) (fun i hi => by rw [HI.out.len] at hi; rw [Hyl.out]; exact HI.out.rng hi)).mono ?_
      rintro e w4 ⟨rfl, hb4⟩
      obtain ⟨R, hR⟩ : ∃ R, R = wrap64 (Ev (dblP vs ys) (mono (pickL row ys))) := ⟨_, rfl⟩
      have HR := Lib.hid hR
      rw [← hR]
      have Hb4 := Lib.hid hb4
      have hs4 := hb4.size
      have h0x : B0 ≤ wx.heap.size := by omega
      have Ho4 := Lib.hid (Ho.out.below hb4)
      have Hrw4 := Lib.hid (Hrw.out.below hb4)
      have hbd1 : k + 1 ≤ maxLen := by unfold maxLen; omega
      have hbd2 : (k + 1) * 8 ≤ 140737488355328 := by omega
      clear hb4 hR
      have hofn := Ho4.out.fn
      rw [Htl.out] at hofn
      go_wp2_with (at_builtin; go_must (refine wpList_append_G rfl (.tmp 37) (.tmp 42) 22 rfl 3 (.int .i64 0) 8 Try.underlying22 info_int rfl B0 wx.heap.size _ k (iv (T.take k)) rfl (hofn.below (below_alloc w4 _)) (by rw [size_alloc]; omega) (by rw [size_alloc]; omega) _ 1 _ rfl (rd_one _ _ _ rfl) (fun j _ => rfl) hbd1 hbd2 ?_; intro v5 w5 ho5 hg5 hw5))
      have hg6 : (w4.alloc (.cells #[.int .i64 R] 3)).grownBy w5 (Value.slice p5 k k5).ownBlock := hg5
      have hw6 : ∀ b, v5.ownBlock = some b → (Value.slice p5 k k5).ownBlock = some b ∨ w4.heap.size + 1 ≤ b := fun b hb => by have := hw5 b hb; rw [size_alloc] at this; exact this
      have hbk0 := Hbk.out
      rw [Htl.out] at hbk0
      have hs5 : w4.heap.size + 1 ≤ w5.heap.size := by have := hg6.size; rw [size_alloc] at this; exact this
      clear hg5 hw5
      go_wp2_with fail
      go_roundg (F - (k + 1))
      case measure => omega
      case rel =>
        refine ⟨k + 1, hlt, rfl, by go_num, Lib.hid ?_, Lib.hid (by omega), Lib.hid ?_, Lib.hid ?_, Lib.hid fun b hb => ?_⟩
        · exact ((Hb.out.trans (Hb4.out.mono h0x)).trans ((below_alloc w4 _).mono (by omega))).trans (grownBy_below hg6 hofn.blocks (Nat.le_refl _) (by rw [size_alloc]; omega))
        · exact (Hrw4.out.below (below_alloc w4 _)).grown hg6 fun b hb => by rcases hbk0 b hb with h | h <;> omega
        · have e : T.take (k + 1) = T.take k ++ [R] := by
            rw [HT.out, Htk.out, HR.out, ← Hrow.out]; rfl
          rw [e]
          exact OwnI.snoc1 (by rw [Htl.out]; exact ho5)
        · rcases hw6 b hb with h | h
          · exact hbk0 b h
          · exact .inr (by omega)
    · obtain rfl : k = F := by omega
      have hki : ¬ (k : Int) < (k : Int) := by omega
      have hof : OwnI 3 wx B0 wx.heap.size (.slice p5 k k5) T := by
        have := Ho.out
        rwa [Htl.out, List.take_of_length_le (by rw [HTl.out]; exact Nat.le_refl _)] at this
      have Hof := Lib.hid (hof.mono hs13 (Nat.le_refl _))
      clear hof
      go_wp2_with fail
      go_ret2
      exact ⟨_, rfl, Hof.out, Hbw.out⟩

end Go.Proofs.Ytajmoclnmphmgaa

namespace Go.Proofs.Ytajmoclnmphmgaa
set_option linter.all false
open Go.RowKit

def tblOk (vs ys : List Int) : Bool := permOk vs && nmOk vs.length ys && decide (vs.length ≤ 4)
def tblL (vs ys : List Int) : List Int × Bool := if tblOk vs ys then (tabL vs ys, true) else ([], false)
def RetLB (w : World) (r : List Int × Bool) (e : Ending) (w' : World) : Prop := ∃ u, e = .returned (.tuple #[u, .bool r.2]) ∧ OwnI 3 w' w.heap.size w'.heap.size u r.1 ∧ Below w.heap.size w w'
theorem tblL_no {vs ys : List Int} (h : tblOk vs ys = false) : tblL vs ys = ([], false) := by unfold tblL; rw [h]; rfl
theorem tblL_yes {vs ys : List Int} (h : tblOk vs ys = true) : tblL vs ys = (tabL vs ys, true) := by unfold tblL; rw [h]; rfl
theorem tblL_len (vs ys : List Int) : (tblL vs ys).1.length ≤ 120 := by
  unfold tblL
  split
  · rename_i h
    unfold tblOk at h
    simp only [Bool.and_eq_true, decide_eq_true_eq] at h
    have h1 := h.1.1
    simp only [permOk, decide_eq_true_eq] at h1
    show (tabL vs ys).length ≤ 120
    rw [tabL_length]
    exact (fact4 h1.1 (by omega)).2
  · simp
theorem retLB_no {w w' : World} {vs ys : List Int} (h : tblOk vs ys = false) (hb : Below w.heap.size w w') : RetLB w (tblL vs ys) (.returned (.tuple #[.slice none 0 0, .bool false])) w' := by
  rw [tblL_no h]
  exact ⟨_, rfl, own_nil _ _ _ _, hb⟩

set_option maxRecDepth 100000 in
set_option maxHeartbeats 4000000 in
theorem implLocalTable_any (pv py : Value) (vs ys : List Int) (w : World) (hv : Ints w pv vs) (hy : Ints w py ys) :
    Calls Try.prog 19 #[pv, py] w (RetLB w (tblL vs ys)) := by
  cases hok : tblOk vs ys with
  | true =>
    have hp := hok
    unfold tblOk at hp
    simp only [Bool.and_eq_true, decide_eq_true_eq] at hp
    have HL := locIs_of hp.1.1 hp.1.1 rfl hp.1.2
    rw [tblL_yes hok]
    exact implTable_any vs.length vs ys pv py w HL.v HL.one hp.2 HL.y HL.y9 hv hy
  | false =>
  have HV := Lib.hid hv
  have HY := Lib.hid hy
  obtain ⟨av, cv, rfl, ⟨hv1, hv2⟩, _⟩ := hv
  obtain ⟨ay, cy, rfl, ⟨hy1, hy2⟩, _⟩ := hy
  unfold maxLen at hv2 hy2
  have No := Lib.hid fun w' (hb : Below w.heap.size w w') => retLB_no hok hb
  have Hok := Lib.hid hok
  clear hok
  go_enter Try.func19, Try.ntmps19
  cases h1 : permOk vs with
  | false =>
    have H1 := Lib.hid h1
    clear h1
    go_wp2_with fail
    refine (implIsPerm_b _ vs false H1.out _ HV.out).mono ?_
    rintro e w1 ⟨rfl, hb⟩
    go_wp2_with fail
    go_ret2
    exact No.out _ hb
  | true =>
  have H1 := Lib.hid h1
  clear h1
  by_cases h5 : vs.length ≤ 4
  · have h5i : ¬ (4 : Int) < (vs.length : Int) := by omega
    have hone : 1 ≤ vs.length := by have := H1.out; simp only [permOk, decide_eq_true_eq] at this; exact this.1
    have hsh : shiftB (vs.length : Int) ys = false := by
      have := Hok.out
      unfold tblOk at this
      rw [H1.out, decide_eq_true h5, nm_shift (by omega) (by omega)] at this
      simpa using this
    have Hsh := Lib.hid hsh
    clear hsh hone
    go_wp2_with fail
    refine (implIsPerm_b _ vs true H1.out _ HV.out).mono ?_
    rintro e w1 ⟨rfl, hb⟩
    have HB := Lib.hid hb
    clear hb
    go_wp2_with fail
    refine (shiftsOk_any _ _ ys _ (HY.out.below HB.out)).mono ?_
    rintro e w3 ⟨rfl, rfl⟩
    rw [Hsh.out]
    go_wp2_with fail
    go_ret2
    exact No.out _ HB.out
  · have h5i : (4 : Int) < (vs.length : Int) := by omega
    clear h5
    go_wp2_with fail
    refine (implIsPerm_b _ vs true H1.out _ HV.out).mono ?_
    rintro e w1 ⟨rfl, hb⟩
    go_wp2_with fail
    go_ret2
    exact No.out _ hb

end Go.Proofs.Ytajmoclnmphmgaa

namespace Go.Proofs.Ytajmoclnmphmgaa
set_option linter.all false
open Go.RowKit

/-- a slice that can be read: n elements of so many cells each -/
def RdS (w : World) (size : Nat) (v : Value) (n : Nat) (F : Nat → Nat → Value) : Prop :=
  ∃ p cap, v = .slice p n cap ∧ (n ≤ cap ∧ cap ≤ maxLen) ∧ (0 < n → ∃ b, p = some ⟨b, 0, none⟩ ∧ ∀ i, i < n → ∀ j, j < size → w.cell? ⟨b, i * size + j, none⟩ = some (F i j))
theorem RdS.of_cells {w w' : World} {size : Nat} {v : Value} {n : Nat} {F : Nat → Nat → Value} (h : RdS w size v n F) (hc : ∀ a x, w.cell? a = some x → w'.cell? a = some x) : RdS w' size v n F := by
  obtain ⟨p, cap, rfl, hm, h⟩ := h
  refine ⟨p, cap, rfl, hm, fun h0 => ?_⟩
  obtain ⟨b, hp, hx⟩ := h h0
  exact ⟨b, hp, fun i hi j hj => hc _ _ (hx i hi j hj)⟩
theorem RdS.below {w w' : World} {size : Nat} {v : Value} {n : Nat} {F : Nat → Nat → Value} (h : RdS w size v n F) (hb : Below w.heap.size w w') : RdS w' size v n F :=
  h.of_cells fun a x hx => by rw [hb.cell (World.block_lt_of_cell? w a hx)]; exact hx
theorem RdS.qt {w w' : World} {size : Nat} {v : Value} {n : Nat} {F : Nat → Nat → Value} (h : RdS w size v n F) (q : Qt w w') : RdS w' size v n F := h.of_cells fun _ _ hx => q.cell hx
theorem RdS.congr {w : World} {size : Nat} {v : Value} {n : Nat} {F G : Nat → Nat → Value} (h : RdS w size v n F) (e : ∀ i, i < n → ∀ j, j < size → F i j = G i j) : RdS w size v n G := by
  obtain ⟨p, cap, rfl, hm, h⟩ := h
  refine ⟨p, cap, rfl, hm, fun h0 => ?_⟩
  obtain ⟨b, hp, hx⟩ := h h0
  exact ⟨b, hp, fun i hi j hj => by rw [← e i hi j hj]; exact hx i hi j hj⟩

/-- a slice of structs that a call made -/
def OwnS (w : World) (lo hi : Nat) (T : TypeId) (size : Nat) (v : Value) (n : Nat) (F : Nat → Nat → Value) : Prop :=
  ∃ xs, Own w lo hi T size v n xs ∧ ∀ i, i < n → ∀ j, j < size → xs[i * size + j]? = some (F i j)

namespace OwnS
variable {w w' : World} {lo hi : Nat} {T : TypeId} {size : Nat} {v : Value} {n : Nat} {F : Nat → Nat → Value}
theorem rd (h : OwnS w lo hi T size v n F) : RdS w size v n F := by
  obtain ⟨xs, h, hf⟩ := h
  rcases h.1.2 with ⟨rfl, e⟩ | ⟨g, cap, cur, rfl, _, _, hm, hm2, _⟩
  · exact ⟨none, 0, by rw [e], ⟨by omega, Nat.zero_le _⟩, fun h0 => absurd h0 (by omega)⟩
  · refine ⟨_, cap, rfl, ⟨hm, hm2⟩, fun _ => ⟨g, rfl, fun i hi j hj => ?_⟩⟩
    have hadd : ∀ j, (⟨g, 0, none⟩ : Addr).add j = ⟨g, 0 + j, none⟩ := fun j => by unfold Addr.add; split <;> simp_all
    have c1 := h.1.cells (g := g) rfl _ _ (hf i hi j hj)
    rw [hadd, Nat.zero_add] at c1
    exact c1
theorem shape (h : OwnS w lo hi T size v n F) : ∃ p cap, v = .slice p n cap ∧ n ≤ cap ∧ cap ≤ maxLen ∧ (0 < n → ∃ g, p = some ⟨g, 0, none⟩ ∧ lo ≤ g ∧ g < hi ∧ g < w.heap.size) := by
  obtain ⟨xs, h, hf⟩ := h
  have hb := fun k hk => h.block (k := k) hk
  rcases h.1.2 with ⟨rfl, e⟩ | ⟨g, cap, cur, rfl, _, _, hm, hm2, _⟩
  · exact ⟨none, 0, by rw [e], by omega, Nat.zero_le _, fun h0 => absurd h0 (by omega)⟩
  · exact ⟨_, cap, rfl, hm, hm2, fun _ => ⟨g, rfl, hb g rfl⟩⟩
theorem at_ {p : Option Addr} {cap : Nat} (h : OwnS w lo hi T size (.slice p n cap) n F) (h0 : 0 < n) : ∃ g, p = some ⟨g, 0, none⟩ ∧ lo ≤ g ∧ g < hi ∧ g < w.heap.size := by
  obtain ⟨q, c, e, _, _, h⟩ := h.shape
  injection e with e1 e2 e3
  subst e1
  exact h h0
theorem cell {g n' cap : Nat} (h : OwnS w lo hi T size (.slice (some ⟨g, 0, none⟩) n' cap) n F) {i j : Nat} (hi : i < n) (hj : j < size) : w.cell? ⟨g, i * size + j, none⟩ = some (F i j) := by
  obtain ⟨p, c, e, _, h⟩ := h.rd
  injection e with e1 _ _
  obtain ⟨b, e2, h⟩ := h (by omega)
  rw [← e1] at e2
  obtain rfl : g = b := by injection e2 with e2; injection e2
  exact h i hi j hj
theorem frozen {g n' cap : Nat} (h : OwnS w lo hi T size (.slice (some ⟨g, 0, none⟩) n' cap) n F) (j : Nat) : w.frozen? ⟨g, j, none⟩ = false := by
  obtain ⟨xs, h, _⟩ := h
  rcases h.1.2 with ⟨h', _⟩ | ⟨g', cap', cur, h', _, hg, _⟩
  · simp at h'
  · simp only [Value.slice.injEq, Option.some.injEq, Addr.mk.injEq, and_true, true_and] at h'
    obtain ⟨rfl, _, _⟩ := h'
    exact free_of_blk hg j
theorem congr {G : Nat → Nat → Value} (h : OwnS w lo hi T size v n F) (e : ∀ i, i < n → ∀ j, j < size → F i j = G i j) : OwnS w lo hi T size v n G := by
  obtain ⟨xs, h, hf⟩ := h
  exact ⟨xs, h, fun i hi j hj => by rw [← e i hi j hj]; exact hf i hi j hj⟩
theorem keep (h : OwnS w lo hi T size v n F) (hb : ∀ k, lo ≤ k → k < hi → k < w.heap.size → w'.heap[k]? = w.heap[k]?) : OwnS w' lo hi T size v n F := by
  obtain ⟨xs, h, hf⟩ := h
  exact ⟨xs, h.keep hb, hf⟩
theorem below (h : OwnS w lo hi T size v n F) (hb : Below w.heap.size w w') : OwnS w' lo hi T size v n F := h.keep fun k _ _ h3 => hb.block k h3
theorem frm {lo' hi' : Nat} (h : OwnS w lo hi T size v n F) (hb : Frm lo' hi' w w') (ho : hi ≤ lo' ∨ hi' ≤ lo) : OwnS w' lo hi T size v n F := h.keep fun k h1 h2 h3 => hb.block k h3 (by omega)
theorem mono {lo' hi' : Nat} (h : OwnS w lo hi T size v n F) (h1 : lo' ≤ lo) (h2 : hi ≤ hi') : OwnS w lo' hi' T size v n F := by
  obtain ⟨xs, h, hf⟩ := h
  exact ⟨xs, h.mono h1 h2, hf⟩
theorem besides {lo' hi' : Nat} (h : OwnS w lo hi T size v n F) (hf : Frm lo' hi' w w') (hne : ∀ b, v.ownBlock = some b → b < lo' ∨ hi' ≤ b) : OwnS w' lo hi T size v n F := by
  obtain ⟨xs, h, hx⟩ := h
  exact ⟨xs, ⟨ownsRow_of_block h.1 fun b hb => hf.block b (Own.block h hb).2.2 (hne b hb), h.2⟩, hx⟩
theorem blocks (h : OwnS w lo hi T size v n F) : ∀ k, v.ownBlock = some k → lo ≤ k ∧ k < hi := by
  obtain ⟨xs, h, _⟩ := h
  exact fun k hk => ⟨(h.block hk).1, (h.block hk).2.1⟩
theorem kind (h : OwnS w lo hi T size v n F) : ∀ g, v.ownBlock = some g → ∃ c fz, w.heap[g]? = some (.cells c T fz) := by
  obtain ⟨xs, h, _⟩ := h
  exact Lib.ownsRow_kind h.1
theorem setCell (h : OwnS w lo hi T size v n F) {a : Addr} (ho : a.block < lo ∨ hi ≤ a.block) (u : Value) : OwnS (w.setCell a u) lo hi T size v n F := by
  obtain ⟨xs, h, hf⟩ := h
  exact ⟨xs, h.setCell ho u, hf⟩
/-- a field of an element is written -/
theorem set {g n' cap : Nat} (h : OwnS w lo hi T size (.slice (some ⟨g, 0, none⟩) n' cap) n F) {i0 j0 : Nat} (hi0 : i0 < n) (hj0 : j0 < size) (u : Value) :
    OwnS (w.setCell ⟨g, i0 * size + j0, none⟩ u) lo hi T size (.slice (some ⟨g, 0, none⟩) n' cap) n (fun i j => if i = i0 ∧ j = j0 then u else F i j) := by
  obtain ⟨xs, h, hf⟩ := h
  have hle : ∀ i j, i < n → j < size → i * size + j < n * size := fun i j hi hj => by
    have : (i + 1) * size ≤ n * size := Nat.mul_le_mul_right _ hi
    rw [Nat.add_mul] at this; omega
  obtain ⟨q, c, e, _⟩ := (OwnS.shape ⟨xs, h, hf⟩ : _)
  have en : n' = n := by injection e
  subst en
  refine ⟨xs.set (i0 * size + j0) u, ⟨(World.ownsRow.stored h.1 _ u).1, h.2⟩, fun i hi j hj => ?_⟩
  rw [List.getElem?_set]
  by_cases e : i = i0 ∧ j = j0
  · obtain ⟨rfl, rfl⟩ := e
    have hlt : i * size + j < xs.length := by rw [h.len]; exact hle _ _ hi0 hj0
    simp [hlt]
  · show _ = some (if i = i0 ∧ j = j0 then u else F i j)
    rw [if_neg e, if_neg fun c => e ?_]
    · exact hf i hi j hj
    · have h1 := Nat.mul_add_mod' i size j
      have h2 := Nat.mul_add_mod' i0 size j0
      rw [Nat.mod_eq_of_lt hj] at h1
      rw [Nat.mod_eq_of_lt hj0] at h2
      have : j = j0 := by rw [← h1, ← h2, c]
      subst this
      exact ⟨Nat.eq_of_mul_eq_mul_right (by omega) (by omega : i * size = i0 * size), rfl⟩
theorem nil (w : World) (lo hi : Nat) (T : TypeId) (size : Nat) (F : Nat → Nat → Value) : OwnS w lo hi T size (.slice none 0 0) 0 F :=
  ⟨[], ⟨World.ownsRow_nil _ _ _ _, fun k hk => by simp [Value.ownBlock] at hk⟩, fun i hi => absurd hi (Nat.not_lt_zero _)⟩
theorem made0 (w : World) (T : TypeId) (size : Nat) (F : Nat → Nat → Value) : OwnS (w.alloc (.cells #[] T)) w.heap.size (w.heap.size + 1) T size (.slice (some ⟨w.heap.size, 0, none⟩) 0 0) 0 F :=
  ⟨[], ⟨World.ownsRow_made w #[] 0 (Nat.le_refl _) (Nat.zero_le _) (by simp), fun k hk => by simp [Value.ownBlock] at hk; omega⟩, fun i hi => absurd hi (Nat.not_lt_zero _)⟩
/-- behind an append on u: what is owned in other blocks stays -/
theorem grown {u : Value} (h : OwnS w lo hi T size v n F) (hg : w.grownBy w' u.ownBlock) (hne : ∀ k, v.ownBlock = some k → u.ownBlock ≠ some k) : OwnS w' lo hi T size v n F := by
  obtain ⟨xs, h, hf⟩ := h
  exact ⟨xs, ⟨ownsRow_of_block h.1 fun k hk => hg.block k (h.block hk).2.2 fun e => hne k hk e.symm, h.2⟩, hf⟩
end OwnS

theorem ne_of_kinds {w : World} {T U : TypeId} {g : Nat} (h1 : ∃ c fz, w.heap[g]? = some (.cells c T fz)) (h2 : ∃ c fz, w.heap[g]? = some (.cells c U fz)) (hT : T ≠ U) : False := by
  obtain ⟨c, fz, h1⟩ := h1
  obtain ⟨c', fz', h2⟩ := h2
  rw [h1] at h2
  injection h2 with h2
  injection h2 with _ h2
  exact hT h2
theorem OwnI.kind {T : TypeId} {w : World} {lo hi : Nat} {v : Value} {xs : List Int} (h : OwnI T w lo hi v xs) : ∀ g, v.ownBlock = some g → ∃ c fz, w.heap[g]? = some (.cells c T fz) := Lib.ownsRow_kind h.1

/-- append of one struct onto structs of the call's own -/
theorem run_append_S {P : Program} {w : World} {t ty e : TypeId} {i : TypeInfo} {z : Value} {size bytes : Nat} (ht : P.underlying t = some (.slice e)) (hi : P.info? e = some i) (hz : i.zero = some z)
    (hsize : i.size = size) (hby : i.bytes = bytes) (hzs : z.cells.size = size) (h0 : 0 < size)
    (lo hi' : Nat) (v : Value) (n : Nat) (F : Nat → Nat → Value) (hown : OwnS w lo hi' e size v n F) (hlo : lo ≤ w.heap.size)
    (b c : Nat) (G : Nat → Value) (hc : ∀ j, j < size → w.cell? ⟨b, j, none⟩ = some (G j)) (h1 : ∀ j, j < size → (G j).oneCell' = true) (h63 : n + 1 ≤ maxLen) (hbytes : (n + 1) * bytes ≤ 140737488355328) :
    ∃ v' w', (Builtin.append_ #[t, t] ty #[v, .slice (some ⟨b, 0, none⟩) 1 c]).run P w = .ok v' w' ∧ OwnS w' lo w'.heap.size e size v' (n + 1) (fun k => if k < n then F k else G) ∧ w.grownBy w' v.ownBlock := by
  obtain ⟨xs, ho, hf⟩ := hown
  have hG : ∀ (j : Nat) (u : Value), ((List.range size).map G)[j]? = some u → j < size ∧ u = G j := fun j u hj => by
    have hlt : j < size := by
      rcases Nat.lt_or_ge j size with h | h
      · exact h
      · rw [List.getElem?_eq_none (by simpa using h)] at hj; cases hj
    simp [hlt] at hj
    exact ⟨hlt, hj.symm⟩
  obtain ⟨v', w', hr, h2, h3, _⟩ := run_append_own (P := P) w lo t ty e i z size bytes ht hi hz hsize hby hzs h0 v n xs ho.1 ⟨b, 0, none⟩ 1 c ((List.range size).map G) (by simp)
    (fun j u hj => by
      obtain ⟨hlt, rfl⟩ := hG j u hj
      have hadd : (⟨b, 0, none⟩ : Addr).add j = ⟨b, 0 + j, none⟩ := by unfold Addr.add; split <;> simp_all
      rw [hadd, Nat.zero_add]
      exact hc j hlt)
    (fun u hu => by
      simp only [List.mem_map, List.mem_range] at hu
      obtain ⟨j, hj, rfl⟩ := hu
      exact h1 j hj) h63 hbytes hlo
  refine ⟨v', w', hr, ⟨_, Own.of_row h2, fun i hi j hj => ?_⟩, h3⟩
  have hl : xs.length = n * size := ho.len
  by_cases h : i < n
  · have hle : i * size + j < n * size := by
      have : (i + 1) * size ≤ n * size := Nat.mul_le_mul_right _ h
      rw [Nat.add_mul] at this; omega
    simp only [h, if_true]
    rw [List.getElem?_append_left (by omega), hf i h j hj]
  · have : i = n := by omega
    subst this
    simp only [h, if_false]
    rw [List.getElem?_append_right (by omega), hl, Nat.add_sub_cancel_left]
    simp [hj]
theorem info_partsS {P : Program} {t : TypeId} {z : Value} {size bytes : Nat} (h : (P.info? t).map (fun i => (i.zero, i.size, i.bytes)) = some (some z, size, bytes)) : ∃ i, P.info? t = some i ∧ i.zero = some z ∧ i.size = size ∧ i.bytes = bytes := by
  cases hi : P.info? t with
  | none => rw [hi] at h; cases h
  | some i =>
    rw [hi] at h
    simp only [Option.map_some, Option.some.injEq, Prod.mk.injEq] at h
    exact ⟨i, rfl, h.1, h.2.1, h.2.2⟩
/-- .. as a law of the walk -/
theorem wpList_append_S {P : Program} {w : World} {ops : Array Oper} {rest : List Oper} {o : Oper} {a : Act} {Q : Exit → Act → World → Prop} (hgd : o.guard = none) (s x : Operand) (t : TypeId)
    (ho : o.op = .call { callee := .builtin .append, args := #[s, x], argTypes := #[t, t] })
    (e : TypeId) (z : Value) (size bytes : Nat) (ht : P.underlying t = some (.slice e)) (hinfo : (P.info? e).map (fun i => (i.zero, i.size, i.bytes)) = some (some z, size, bytes)) (hzs : z.cells.size = size) (h0 : 0 < size)
    (lo hi' : Nat) (v : Value) (n : Nat) (F : Nat → Nat → Value) (hs : a.eval s = v) (hown : OwnS w lo hi' e size v n F) (hlo : lo ≤ w.heap.size)
    (b c : Nat) (G : Nat → Value) (hxu : a.eval x = .slice (some ⟨b, 0, none⟩) 1 c) (hc : ∀ j, j < size → w.cell? ⟨b, j, none⟩ = some (G j)) (h1 : ∀ j, j < size → (G j).oneCell' = true) (h63 : n + 1 ≤ maxLen) (hbytes : (n + 1) * bytes ≤ 140737488355328)
    (h : ∀ v' w', OwnS w' lo w'.heap.size e size v' (n + 1) (fun k => if k < n then F k else G) → w.grownBy w' v.ownBlock → wpList P ops Q rest (a.put o.dst v') w') :
    wpList P ops Q (o :: rest) a w := by
  refine wpList_plain hgd fun K hK' => ?_
  obtain ⟨i, hi, hz, hsz, hby⟩ := info_partsS hinfo
  obtain ⟨v', w', hr, h2, h3⟩ := run_append_S (P := P) (ty := o.type) ht hi hz hsz hby hzs h0 lo hi' v n F hown hlo b c G hc h1 h63 hbytes
  unfold Oper.wp
  simp [execOp, ho, resolve, invoke, builtin, hs, hxu, hr, Result.andThen]
  exact hK' _ _ (h v' w' h2 h3)
/-- .. as a step of a region that draws -/
theorem step_append_S {P : Program} {w : World} {ops : Array Oper} {o : Oper} {a : Act} {K : Act → World → Prop} {Q : Exit → Act → World → Prop} {E : Prop} (hgd : o.guard = none) (s x : Operand) (t : TypeId)
    (ho : o.op = .call { callee := .builtin .append, args := #[s, x], argTypes := #[t, t] })
    (e : TypeId) (z : Value) (size bytes : Nat) (ht : P.underlying t = some (.slice e)) (hinfo : (P.info? e).map (fun i => (i.zero, i.size, i.bytes)) = some (some z, size, bytes)) (hzs : z.cells.size = size) (h0 : 0 < size)
    (lo hi' : Nat) (v : Value) (n : Nat) (F : Nat → Nat → Value) (hs : a.eval s = v) (hown : OwnS w lo hi' e size v n F) (hlo : lo ≤ w.heap.size)
    (b c : Nat) (G : Nat → Value) (hxu : a.eval x = .slice (some ⟨b, 0, none⟩) 1 c) (hc : ∀ j, j < size → w.cell? ⟨b, j, none⟩ = some (G j)) (h1 : ∀ j, j < size → (G j).oneCell' = true) (h63 : n + 1 ≤ maxLen) (hbytes : (n + 1) * bytes ≤ 140737488355328)
    (h : ∀ v' w', OwnS w' lo w'.heap.size e size v' (n + 1) (fun k => if k < n then F k else G) → w.grownBy w' v.ownBlock → K (a.put o.dst v') w') :
    if Region.wanted o (yielded ops a.tmps) = true then Oper.wp P o a w K Q else E := by
  have hw : Region.wanted o (yielded ops a.tmps) = true := by simp [Region.wanted, hgd]
  rw [if_pos hw]
  obtain ⟨i, hi, hz, hsz, hby⟩ := info_partsS hinfo
  obtain ⟨v', w', hr, h2, h3⟩ := run_append_S (P := P) (ty := o.type) ht hi hz hsz hby hzs h0 lo hi' v n F hown hlo b c G hc h1 h63 hbytes
  unfold Oper.wp
  simp [execOp, ho, resolve, invoke, builtin, hs, hxu, hr, Result.andThen]
  exact h v' w' h2 h3

end Go.Proofs.Ytajmoclnmphmgaa
