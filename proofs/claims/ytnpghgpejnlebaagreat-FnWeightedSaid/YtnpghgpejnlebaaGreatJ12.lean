/-
  What the program asks of numbers; its exchange of two places; the search among permutations.
  Localize on both sides.
  NewSession: what both make, and the law's helpers on sessions whose classes and shape are empty.
  The program's allPerms and AllPerms.
  LocalTable: the values at all permutations, on both sides.
  LocalTable, whole, on both sides.
  Values taken apart, from short permutations to long ones. Plain.
  Go's stable sort as it runs, over arrays: the model. Plain.
  Worlds of a sort whose closure may make memory, whatever was drawn: what the walks want of them.
-/
import Derived.Test.YtnpghgpejnlebaaGreatJ9
import Derived.Test.YtnpghgpejnlebaaGreatJ3
import Derived.Test.YtnpghgpejnlebaaGreatJ2
import Derived.Test.YtnpghgpejnlebaaGreatJ11
import Derived.Test.YtnpghgpejnlebaaGreatJ8
import Derived.BigRegion
import Derived.Test.YtnpghgpejnlebaaGreatJ10
import Derived.Test.YtnpghgpejnlebaaGreatJ1
import Derived.Shelf.SlSortCmp.Insertion1
import Derived.Test.YtnpghgpejnlebaaGreatShelf
namespace Go.Proofs.YtnpghgpejnlebaaGreat
set_option linter.all false
open Go.RowKit

set_option maxRecDepth 100000 in
set_option maxHeartbeats 2000000 in
theorem shiftsOk_any (N : Int) (v : Value) (y : List Int) (w : World) (h : Ints w v y) :
    Calls Tryz.prog 15 #[v, .int .i64 N] w fun e w' => e = .returned (.bool (shiftB N y)) ∧ w = w' := by
  obtain ⟨p, cap, rfl, ⟨hx1, hx⟩, hxc⟩ := h
  unfold maxLen at hx
  go_enter Tryz.func15, Tryz.ntmps15
  go_wp2_with fail
  go_loopg [6, 9] y.length (fun g s6 s9 wr => ∃ k : Nat, k ≤ y.length ∧ g = y.length - k ∧ s9 = .int .i64 k ∧ w = wr ∧ Hid (∀ j, j < k → -9 ≤ y.getD j 0 ∧ y.getD j 0 ≤ 9))
  case atStart => exact ⟨0, Nat.zero_le _, rfl, rfl, rfl, Lib.hid fun j hj => absurd hj (Nat.not_lt_zero _)⟩
  case round =>
    obtain ⟨k, hk, rfl, rfl, rfl, hp⟩ := hrel
    by_cases hlt : k < y.length
    · obtain ⟨b, off, rfl, hc⟩ := hxc (by omega)
      obtain ⟨x, hx'⟩ : ∃ x, x = y.getD k 0 := ⟨_, rfl⟩
      have c1 := hc k hlt
      unfold iv at c1
      rw [← hx'] at c1
      have Hx := Lib.hid hx'
      have hk1 : (k : Int) < (y.length : Int) := by omega
      clear hx' hc hxc
      have bad : ¬ (-9 ≤ x ∧ x ≤ 9) → shiftB N y = false := fun hr => by
        unfold shiftB
        rw [decide_eq_false (show ¬ ∀ x ∈ y, -9 ≤ x ∧ x ≤ 9 from fun e => hr (by rw [Hx.out]; exact e _ (getD_mem hlt))), Bool.and_false]
      have Bad := Lib.hid bad
      clear bad
      by_cases h1 : x < -9
      · go_wp2_with fail
        go_ret
        exact ⟨ret_bool (Bad.out (by omega)).symm, rfl⟩
      by_cases h2 : 9 < x
      · go_wp2_with fail
        go_ret
        exact ⟨ret_bool (Bad.out (by omega)).symm, rfl⟩
      go_wp2_with fail
      go_roundg (y.length - (k + 1))
      case measure => omega
      case rel =>
        refine ⟨k + 1, by omega, rfl, by go_num, rfl, Lib.hid fun j hj => ?_⟩
        by_cases e : j = k
        · subst e; rw [← Hx.out]; omega
        · exact hp.out j (by omega)
    · have hk1 : ¬ (k : Int) < (y.length : Int) := by omega
      have ha : decide (∀ x ∈ y, -9 ≤ x ∧ x ≤ 9) = true := decide_eq_true (all_of_getD fun j hj => hp.out j (by omega))
      have Ha := Lib.hid ha
      clear ha
      by_cases hN : (y.length : Int) = N
      · go_wp2_with fail
        go_ret
        exact ⟨ret_bool (by unfold shiftB; rw [Ha.out, decide_eq_true hN]; rfl), rfl⟩
      · go_wp2_with fail
        go_ret
        exact ⟨ret_bool (by unfold shiftB; simp [hN]), rfl⟩

theorem nm_shift {N : Int} {y : List Int} (h1 : 1 ≤ N) (h2 : N ≤ 5) : nmOk N y = shiftB N y := by
  unfold nmOk shiftB
  rw [decide_eq_true h1, decide_eq_true h2]; simp

set_option maxRecDepth 100000 in
set_option maxHeartbeats 2000000 in
theorem weightsOk_any (N : Int) (v : Value) (y : List Int) (w : World) (h : Ints w v y) :
    Calls Tryz.prog 25 #[.int .i64 N, v] w fun e w' => e = .returned (.bool (apOk N y)) ∧ Qt w w' := by
  have Hh := Lib.hid h
  obtain ⟨p, cap, rfl, ⟨hx1, hx⟩, hxc⟩ := h
  unfold maxLen at hx
  go_enter Tryz.func25, Tryz.ntmps25
  by_cases hN1 : N < 1
  · go_wp2_with fail
    go_ret
    exact ⟨ret_bool (ap_no1 (nm_no1 (by omega))).symm, Qt.refl _⟩
  by_cases hN4 : 4 < N
  · go_wp2_with fail
    go_ret
    exact ⟨ret_bool (ap_no2 (by omega)).symm, Qt.refl _⟩
  go_wp2_with fail
  refine (shiftsOk_any N _ y _ Hh.out).mono ?_
  rintro e w1 ⟨rfl, rfl⟩
  cases hs : shiftB N y with
  | false =>
    go_wp2_with fail
    go_ret
    exact ⟨ret_bool (ap_no1 (by rw [nm_shift (by omega) (by omega), hs])).symm, Qt.refl _⟩
  | true =>
  have hn : nmOk N y = true := by rw [nm_shift (by omega) (by omega), hs]
  obtain ⟨n, rfl, hn1, hn5, hyl, _⟩ := nm_facts hn
  have Hn := Lib.hid hn
  have Hyl := Lib.hid hyl
  have hle : n ≤ cap := by omega
  rw [hyl] at Hh hxc ⊢
  clear hn hyl hs
  go_wp2_with fail
  go_loopg [5, 6, 21] n (fun g s5 s6 s21 wr => ∃ k : Nat, k ≤ n ∧ g = n - k ∧ s21 = .int .i64 k ∧ Qt w wr ∧ Hid (∀ j, j < k → ¬ y.getD j 0 ∈ y.take j))
  case atStart => exact ⟨0, Nat.zero_le _, rfl, rfl, Qt.refl _, Lib.hid fun j hj => absurd hj (Nat.not_lt_zero _)⟩
  case round =>
    obtain ⟨k, hk, rfl, rfl, hq, hp⟩ := hrel
    by_cases hlt : k < n
    · obtain ⟨b, off, rfl, hc⟩ := hxc (by omega)
      obtain ⟨x, hx'⟩ : ∃ x, x = y.getD k 0 := ⟨_, rfl⟩
      have c1 := hq.cell (hc k hlt)
      unfold iv at c1
      rw [← hx'] at c1
      have Hx := Lib.hid hx'
      have hk1 : (k : Int) < (n : Int) := by omega
      have hk2 : (k : Int) ≤ (cap : Int) := by omega
      have HI := Lib.hid (show Ints wr (.slice (some ⟨b, off, none⟩) k cap) (y.take k) by
        have := Hh.out
        rw [← Hyl.out] at this
        exact (ints_takeP2 this (by rw [Hyl.out]; omega)).qt hq)
      obtain ⟨bb, hbb⟩ : ∃ bb, bb = decide (x ∈ y.take k) := ⟨_, rfl⟩
      have Hbb := Lib.hid hbb
      clear hx' hc hxc hbb
      go_wp2_with fail
      refine (contains_any _ (y.take k) x _ HI.out).mono ?_
      rintro e w2 ⟨rfl, hq2⟩
      rw [← Hbb.out]
      have Hq2 := Lib.hid (hq.trans hq2)
      clear hq2 hq
      cases bb with
      | true =>
        go_wp2_with fail
        go_ret
        exact ⟨ret_bool (ap_no3 (k := k) (by rw [Hyl.out]; exact hlt) (by rw [← Hx.out]; exact of_decide_eq_true Hbb.out.symm)).symm, Hq2.out⟩
      | false =>
        go_wp2_with fail
        go_roundg (n - (k + 1))
        case measure => omega
        case rel =>
          refine ⟨k + 1, by omega, rfl, by go_num, Hq2.out, Lib.hid fun j hj => ?_⟩
          by_cases e : j = k
          · subst e; rw [← Hx.out]; exact of_decide_eq_false Hbb.out.symm
          · exact hp.out j (by omega)
    · have hk1 : ¬ (k : Int) < (n : Int) := by omega
      go_wp2_with fail
      go_ret
      exact ⟨ret_bool (ap_yes Hn.out (by omega) fun j hj => hp.out j (by have := Hyl.out; omega)).symm, hq⟩

end Go.Proofs.YtnpghgpejnlebaaGreat

namespace Go.Proofs.YtnpghgpejnlebaaGreat
set_option linter.all false
set_option maxRecDepth 100000
open Go.RowKit

def locOk (vs ws ys : List Int) : Bool := permOk vs && permOk ws && decide (vs.length = ws.length) && nmOk vs.length ys
/-- what Localize says -/
def locL (vs ws ys : List Int) : Int × Bool := if locOk vs ws ys then (wrap64 (Ev (dblP vs ys) (mono (pickL ws ys))), true) else (0, false)
def RetIB (w : World) (r : Int × Bool) (e : Ending) (w' : World) : Prop := e = .returned (.tuple #[.int .i64 r.1, .bool r.2]) ∧ Below w.heap.size w w'
theorem locL_no {vs ws ys : List Int} (h : locOk vs ws ys = false) : locL vs ws ys = (0, false) := by unfold locL; rw [h]; rfl
theorem locL_yes {vs ws ys : List Int} (h : locOk vs ws ys = true) : locL vs ws ys = (wrap64 (Ev (dblP vs ys) (mono (pickL ws ys))), true) := by unfold locL; rw [h]; rfl
structure LocIs (n : Nat) (vs ws ys : List Int) : Prop where
  v : P5 n vs
  w : P5 n ws
  y : ys.length = n
  one : 1 ≤ n
  y9 : ∀ x ∈ ys, -9 ≤ x ∧ x ≤ 9
theorem locIs_of {vs ws ys : List Int} (h1 : permOk vs = true) (h2 : permOk ws = true) (h3 : vs.length = ws.length) (h4 : nmOk vs.length ys = true) : LocIs vs.length vs ws ys := by
  obtain ⟨n, e, hn1, hn5, hyl, hy9⟩ := nm_facts h4
  have e := Int.ofNat.inj e
  rw [← e] at hn1 hn5 hyl
  exact ⟨⟨h1, rfl, hn5⟩, ⟨h2, h3.symm, hn5⟩, hyl, hn1, all_of_getD fun k hk => hy9 k (by omega)⟩
theorem ret_ib {a : Int} {b : Bool} {r : Int × Bool} (h : (a, b) = r) : Ending.returned (.tuple #[.int .i64 a, .bool b]) = .returned (.tuple #[.int .i64 r.1, .bool r.2]) := by rw [← h]

theorem nm_no {n : Nat} {ys : List Int} (h : ¬ n ≤ 5) : nmOk n ys = false := by unfold nmOk; rw [decide_eq_false (show ¬ (n : Int) ≤ 5 by omega)]; simp

end Go.Proofs.YtnpghgpejnlebaaGreat

namespace Go.Proofs.YtnpghgpejnlebaaGreat
set_option linter.all false
open Go.RowKit

theorem blk5 {w : World} {b : Nat} {x0 x1 x2 x3 x4 : Value} {T : TypeId} (h : w.heap[b]? = some (.cells #[x0, x1, x2, x3, x4] T (0, 0))) :
    w.cell? ⟨b, 0, none⟩ = some x0 ∧ w.cell? ⟨b, 1, none⟩ = some x1 ∧ w.cell? ⟨b, 2, none⟩ = some x2 ∧ w.cell? ⟨b, 3, none⟩ = some x3 ∧ w.cell? ⟨b, 4, none⟩ = some x4 ∧ (∀ j, w.frozen? ⟨b, j, none⟩ = false) ∧ b < w.heap.size :=
  ⟨cell_of_blk h rfl, cell_of_blk h rfl, cell_of_blk h rfl, cell_of_blk h rfl, cell_of_blk h rfl, free_of_blk h, blk_lt h⟩
theorem ints_nil (w : World) (p : Option Addr) : Ints w (.slice p 0 0) [] := ⟨p, 0, rfl, ⟨Nat.le_refl _, Nat.zero_le _⟩, fun h => absurd h (by simp)⟩
theorem own_nil (T : TypeId) (w : World) (lo hi : Nat) : OwnI T w lo hi (.slice none 0 0) [] := ⟨World.ownsRow_nil _ _ _ _, fun k hk => by simp [Value.ownBlock] at hk⟩

end Go.Proofs.YtnpghgpejnlebaaGreat

namespace Go.Proofs.YtnpghgpejnlebaaGreat
set_option linter.all false
open Go.RowKit

set_option maxRecDepth 100000 in
set_option maxHeartbeats 2000000 in
theorem implPerms_go (n : Nat) (hn : n ≤ 5) (f : Nat) : ∀ (ch : List Int) (v : Value) (lo hi : Nat) (w : World), OwnI 3 w lo hi v ch → hi ≤ w.heap.size → lo ≤ w.heap.size → ch.length + f = n →
    Calls Tryz.prog 82 #[.int .i64 n, v] w fun e w' => ∃ u, e = .returned u ∧ OwnII 24 3 w' lo w'.heap.size u (allL n f ch) ∧ Below w.heap.size w w' := by
  induction f with
  | zero =>
    intro ch v lo hi w h hhi hlo hf
    have H := Lib.hid h
    obtain ⟨p, k, rfl, _, _⟩ := h.shape
    clear h
    obtain rfl : n = ch.length := by omega
    clear hf
    go_enter Tryz.func82, Tryz.ntmps82
    go_wp2_with fail
    go_ret
    refine ⟨_, rfl, ⟨fun _ => .slice p ch.length k, ?_, fun i hi => ?_, fun i j hij hj => ?_⟩, below_alloc _ _⟩
    · refine ⟨[.slice p ch.length k], Own.of_rowIs (g := w.heap.size) (n := 1) (cap := 1) (F := fun _ => .slice p ch.length k) ⟨#[.slice p ch.length k], heap_alloc_top _ _, rfl, fun i hi => ?_⟩ hlo (by simp) (Nat.le_refl _) (by unfold maxLen; omega) rfl (fun j hj => ?_), fun j hj => ?_⟩
      · obtain rfl : i = 0 := by omega
        rfl
      · obtain rfl : j = 0 := by omega
        rfl
      · obtain rfl : j = 0 := by simpa [allL] using hj
        rfl
    · obtain rfl : i = 0 := by simpa [allL] using hi
      exact ((H.out.below (below_alloc _ _))).mono (Nat.le_refl _) (by simp; omega)
    · have : j = 0 := by simpa [allL] using hj
      omega
  | succ f ih =>
    intro ch v lo hi w h hhi hlo hf
    have H := Lib.hid h
    have Ih := Lib.hid ih
    obtain ⟨p, k, rfl, _, _⟩ := h.shape
    have hne : (((ch.length : Int)) == (n : Int)) = false := by simp; omega
    clear h ih
    go_enter Tryz.func82, Tryz.ntmps82
    go_wp2_with fail
    go_loopg [5, 15] n (fun g s5 i wr => ∃ (x : Nat) (rows : List (List Int)), x ≤ n ∧ g = n - x ∧ i = .int .i64 x ∧ Below w.heap.size w wr ∧
      Hid (rows = (List.range x).flatMap fun (y : Nat) => if (y : Int) ∈ ch then [] else allL n f (ch ++ [(y : Int)])) ∧ Hid (OwnII 24 3 wr w.heap.size wr.heap.size s5 rows))
    case atStart => exact ⟨0, [], Nat.zero_le _, rfl, rfl, below_alloc _ _, rfl, ⟨fun _ => undef, (OwnF.made0 w _ _).mono (Nat.le_refl _) (by simp), fun i hi => absurd hi (by simp), fun i j _ hj => absurd hj (by simp)⟩⟩
    case round =>
      obtain ⟨x, rows, hx, rfl, rfl, hb, hr, ho⟩ := hrel
      obtain ⟨wo, rfl⟩ : ∃ x : World, x = wr := ⟨_, rfl⟩
      obtain ⟨p3, k3, rfl, _, _⟩ := ho.out.shape
      by_cases hlt : x < n
      · have hci : Ints wo (.slice p ch.length k) ch := (H.out.below hb).ints
        go_wp2_with fail
        refine (contains_any _ ch x _ hci).mono ?_
        rintro e w1 ⟨rfl, hq⟩
        by_cases hc : (x : Int) ∈ ch
        · rw [decide_eq_true hc]
          have hr2 : rows = (List.range (x + 1)).flatMap fun (y : Nat) => if (y : Int) ∈ ch then [] else allL n f (ch ++ [(y : Int)]) := by
            rw [flatMap_snoc, if_pos hc, List.append_nil]
            exact hr.out
          have Hr2 := Lib.hid hr2
          have Ho2 := Lib.hid (ho.out.below (hq.below _))
          have hqs := hq.size
          have Hb2 := Lib.hid (hb.trans (hq.below _))
          clear hr2 hci hc hq hr ho
          go_wp2
          go_roundg (n - (x + 1))
          case measure => omega
          case rel => exact ⟨x + 1, rows, by omega, rfl, by go_num, Hb2.out, Hr2.out, by rw [hqs]; exact Ho2.out⟩
        · rw [decide_eq_false hc]
          have hr2 : rows ++ allL n f (ch ++ [(x : Int)]) = (List.range (x + 1)).flatMap fun (y : Nat) => if (y : Int) ∈ ch then [] else allL n f (ch ++ [(y : Int)]) := by
            rw [flatMap_snoc, if_neg hc, hr.out]
          have hpow : n ^ f ≤ 3125 := Nat.le_trans (Nat.pow_le_pow_left hn f) (Nat.pow_le_pow_right (by decide) (show f ≤ 5 by omega))
          have hrl : rows.length ≤ x * n ^ f := by
            rw [hr.out]
            refine flatMap_len _ _ (fun y => ?_) x
            split
            · simp
            · exact allL_len _ _ _
          have hrl2 : rows.length + (allL n f (ch ++ [(x : Int)])).length ≤ 18750 := by
            have h1 : x * n ^ f ≤ 5 * 3125 := Nat.mul_le_mul (by omega) hpow
            have h2 := allL_len n f (ch ++ [(x : Int)])
            omega
          have Hr2 := Lib.hid hr2
          have Hbnd := Lib.hid hrl2
          have Hq := Lib.hid hq
          have Hci := Lib.hid (hci.qt hq)
          have hqs := hq.size
          have hs1 := hb.size
          have hc5 : ch.length ≤ 5 := by omega
          have Hc1 := Lib.hid (show ch.length + 1 ≤ maxLen by unfold maxLen; omega)
          have Hc2 := Lib.hid (show (ch.length + 1) * 8 ≤ 140737488355328 by omega)
          have Hlen := Lib.hid (show (ch ++ [(x : Int)]).length + f = n by simp; omega)
          clear hr2 hrl2 hrl hpow hci hc hq hr
          go_wp2_with fail
          refine (clone_any _ ch _ Hci.out (by omega)).mono ?_
          rintro e w2 ⟨u, rfl, ho2, hb2⟩
          obtain ⟨p2, k2, rfl, _, _⟩ := ho2.shape
          have Ho2 := Lib.hid ho2
          have hs2 := hb2.size
          go_wp2_with (at_builtin; go_must (refine wpList_append_F rfl (.tmp 25) (.tmp 27) 24 rfl 3 (.int .i64 0) 8 Tryz.underlying24 info_int rfl w1.heap.size w2.heap.size _ ch.length (iv ch) rfl ((Ho2.out.below (below_alloc _ _)).fn) (by simp; omega) (by simp) _ _ _ rfl (rd_one _ _ _ rfl) (fun j _ => rfl) Hc1.out Hc2.out ?_; intro v' w3 ho3 hg3))
          have ho4 := OwnI.snoc1 ho3
          have hs3 := hg3.size
          simp only [size_alloc] at hs3
          have hb3 : Below wo.heap.size wo w3 := (Hq.out.below _).trans ((hb2.mono (by omega)).trans (((below_alloc w2 _).mono (by omega)).trans (grownBy_below hg3 Ho2.out.fn.blocks (by omega) (by simp; omega))))
          obtain ⟨p4, k4, rfl, _, _⟩ := ho4.shape
          refine (Ih.out (ch ++ [(x : Int)]) _ w1.heap.size w3.heap.size w3 ho4 (Nat.le_refl _) (by omega) Hlen.out).mono ?_
          rintro e w5 ⟨u5, rfl, ho5, hb5⟩
          generalize allL n f (ch ++ [(x : Int)]) = new at *
          have hb6 : Below wo.heap.size wo w5 := hb3.trans (hb5.mono (by omega))
          have hs5 := hb5.size
          obtain ⟨p5, k5, rfl, _, _⟩ := ho5.shape
          obtain ⟨F, g1, g2, g3⟩ := ho
          obtain ⟨G, j1, j2, j3⟩ := ho5
          have G1 := Lib.hid (g1.below hb6)
          have G2 := Lib.hid (fun i hi => (g2 i hi).below hb6)
          have G3 := Lib.hid g3
          have J1 := Lib.hid j1
          have J2 := Lib.hid j2
          have J3 := Lib.hid j3
          have hone : ∀ j, j < new.length → (G j).oneCell' = true := fun j hj => by
            obtain ⟨p, c, e, _⟩ := (j2 j hj).shape
            rw [e]; rfl
          have Hone := Lib.hid hone
          have hbnd := Hbnd.out
          have Hd1 := Lib.hid (show rows.length + new.length ≤ maxLen by unfold maxLen; omega)
          have Hd2 := Lib.hid (show (rows.length + new.length) * 24 ≤ 140737488355328 by omega)
          have Hb6 := Lib.hid hb6
          clear g1 g2 g3 j1 j2 j3 hone hb6 hb5 hb3 ho4 ho3 hg3 ho2 hb2 hbnd
          go_wp2_with (at_builtin; go_must (refine wpList_append_F rfl (.tmp 22) (.tmp 29) 57 rfl 24 (.slice none 0 0) 24 Tryz.underlying57 info_sl rfl w.heap.size wo.heap.size _ rows.length F rfl G1.out (by omega) (by omega) _ _ _ rfl J1.out.rd Hone.out Hd1.out Hd2.out ?_; intro v' w' ho' hg'))
          have hsw' := hg'.size
          have hblow : Below w.heap.size wo w' := (Hb6.out.mono hs1).trans (grownBy_below hg' G1.out.blocks (Nat.le_refl _) (by omega))
          go_roundg (n - (x + 1))
          case measure => omega
          case rel =>
            refine ⟨x + 1, rows ++ new, by omega, rfl, by go_num, hb.trans hblow, Hr2.out, ?_⟩
            exact OwnII.join G1.out G2.out G3.out (fun i hi => (J2.out i hi).mono (by omega) (Nat.le_refl _)) J3.out hs1 (by omega) (by decide) hg' (by omega) ho'
      · go_wp2_with fail
        go_ret
        obtain rfl : x = n := by omega
        have e : allL x (f + 1) ch = rows := by rw [hr.out]; rfl
        rw [e]
        exact ⟨_, rfl, ho.out.mono hlo (Nat.le_refl _), hb⟩

set_option maxRecDepth 100000 in
theorem implAllPerms_any (N : Int) (w : World) :
    Calls Tryz.prog 67 #[.int .i64 N] w (RetII w (allPermsL N)) := by
  by_cases h : 1 ≤ N ∧ N ≤ 5
  · obtain ⟨n, rfl⟩ := Int.eq_ofNat_of_zero_le (show (0 : Int) ≤ N by omega)
    have e : allPermsL n = allL n n [] := by rw [allL_perms n (by omega) (by omega)]; simp [allPermsL, h]
    rw [e]
    have H1 : decide ((n : Int) < 1) = false := by simp; omega
    have H2 : decide ((5 : Int) < n) = false := by simp; omega
    clear e
    go_enter Tryz.func67, Tryz.ntmps67
    go_wp2_with fail
    refine (implPerms_go n (by omega) n [] _ w.heap.size w.heap.size _ (own_nil _ _ _ _) (Nat.le_refl _) (Nat.le_refl _) (by simp)).mono ?_
    rintro e w2 ⟨u, rfl, ho, hb⟩
    go_wp2_with fail
    go_ret
    exact ⟨_, rfl, ho, hb⟩
  · have e : allPermsL N = [] := by simp [allPermsL, h]
    rw [e]
    clear e
    by_cases h1 : N < 1
    · clear h
      go_enter Tryz.func67, Tryz.ntmps67
      go_wp2_with fail
      go_ret
      exact ⟨_, rfl, ownII_nil _ _ _, Below.refl _ _⟩
    · have h2 : 5 < N := by omega
      clear h
      go_enter Tryz.func67, Tryz.ntmps67
      go_wp2_with fail
      go_ret
      exact ⟨_, rfl, ownII_nil _ _ _, Below.refl _ _⟩

end Go.Proofs.YtnpghgpejnlebaaGreat

namespace Go.Proofs.YtnpghgpejnlebaaGreat
set_option linter.all false
open Go.RowKit

/-- the value at one permutation -/
def tabV (vs ys ws : List Int) : Int := wrap64 (Ev (dblP vs ys) (mono (pickL ws ys)))
def tabL (vs ys : List Int) : List Int := (permsL vs.length).map (tabV vs ys)
theorem tabL_length (vs ys : List Int) : (tabL vs ys).length = fact vs.length := by simp [tabL, permsL]
theorem permsL_length (n : Nat) : (permsL n).length = fact n := by simp [permsL]
def prmB (n : Nat) : Bool := (permsL n).all fun w => permOk w && decide (w.length = n)
set_option maxRecDepth 100000 in
theorem prm_all : ∀ n : Fin 6, 1 ≤ (n : Nat) → prmB n = true := by decide +kernel
theorem prm_p5 {n : Nat} (h1 : 1 ≤ n) (h5 : n ≤ 5) {x : Nat} (hx : x < fact n) : P5 n ((permsL n).getD x []) := by
  have := prm_all ⟨n, by omega⟩ h1
  unfold prmB at this
  rw [List.all_eq_true] at this
  have hm : (permsL n).getD x [] ∈ permsL n := by
    rw [List.getD_eq_getElem?_getD, List.getElem?_eq_getElem (by rw [permsL_length]; exact hx)]
    exact List.getElem_mem _
  have := this _ hm
  rw [Bool.and_eq_true, decide_eq_true_eq] at this
  exact ⟨this.1, this.2, h5⟩
theorem tab_getD {vs ys : List Int} {n x : Nat} (hn : vs.length = n) (hx : x < fact n) : (tabL vs ys).getD x 0 = tabV vs ys ((permsL n).getD x []) := by
  unfold tabL
  rw [hn, List.getD_eq_getElem?_getD, List.getElem?_map, List.getD_eq_getElem?_getD, List.getElem?_eq_getElem (by rw [permsL_length]; exact hx)]
  rfl
theorem tab_take {vs ys : List Int} {n x : Nat} (hn : vs.length = n) (hx : x < fact n) : (tabL vs ys).take (x + 1) = (tabL vs ys).take x ++ [tabV vs ys ((permsL n).getD x [])] := by
  have hl : x < (tabL vs ys).length := by rw [tabL_length, hn]; exact hx
  rw [← tab_getD hn hx, getD_lt hl, List.take_append_getElem]
theorem fact4 {n : Nat} (h1 : 1 ≤ n) (h5 : n ≤ 5) : 1 ≤ fact n ∧ fact n ≤ 120 := by
  have : ∀ n : Fin 6, 1 ≤ fact n ∧ fact n ≤ 120 := by decide
  exact this ⟨n, by omega⟩

set_option maxRecDepth 100000 in
set_option maxHeartbeats 8000000 in
/-- the loop of the program's LocalTable -/
theorem implTable_any (n : Nat) (vs ys : List Int) (pv py : Value) (w : World) (hp : P5 n vs) (h1 : 1 ≤ n) (h4 : n ≤ 4) (hyl : ys.length = n) (hy9 : ∀ x ∈ ys, -9 ≤ x ∧ x ≤ 9) (hv : Ints w pv vs) (hy : Ints w py ys) :
    Calls Tryz.prog 54 #[pv, py] w fun e w' => ∃ u, e = .returned (.tuple #[u, .bool true]) ∧ OwnI 3 w' w.heap.size w'.heap.size u (tabL vs ys) ∧ Below w.heap.size w w' := by
  have HV := Lib.hid hv
  have HY := Lib.hid hy
  have Hp := Lib.hid hp
  have Hvl := Lib.hid hp.len
  have Hyl := Lib.hid hyl
  have Hy9 := Lib.hid hy9
  have h5 := hp.le
  obtain ⟨F, hF⟩ : ∃ F, F = fact n := ⟨_, rfl⟩
  have hf := fact4 h1 h5
  rw [← hF] at hf
  have HF := Lib.hid hF
  obtain ⟨T, hT⟩ : ∃ T, T = tabL vs ys := ⟨_, rfl⟩
  have HT := Lib.hid hT
  have HTl := Lib.hid (show T.length = F by rw [hT, tabL_length, hp.len, hF])
  rw [← hT]
  have Hsh := Lib.hid (show shiftB (n : Int) ys = true by
    unfold shiftB
    rw [hyl, decide_eq_true rfl, decide_eq_true hy9]; rfl)
  obtain ⟨av, cv, rfl, ⟨hv1, hv2⟩, _⟩ := hv
  obtain ⟨ay, cy, rfl, ⟨hy1, hy2⟩, _⟩ := hy
  unfold maxLen at hv2 hy2
  rw [Hvl.out] at HV hv1 ⊢
  rw [hyl] at HY hy1 ⊢
  clear hp hyl hy9 hF hT
  have hni : ¬ (4 : Int) < (n : Int) := by omega
  go_enter Tryz.func54, Tryz.ntmps54
  go_wp2_with fail
  refine (implIsPerm_b _ vs true Hp.out.ok _ HV.out).mono ?_
  rintro e w1 ⟨rfl, hb⟩
  have HB1 := Lib.hid hb
  clear hb
  go_wp2_with fail
  refine (shiftsOk_any _ _ ys _ (HY.out.below HB1.out)).mono ?_
  rintro e w1' ⟨rfl, rfl⟩
  rw [Hsh.out]
  go_wp2_with fail
  refine (double_any _ _ vs ys _ (HV.out.below HB1.out) (HY.out.below HB1.out) (by rw [Hvl.out]; exact h1) (by rw [Hvl.out]; exact h5) (by rw [Hvl.out]; exact Hyl.out) Hy9.out Hp.out.low).mono ?_
  rintro e w3 ⟨u3, rfl, hp3, hb3⟩
  have HP := Lib.hid hp3
  obtain ⟨bf, Df, rfl, _, _⟩ := hp3
  have HB3 := Lib.hid (HB1.out.trans (hb3.mono HB1.out.size))
  have hs13 := HB3.out.size
  clear hb3
  obtain ⟨B0, hB0⟩ : ∃ B, B = w3.heap.size := ⟨_, rfl⟩
  have HB0 := Lib.hid hB0
  rw [← hB0] at hs13
  clear hB0
  go_wp2_with fail
  refine (implAllPerms_any (n : Int) _).mono ?_
  have hap : allPermsL (n : Int) = permsL n := by unfold allPermsL; rw [if_pos (by omega), Int.toNat_natCast]
  rw [hap]
  clear hap
  rintro e w2 ⟨u2, rfl, ho2, hb2⟩
  have hRl : (permsL n).length = F := by rw [permsL_length, HF.out]
  have HRl := Lib.hid hRl
  have e1 : (w3.alloc (.cells #[] 3)).heap.size = B0 + 1 := by rw [size_alloc, HB0.out]
  obtain ⟨p2, k2, rfl, hk2, hk22⟩ := ho2.shape
  rw [hRl] at hk2 ⊢
  unfold maxLen at hk22
  have hs2 : B0 + 1 ≤ w2.heap.size := by rw [← e1]; exact hb2.size
  rw [e1] at ho2
  rw [hRl] at ho2
  have Hrows := Lib.hid ho2
  have Hb2 := Lib.hid (show Below B0 w3 w2 from by rw [HB0.out]; exact (below_alloc w3 _).trans (hb2.mono (by simp)))
  have Ho0 := Lib.hid (show OwnI 3 w2 B0 w2.heap.size (.slice (some ⟨w3.heap.size, 0, none⟩) 0 0) (T.take 0) from by
    rw [List.take_zero]
    have := (OwnF.ints (xs := []) (OwnF.made0 w3 3 (iv []))).below hb2
    rw [← HB0.out] at this ⊢
    exact this.mono (Nat.le_refl _) (by omega))
  clear hRl ho2 hb2 e1
  obtain ⟨M, hM⟩ : ∃ M, M = w2.heap.size := ⟨_, rfl⟩
  rw [← hM] at hs2
  have HM := Lib.hid hM
  clear hM
  go_wp2_with fail
  go_loopg [7, 33] F (fun g s7 s33 wr => ∃ k : Nat, k ≤ F ∧ g = F - k ∧ s33 = .int .i64 (k : Int) ∧ Hid (Below B0 w3 wr) ∧ Hid (M ≤ wr.heap.size) ∧ Hid (OwnII 24 3 wr (B0 + 1) M (.slice p2 F k2) (permsL n)) ∧ Hid (OwnI 3 wr B0 wr.heap.size s7 (T.take k)) ∧ Hid (∀ b, s7.ownBlock = some b → b = B0 ∨ M ≤ b))
  case atStart =>
    refine ⟨0, Nat.zero_le _, rfl, rfl, Hb2, Lib.hid (Nat.le_of_eq HM.out), by rw [HM.out]; exact Hrows, Ho0, Lib.hid fun b hb => .inl ?_⟩
    rw [HB0.out]; cases hb; rfl
  case round =>
    obtain ⟨k, hk, rfl, rfl, hb, hM2, hrows, ho, hbk⟩ := hrel
    obtain ⟨wx, rfl⟩ : ∃ x : World, x = wr := ⟨_, rfl⟩
    have Hb := Lib.hid hb.out
    have Hrw := Lib.hid hrows.out
    have Ho := Lib.hid ho.out
    have Hbk := Lib.hid hbk.out
    have hMx := hM2.out
    have htl : (T.take k).length = k := by rw [List.length_take, HTl.out]; omega
    obtain ⟨p5, k5, rfl, hk5, hk55⟩ := ho.out.shape
    rw [htl] at hk5 ⊢
    have Htl := Lib.hid htl
    have Hbw := Lib.hid (HB3.out.trans (Hb.out.mono hs13))
    clear hb hrows ho hbk hM2 htl
    by_cases hlt : k < F
    · have hki : (k : Int) < (F : Int) := by omega
      have HI : Hid (P5 n ((permsL n).getD k [])) := prm_p5 h1 h5 (by rw [← HF.out]; exact hlt)
      obtain ⟨f, hf1, hf2⟩ := Hrw.out.rd
      rw [HRl.out] at hf1 hf2
      have hr := hf2 k hlt
      have hr' := hr
      obtain ⟨pr, kr, er, ⟨hkr, hkr2⟩, _⟩ := hr'
      obtain ⟨row, hrow⟩ : ∃ row, row = (permsL n).getD k [] := ⟨_, rfl⟩
      rw [← hrow] at hr HI er
      rw [HI.out.len] at er
      rw [er] at hr
      have Hr := Lib.hid hr
      have Hrow := Lib.hid hrow
      obtain ⟨_, _, e0, _, hlc0⟩ := hf1
      injection e0 with e1 e2 e3
      subst e1 e3
      obtain ⟨bl, ol, rfl, hlc⟩ := hlc0 (by omega)
      have d0 := hlc k hlt
      rw [er] at d0
      clear hf2 hr er hrow hlc0 hlc e2 hkr hkr2
      have Htk := Lib.hid (tab_take (ys := ys) Hvl.out (show k < fact n by rw [← HF.out]; exact hlt))
      go_wp2_with fail
      refine (valueAt_any _ _ _ 10 _ (dblP vs ys) row ys _ (HP.out.below (HB0.out ▸ Hb.out)) (by omega) Hr.out (HY.out.below Hbw.out) (by rw [HI.out.len]; omega) (fun i hi => by rw [HI.out.len] at hi; rw [Hyl.out]; exact HI.out.rng hi)).mono ?_
      rintro e w4 ⟨rfl, hb4⟩
      obtain ⟨R, hR⟩ : ∃ R, R = wrap64 (Ev (dblP vs ys) (mono (pickL row ys))) := ⟨_, rfl⟩
      have HR := Lib.hid hR
      rw [← hR]
      have Hb4 := Lib.hid hb4
      have hs4 := hb4.size
      have h0x : B0 ≤ wx.heap.size := by omega
      have Ho4 := Lib.hid (Ho.out.below hb4)
      have Hrw4 := Lib.hid (Hrw.out.below hb4)
      have hbd1 : k + 1 ≤ maxLen := by unfold maxLen; omega
      have hbd2 : (k + 1) * 8 ≤ 140737488355328 := by omega
      clear hb4 hR
      have hofn := Ho4.out.fn
      rw [Htl.out] at hofn
      go_wp2_with (at_builtin; go_must (refine wpList_append_G rfl (.tmp 37) (.tmp 42) 24 rfl 3 (.int .i64 0) 8 Tryz.underlying24 info_int rfl B0 wx.heap.size _ k (iv (T.take k)) rfl (hofn.below (below_alloc w4 _)) (by rw [size_alloc]; omega) (by rw [size_alloc]; omega) _ 1 _ rfl (rd_one _ _ _ rfl) (fun j _ => rfl) hbd1 hbd2 ?_; intro v5 w5 ho5 hg5 hw5))
      have hg6 : (w4.alloc (.cells #[.int .i64 R] 3)).grownBy w5 (Value.slice p5 k k5).ownBlock := hg5
      have hw6 : ∀ b, v5.ownBlock = some b → (Value.slice p5 k k5).ownBlock = some b ∨ w4.heap.size + 1 ≤ b := fun b hb => by have := hw5 b hb; rw [size_alloc] at this; exact this
      have hbk0 := Hbk.out
      rw [Htl.out] at hbk0
      have hs5 : w4.heap.size + 1 ≤ w5.heap.size := by have := hg6.size; rw [size_alloc] at this; exact this
      clear hg5 hw5
      go_wp2_with fail
      go_roundg (F - (k + 1))
      case measure => omega
      case rel =>
        refine ⟨k + 1, hlt, rfl, by go_num, Lib.hid ?_, Lib.hid (by omega), Lib.hid ?_, Lib.hid ?_, Lib.hid fun b hb => ?_⟩
        · exact ((Hb.out.trans (Hb4.out.mono h0x)).trans ((below_alloc w4 _).mono (by omega))).trans (grownBy_below hg6 hofn.blocks (Nat.le_refl _) (by rw [size_alloc]; omega))
        · exact (Hrw4.out.below (below_alloc w4 _)).grown hg6 fun b hb => by rcases hbk0 b hb with h | h <;> omega
        · have e : T.take (k + 1) = T.take k ++ [R] := by
            rw [HT.out, Htk.out, HR.out, ← Hrow.out]; rfl
          rw [e]
          exact OwnI.snoc1 (by rw [Htl.out]; exact ho5)
        · rcases hw6 b hb with h | h
          · exact hbk0 b h
          · exact .inr (by omega)
    · obtain rfl : k = F := by omega
      have hki : ¬ (k : Int) < (k : Int) := by omega
      have hof : OwnI 3 wx B0 wx.heap.size (.slice p5 k k5) T := by
        have := Ho.out
        rwa [Htl.out, List.take_of_length_le (by rw [HTl.out]; exact Nat.le_refl _)] at this
      have Hof := Lib.hid (hof.mono hs13 (Nat.le_refl _))
      clear hof
      go_wp2_with fail
      go_ret2
      exact ⟨_, rfl, Hof.out, Hbw.out⟩

end Go.Proofs.YtnpghgpejnlebaaGreat

namespace Go.Proofs.YtnpghgpejnlebaaGreat
set_option linter.all false
open Go.RowKit

def tblOk (vs ys : List Int) : Bool := permOk vs && nmOk vs.length ys && decide (vs.length ≤ 4)
def tblL (vs ys : List Int) : List Int × Bool := if tblOk vs ys then (tabL vs ys, true) else ([], false)
def RetLB (w : World) (r : List Int × Bool) (e : Ending) (w' : World) : Prop := ∃ u, e = .returned (.tuple #[u, .bool r.2]) ∧ OwnI 3 w' w.heap.size w'.heap.size u r.1 ∧ Below w.heap.size w w'
theorem tblL_no {vs ys : List Int} (h : tblOk vs ys = false) : tblL vs ys = ([], false) := by unfold tblL; rw [h]; rfl
theorem tblL_yes {vs ys : List Int} (h : tblOk vs ys = true) : tblL vs ys = (tabL vs ys, true) := by unfold tblL; rw [h]; rfl
theorem tblL_len (vs ys : List Int) : (tblL vs ys).1.length ≤ 120 := by
  unfold tblL
  split
  · rename_i h
    unfold tblOk at h
    simp only [Bool.and_eq_true, decide_eq_true_eq] at h
    have h1 := h.1.1
    simp only [permOk, decide_eq_true_eq] at h1
    show (tabL vs ys).length ≤ 120
    rw [tabL_length]
    exact (fact4 h1.1 (by omega)).2
  · simp
theorem retLB_no {w w' : World} {vs ys : List Int} (h : tblOk vs ys = false) (hb : Below w.heap.size w w') : RetLB w (tblL vs ys) (.returned (.tuple #[.slice none 0 0, .bool false])) w' := by
  rw [tblL_no h]
  exact ⟨_, rfl, own_nil _ _ _ _, hb⟩

set_option maxRecDepth 100000 in
set_option maxHeartbeats 4000000 in
theorem implLocalTable_any (pv py : Value) (vs ys : List Int) (w : World) (hv : Ints w pv vs) (hy : Ints w py ys) :
    Calls Tryz.prog 54 #[pv, py] w (RetLB w (tblL vs ys)) := by
  cases hok : tblOk vs ys with
  | true =>
    have hp := hok
    unfold tblOk at hp
    simp only [Bool.and_eq_true, decide_eq_true_eq] at hp
    have HL := locIs_of hp.1.1 hp.1.1 rfl hp.1.2
    rw [tblL_yes hok]
    exact implTable_any vs.length vs ys pv py w HL.v HL.one hp.2 HL.y HL.y9 hv hy
  | false =>
  have HV := Lib.hid hv
  have HY := Lib.hid hy
  obtain ⟨av, cv, rfl, ⟨hv1, hv2⟩, _⟩ := hv
  obtain ⟨ay, cy, rfl, ⟨hy1, hy2⟩, _⟩ := hy
  unfold maxLen at hv2 hy2
  have No := Lib.hid fun w' (hb : Below w.heap.size w w') => retLB_no hok hb
  have Hok := Lib.hid hok
  clear hok
  go_enter Tryz.func54, Tryz.ntmps54
  cases h1 : permOk vs with
  | false =>
    have H1 := Lib.hid h1
    clear h1
    go_wp2_with fail
    refine (implIsPerm_b _ vs false H1.out _ HV.out).mono ?_
    rintro e w1 ⟨rfl, hb⟩
    go_wp2_with fail
    go_ret2
    exact No.out _ hb
  | true =>
  have H1 := Lib.hid h1
  clear h1
  by_cases h5 : vs.length ≤ 4
  · have h5i : ¬ (4 : Int) < (vs.length : Int) := by omega
    have hone : 1 ≤ vs.length := by have := H1.out; simp only [permOk, decide_eq_true_eq] at this; exact this.1
    have hsh : shiftB (vs.length : Int) ys = false := by
      have := Hok.out
      unfold tblOk at this
      rw [H1.out, decide_eq_true h5, nm_shift (by omega) (by omega)] at this
      simpa using this
    have Hsh := Lib.hid hsh
    clear hsh hone
    go_wp2_with fail
    refine (implIsPerm_b _ vs true H1.out _ HV.out).mono ?_
    rintro e w1 ⟨rfl, hb⟩
    have HB := Lib.hid hb
    clear hb
    go_wp2_with fail
    refine (shiftsOk_any _ _ ys _ (HY.out.below HB.out)).mono ?_
    rintro e w3 ⟨rfl, rfl⟩
    rw [Hsh.out]
    go_wp2_with fail
    go_ret2
    exact No.out _ HB.out
  · have h5i : (4 : Int) < (vs.length : Int) := by omega
    clear h5
    go_wp2_with fail
    refine (implIsPerm_b _ vs true H1.out _ HV.out).mono ?_
    rintro e w1 ⟨rfl, hb⟩
    go_wp2_with fail
    go_ret2
    exact No.out _ hb

end Go.Proofs.YtnpghgpejnlebaaGreat

namespace Go.Proofs.YtnpghgpejnlebaaGreat
set_option linter.all false
set_option maxRecDepth 100000
open Go.RowKit

/-- the x-th permutation, and its table -/
def pmA (n x : Nat) : List Int := (permsL n).getD x []
def tbA (n : Nat) (ys : List Int) (x : Nat) : List Int := tabL (pmA n x) ys
structure YOk (n : Nat) (ys : List Int) : Prop where
  one : 1 ≤ n
  four : n ≤ 4
  len : ys.length = n
  nine : ∀ x ∈ ys, -9 ≤ x ∧ x ≤ 9
  dst : DstY n ys
theorem yOk {n : Nat} {ys : List Int} (h : apOk (n : Int) ys = true) : YOk n ys := by
  simp only [apOk, nmOk, Bool.and_eq_true, decide_eq_true_eq] at h
  obtain ⟨⟨⟨⟨⟨a, b⟩, c⟩, d⟩, e⟩, f⟩ := h
  have hl : ys.length = n := by omega
  refine ⟨by omega, by omega, hl, d, fun i j hi hj hne he => ?_⟩
  rw [getD_lt (by omega), getD_lt (by omega)] at he
  have hp := List.pairwise_iff_getElem.1 f
  rcases Nat.lt_or_gt_of_ne hne with h | h
  · exact hp i j (by omega) (by omega) h he
  · exact hp j i (by omega) (by omega) h he.symm
theorem YOk.ap {n : Nat} {ys : List Int} (h : YOk n ys) : apOk (n : Int) ys = true := by
  have h1 := h.one
  have h2 := h.four
  have h3 := h.len
  simp only [apOk, nmOk, Bool.and_eq_true, decide_eq_true_eq]
  refine ⟨⟨⟨⟨⟨by omega, by omega⟩, by omega⟩, h.nine⟩, by omega⟩, ?_⟩
  rw [List.nodup_iff_pairwise_ne, List.pairwise_iff_getElem]
  intro i j hi hj hij he
  refine h.dst i j (by omega) (by omega) (by omega) ?_
  rw [getD_lt (by omega), getD_lt (by omega)]
  exact he
section
variable {n : Nat} {ys : List Int}
theorem pm_p5 (hy : YOk n ys) {x : Nat} (hx : x < fact n) : P5 n (pmA n x) := prm_p5 hy.one (by have := hy.four; omega) hx
theorem tb_length (hy : YOk n ys) {x : Nat} (hx : x < fact n) : (tbA n ys x).length = fact n := by unfold tbA; rw [tabL_length, (pm_p5 hy hx).len]
theorem wrap_of {a : Int} (h : a.natAbs ≤ 1000000000000000000) : wrap64 a = a := by unfold wrap64; omega
theorem tb_at (hy : YOk n ys) {x i : Nat} (hx : x < fact n) (hi : i < fact n) : (tbA n ys x).getD i 0 = FW n ys (pmA n x) (pmA n i) := by
  have hp := pm_p5 hy hx
  unfold tbA
  rw [tab_getD hp.len hi]
  have hb := FW_bound hy.len hy.one hy.four hy.nine hp (pm_p5 hy hi)
  unfold tabV
  have e : Ev (dblP (pmA n x) ys) (mono (pickL ((permsL n).getD i []) ys)) = FW n ys (pmA n x) (pmA n i) := by
    unfold FW EV dblP
    rw [hp.len]; rfl
  rw [e]
  exact wrap_of (by omega)
theorem tb_bound (hy : YOk n ys) {x i : Nat} (hx : x < fact n) (hi : i < fact n) : ((tbA n ys x).getD i 0).natAbs ≤ 1000000 := by
  rw [tb_at hy hx hi]
  exact FW_bound hy.len hy.one hy.four hy.nine (pm_p5 hy hx) (pm_p5 hy hi)
theorem tb_ne (hy : YOk n ys) {x : Nat} (hx : x < fact n) : (tbA n ys x).getD x 0 ≠ 0 := by
  rw [tb_at hy hx hx]
  exact FW_ne hy.len (pm_p5 hy hx) hy.dst
end

/-- so many times a table taken off -/
def subL (rest : List Int) (c : Int) (t : List Int) : List Int := (List.range rest.length).map fun i => rest.getD i 0 - c * t.getD i 0
theorem subL_length (rest : List Int) (c : Int) (t : List Int) : (subL rest c t).length = rest.length := by simp [subL]
theorem subL_getD {rest t : List Int} {c : Int} {i : Nat} (h : i < rest.length) : (subL rest c t).getD i 0 = rest.getD i 0 - c * t.getD i 0 := by simp [subL, List.getD_eq_getElem?_getD, h]
/-- how often a permutation goes in -/
def qoA (n : Nat) (ys rest : List Int) (x : Nat) : Int := (rest.getD x 0).tdiv ((tbA n ys x).getD x 0)
def badA (n : Nat) (ys rest : List Int) (x : Nat) : Prop := qoA n ys rest x * (tbA n ys x).getD x 0 ≠ rest.getD x 0 ∨ qoA n ys rest x < -1000000000 ∨ 1000000000 < qoA n ys rest x
instance (n : Nat) (ys rest : List Int) (x : Nat) : Decidable (badA n ys rest x) := by unfold badA; exact inferInstance
def exGo (n : Nat) (ys : List Int) : List Nat → List Int → List Cls → Option (List Cls)
  | [], _, out => some out
  | x :: l, rest, out =>
    if badA n ys rest x then none
    else if qoA n ys rest x = 0 then exGo n ys l rest out
    else exGo n ys l (subL rest (qoA n ys rest x) (tbA n ys x)) (out ++ [(trimL (pmA n x), qoA n ys rest x)])
/-- what ExpandLocal says of values that pass -/
def resE (o : Option (List Cls)) : List Cls × Bool := match o with | none => ([], false) | some out => (srtC out, true)
def expE (n : Nat) (vs ys : List Int) (ord : List Nat) : List Cls × Bool := resE (exGo n ys ord vs [])

/-- what is left is not great -/
def RestOk (n k : Nat) (rest : List Int) : Prop := rest.length = fact n ∧ ∀ i, i < fact n → (rest.getD i 0).natAbs ≤ 1000000000000 + k * 1000000000000000
theorem RestOk.mono {n k : Nat} {rest : List Int} (h : RestOk n k rest) : RestOk n (k + 1) rest := ⟨h.1, fun i hi => Nat.le_trans (h.2 i hi) (Nat.add_le_add_left (Nat.mul_le_mul_right _ (Nat.le_succ k)) _)⟩
theorem abs_mul2 {a b : Int} {A B : Nat} (h1 : a.natAbs ≤ A) (h2 : b.natAbs ≤ B) : (a * b).natAbs ≤ A * B := by rw [Int.natAbs_mul]; exact Nat.mul_le_mul h1 h2
theorem RestOk.sub {n k : Nat} {rest ys : List Int} (hy : YOk n ys) {x : Nat} (hx : x < fact n) {c : Int} (hc : c.natAbs ≤ 1000000000) (h : RestOk n k rest) : RestOk n (k + 1) (subL rest c (tbA n ys x)) := by
  refine ⟨by rw [subL_length]; exact h.1, fun i hi => ?_⟩
  rw [subL_getD (by rw [h.1]; exact hi)]
  have a := h.2 i hi
  have b := abs_mul2 hc (tb_bound hy hx hi)
  have e : (k + 1) * 1000000000000000 = k * 1000000000000000 + 1000000000 * 1000000 := Nat.succ_mul _ _
  rw [e]
  obtain ⟨X, hX⟩ : ∃ X, X = k * 1000000000000000 := ⟨_, rfl⟩
  rw [← hX] at a ⊢
  obtain ⟨Y, hY⟩ : ∃ Y, Y = 1000000000 * 1000000 := ⟨_, rfl⟩
  rw [← hY] at b ⊢
  clear hX hY e
  omega
theorem qo_good {n : Nat} {ys rest : List Int} {x : Nat} (h : ¬ badA n ys rest x) : qoA n ys rest x * (tbA n ys x).getD x 0 = rest.getD x 0 ∧ (qoA n ys rest x).natAbs ≤ 1000000000 := by
  unfold badA at h
  refine ⟨?_, by omega⟩
  by_cases e : qoA n ys rest x * (tbA n ys x).getD x 0 = rest.getD x 0
  · exact e
  · exact absurd (.inl e) h
theorem tdiv_abs (a b : Int) : (a.tdiv b).natAbs ≤ a.natAbs := by rw [Int.natAbs_tdiv]; exact Nat.div_le_self _ _
theorem tdiv_mul_abs (a b : Int) : (a.tdiv b * b).natAbs ≤ a.natAbs := by rw [Int.natAbs_mul, Int.natAbs_tdiv]; exact Nat.div_mul_le_self _ _
/-- .. and how it is asked by the remainder -/
theorem qo_mod {a b : Int} : a.tdiv b * b = a ↔ a.tmod b = 0 := by
  have := Int.mul_tdiv_add_tmod a b
  rw [Int.mul_comm] at this
  omega

/-- how the classes stand in what was done -/
def trimB (n : Nat) : Bool := decide (((List.range (fact n)).map fun x => trimL (pmA n x)).Nodup)
set_option maxRecDepth 100000 in
theorem trim_all : ∀ n : Fin 4, trimB (n.val + 1) = true := by decide +kernel
theorem trim_nodup {n : Nat} (h1 : 1 ≤ n) (h4 : n ≤ 4) : ((List.range (fact n)).map fun x => trimL (pmA n x)).Nodup := by
  have := trim_all ⟨n - 1, by omega⟩
  rw [show (⟨n - 1, by omega⟩ : Fin 4).val + 1 = n by simp; omega] at this
  exact of_decide_eq_true this
/-- classes out of some of the permutations that were done -/
def OutOk (n : Nat) (done : List Nat) (out : List Cls) : Prop := (out.map (·.1)).Sublist (done.map fun x => trimL (pmA n x))
theorem OutOk.skip {n : Nat} {done : List Nat} {out : List Cls} (h : OutOk n done out) (x : Nat) : OutOk n (done ++ [x]) out := by
  unfold OutOk at *
  rw [List.map_append]
  exact h.trans (List.sublist_append_left _ _)
theorem OutOk.snoc {n : Nat} {done : List Nat} {out : List Cls} (h : OutOk n done out) (x : Nat) (c : Int) : OutOk n (done ++ [x]) (out ++ [(trimL (pmA n x), c)]) := by
  unfold OutOk at *
  rw [List.map_append, List.map_append]
  exact h.append (List.Sublist.refl _)
theorem OutOk.nodup {n : Nat} (h1 : 1 ≤ n) (h4 : n ≤ 4) {done l : List Nat} {out : List Cls} (h : OutOk n done out) (hp : (done ++ l).Perm (List.range (fact n))) : (out.map (·.1)).Nodup := by
  refine List.Nodup.sublist h ?_
  have a : ((done ++ l).map fun x => trimL (pmA n x)).Nodup := (List.Perm.nodup_iff (hp.map _)).2 (trim_nodup h1 h4)
  rw [List.map_append] at a
  exact (List.nodup_append.1 a).1
theorem OutOk.length {n : Nat} {done l : List Nat} {out : List Cls} (h : OutOk n done out) (hp : (done ++ l).Perm (List.range (fact n))) : out.length ≤ fact n := by
  have a := h.length_le
  have b := hp.length_eq
  rw [List.length_map, List.length_map] at a
  rw [List.length_append, List.length_range] at b
  omega
theorem srtC_snoc (cs : List Cls) (c : Cls) : srtC (cs ++ [c]) = insC c (srtC cs) := by unfold srtC; rw [List.foldl_append]; rfl

end Go.Proofs.YtnpghgpejnlebaaGreat

namespace Go.Proofs.YtnpghgpejnlebaaGreat
set_option linter.all false
open Go.RowKit Go.Sort

variable {α : Type} [Inhabited α]
def swR (a b : Nat) : Nat → Array α → Array α
  | 0, d => d
  | k + 1, d => swp (swR a b k d) (a + k) (b + k)
theorem size_swR (a b : Nat) (d : Array α) : ∀ k, (swR a b k d).size = d.size
  | 0 => rfl
  | k + 1 => by rw [swR, size_swp, size_swR a b d k]
def rotA (m : Nat) : Nat → Nat → Nat → Array α → Array α
  | 0, _, _, d => d
  | f + 1, i, j, d => if i = j then swR (m - i) m i d else if j < i then rotA m f (i - j) j (swR (m - i) m j d) else rotA m f i (j - i) (swR (m - i) (m + j - i) i d)
theorem size_rotA (m : Nat) : ∀ (f i j : Nat) (d : Array α), (rotA m f i j d).size = d.size
  | 0, _, _, _ => rfl
  | f + 1, i, j, d => by
    rw [rotA]
    split
    · exact size_swR _ _ _ _
    · split
      · rw [size_rotA m f, size_swR]
      · rw [size_rotA m f, size_swR]
/-- the place that a search by halves finds -/
def bsA (p : Nat → Bool) : Nat → Nat → Nat → Nat
  | 0, i, _ => i
  | f + 1, i, j => if i < j then (if p ((i + j) / 2) then bsA p f ((i + j) / 2 + 1) j else bsA p f i ((i + j) / 2)) else i
theorem bsA_rng (p : Nat → Bool) : ∀ (f i j : Nat), i ≤ j → i ≤ bsA p f i j ∧ bsA p f i j ≤ j
  | 0, i, j, h => ⟨Nat.le_refl _, h⟩
  | f + 1, i, j, h => by
    rw [bsA]
    split
    · split
      · have := bsA_rng p f ((i + j) / 2 + 1) j (by omega); omega
      · have := bsA_rng p f i ((i + j) / 2) (by omega); omega
    · omega
theorem bsA_end (p : Nat → Bool) : ∀ (f i j : Nat), ¬ i < j → bsA p f i j = i
  | 0, _, _, _ => rfl
  | f + 1, i, j, h => by rw [bsA, if_neg h]
theorem bsA_up {p : Nat → Bool} {f i j : Nat} (hf : j - i ≤ f) (h : i < j) (hp : p ((i + j) / 2) = true) : bsA p f i j = bsA p (f - 1) ((i + j) / 2 + 1) j := by
  obtain ⟨t, rfl⟩ : ∃ t, f = t + 1 := ⟨f - 1, by omega⟩
  rw [bsA, if_pos h, if_pos hp]; rfl
theorem bsA_dn {p : Nat → Bool} {f i j : Nat} (hf : j - i ≤ f) (h : i < j) (hp : p ((i + j) / 2) = false) : bsA p f i j = bsA p (f - 1) i ((i + j) / 2) := by
  obtain ⟨t, rfl⟩ : ∃ t, f = t + 1 := ⟨f - 1, by omega⟩
  rw [bsA, if_pos h, hp]; rfl
def shUA (a : Nat) : Nat → Array α → Array α
  | 0, d => d
  | k + 1, d => swp (shUA a k d) (a + k) (a + k + 1)
def shDA (m : Nat) : Nat → Array α → Array α
  | 0, d => d
  | k + 1, d => swp (shDA m k d) (m - k) (m - k - 1)
theorem size_shUA (a : Nat) (d : Array α) : ∀ k, (shUA a k d).size = d.size
  | 0 => rfl
  | k + 1 => by rw [shUA, size_swp, size_shUA a d k]
theorem size_shDA (m : Nat) (d : Array α) : ∀ k, (shDA m k d).size = d.size
  | 0 => rfl
  | k + 1 => by rw [shDA, size_swp, size_shDA m d k]
section
variable (lt : α → α → Bool)
def sp1 (d : Array α) (a h : Nat) : Bool := lt d[h]! d[a]!
def sp2 (d : Array α) (m h : Nat) : Bool := !lt d[m]! d[h]!
def sp3 (d : Array α) (p c : Nat) : Bool := !lt d[p - c]! d[c]!
/-- where the search of the middle case begins and ends -/
def smLo (a m b : Nat) : Nat := if (a + b) / 2 < m then (a + b) / 2 + m - b else a
def smHi (a m b : Nat) : Nat := if (a + b) / 2 < m then (a + b) / 2 else m
def smAt (d : Array α) (a m b : Nat) : Nat := bsA (sp3 lt d ((a + b) / 2 + m - 1)) (smHi a m b - smLo a m b) (smLo a m b) (smHi a m b)
def symA : Nat → Nat → Nat → Nat → Array α → Array α
  | 0, _, _, _, d => d
  | f + 1, a, m, b, d =>
    if m - a = 1 then shUA a (bsA (sp1 lt d a) (b - m) m b - 1 - a) d
    else if b - m = 1 then shDA m (m - bsA (sp2 lt d m) (m - a) a m) d
    else
      let mid := (a + b) / 2
      let st := smAt lt d a m b
      let en := mid + m - st
      let d1 := if st < m ∧ m < en then rotA m (en - st) (m - st) (en - m) d else d
      let d2 := if a < st ∧ st < mid then symA f a st mid d1 else d1
      if mid < en ∧ en < b then symA f mid en b d2 else d2
theorem size_symA : ∀ (f a m b : Nat) (d : Array α), (symA lt f a m b d).size = d.size
  | 0, _, _, _, _ => rfl
  | f + 1, a, m, b, d => by
    rw [symA]
    split
    · exact size_shUA _ _ _
    · split
      · exact size_shDA _ _ _
      · dsimp only
        repeat' split
        all_goals simp only [size_symA f, size_rotA]
/-- the insertion sort, by another recursion -/
def insS (a b : Nat) : Nat → Nat → Array α → Array α
  | 0, _, d => d
  | f + 1, i, d => if i < b then insS a b f (i + 1) (insInner lt a i d) else d
theorem insS_eq (a b : Nat) : ∀ (f i : Nat) (d : Array α), b - i ≤ f → insOuter lt a b i d = insS lt a b f i d
  | 0, i, d, h => by rw [insOuter, if_neg (by omega), insS]
  | f + 1, i, d, h => by
    rw [insOuter, insS]
    split
    · exact insS_eq a b f (i + 1) _ (by omega)
    · rfl
end
/-- the sort of fewer than twenty, and of 24 -/
def stbA (lt : α → α → Bool) (d : Array α) : Array α :=
  if d.size < 20 then insertionSort lt d 0 d.size else symA lt d.size 0 20 d.size (insertionSort lt (insertionSort lt d 0 20) 20 d.size)
def stbS (lt : α → α → Bool) (d : Array α) : Array α :=
  if d.size < 20 then insS lt 0 d.size d.size 1 d else symA lt d.size 0 20 d.size (insS lt 20 d.size d.size 21 (insS lt 0 20 20 1 d))

end Go.Proofs.YtnpghgpejnlebaaGreat

namespace Go.Proofs.YtnpghgpejnlebaaGreat
set_option linter.all false
open Go.RowKit Go.Shelf Go.Sort Go.Lib

/-- a world, so many draws taken -/
def atd (w : World) (n : Nat) : World := { w with drawn := n }
theorem wp_region_quiet_z {P : Program} {id : Nat} {Q : Exit → Act → World → Prop} {a : Act} {w : World} {l : List Oper} (hm : P.follows .mixedOrders = true) (hB : Region.lexB .any l.toArray = true)
    (h : wpQuiet P l.toArray (fun w' => ∃ p : GrownBy, w' = grow (atd w p.n) p.os) (fun a' => ∀ w', (∃ p : GrownBy, w' = grow (atd w p.n) p.os) → Q .normal a' w') l a) : (Code.region id l.toArray true).wp P Q a w :=
  wp_region_quiet (C := fun w' => ∃ p : GrownBy, w' = grow (atd w p.n) p.os) hm hB ⟨⟨w.drawn + 1, #[]⟩, by rw [grow_empty]; rfl⟩ (by simpa using h)
theorem grow_atd (w : World) (n q : Nat) (os os' : Array Obj) : grow (atd (grow (atd w n) os) q) os' = grow (atd w q) (os ++ os') := by
  show grow (grow (atd w q) os) os' = _
  rw [grow_grow]
theorem grown_z {P : Program} {f : FuncId} {args : Array Value} {w : World} {n : Nat} {os : Array Obj} {v : Value}
    (h : Calls P f args (grow (atd w n) os) fun e w' => e = .returned v ∧ ∃ q os', w' = grow (atd (grow (atd w n) os) q) os') : Calls P f args (grow (atd w n) os) fun e w'' => e = .returned v ∧ ∃ p : GrownBy, w'' = grow (atd w p.n) p.os :=
  h.mono fun _ _ ⟨he, q, os', hq⟩ => ⟨he, ⟨q, os ++ os'⟩, by rw [hq, grow_atd]⟩
theorem below_grow {W w' : World} (h : Below W.heap.size W w') : ∃ q os', w' = grow (atd W q) os' := by
  refine ⟨w'.drawn, w'.heap.extract W.heap.size w'.heap.size, ?_⟩
  have hh : w'.heap = W.heap ++ w'.heap.extract W.heap.size w'.heap.size := by
    apply Array.ext_getElem?
    intro i
    by_cases hi : i < W.heap.size
    · rw [Array.getElem?_append_left hi]; exact h.block i hi
    · rw [Array.getElem?_append_right (by omega), Array.getElem?_extract]
      by_cases h2 : i < w'.heap.size
      · rw [if_pos (by omega)]; congr 1; omega
      · rw [if_neg (by omega), Array.getElem?_eq_none (by omega)]
  have h1 := h.os
  have h2 := h.tape
  have h3 := h.output
  obtain ⟨a1, a2, a3, a4, a5⟩ := w'
  obtain ⟨b1, b2, b3, b4, b5⟩ := W
  dsimp only at h1 h2 h3 hh ⊢
  unfold grow atd
  dsimp only
  rw [← hh, h1, h2, h3]

variable {P : Program} {α : Type} [Inhabited α] {enc : α → Value} {w0 W : World} {blk off : Nat} {dk d0 : Array α}
def SZ (enc : α → Value) (w0 : World) (blk off : Nat) (dk : Array α) (W : World) : Prop := ∃ n, SW enc w0 blk off dk (atd W n)
theorem SZ.start (h : Holds enc w0 blk off dk) : SZ enc w0 blk off dk w0 := ⟨w0.drawn, SW.start h⟩
theorem SZ.c1 (h : SZ enc w0 blk off dk W) (R : Row1 enc w0 blk off d0) (hs : dk.size = d0.size) (i : Nat) (hi : i < dk.size) : W.cell? ⟨blk, off + i, none⟩ = some (enc dk[i]!) := by
  obtain ⟨n, h⟩ := h
  exact h.c1 R hs i hi
theorem SZ.f1 (h : SZ enc w0 blk off dk W) (R : Row1 enc w0 blk off d0) (hs : dk.size = d0.size) (i : Nat) (hi : i < dk.size) : W.frozen? ⟨blk, off + i, none⟩ = false := by
  obtain ⟨n, h⟩ := h
  exact h.f1 R hs i hi
theorem SZ.grown (h : SZ enc w0 blk off dk W) (n : Nat) (os : Array Obj) : SZ enc w0 blk off dk (grow (atd W n) os) := by
  obtain ⟨m, h⟩ := h
  exact ⟨m, h.grown 0 os⟩
theorem SZ.cl (h : SZ enc w0 blk off dk W) (R : Row1 enc w0 blk off d0) (hs : dk.size = d0.size) (i : Nat) (hi : i < dk.size) (n : Nat) (os : Array Obj) : (grow (atd W n) os).cell? ⟨blk, off + i, none⟩ = some (enc dk[i]!) := (h.grown n os).c1 R hs i hi
theorem SZ.drew (h : SZ enc w0 blk off dk W) : SZ enc w0 blk off dk W.drew := by
  obtain ⟨m, h⟩ := h
  exact ⟨m, h⟩
theorem SZ.c2 (h : SZ enc w0 blk off dk W) (R : Row1 enc w0 blk off d0) (hs : dk.size = d0.size) (i j : Nat) (hi : i < dk.size) (hj : j < dk.size) (v : Value) :
    ∃ u, (W.setCell ⟨blk, off + i, none⟩ v).cell? ⟨blk, off + j, none⟩ = some u := by
  obtain ⟨m, h⟩ := h
  exact h.c2 R hs i j hi hj v
theorem SZ.swapped (h : SZ enc w0 blk off dk W) (R : Row1 enc w0 blk off d0) (i j : Nat) (hi : i < dk.size) (hj : j < dk.size) :
    SZ enc w0 blk off (swp dk i j) ((W.setCell ⟨blk, off + i, none⟩ (enc dk[j]!)).setCell ⟨blk, off + j, none⟩ (enc dk[i]!)).drew := by
  obtain ⟨m, h⟩ := h
  exact ⟨m, h.swap R.hblk i j hi hj⟩
/-- what is asked of the closure -/
def CmpZ (P : Program) (g : Nat) (cb : Array Value) (enc : α → Value) (cf : α → α → Int) (blk off size : Nat) (w0 : World) : Prop :=
  ∀ (W : World) (dk : Array α), SZ enc w0 blk off dk W → dk.size = size → ∀ x y : α,
    Calls P g (#[enc x, enc y] ++ cb) W fun e w' => e = .returned (.int .i64 (cf x y)) ∧ Below W.heap.size W w'
theorem SZ.cmp {g : Nat} {cb : Array Value} {cf : α → α → Int} {size : Nat} (h : SZ enc w0 blk off dk W) (hC : CmpZ P g cb enc cf blk off size w0) (hs : dk.size = size) (x y : α) (n : Nat) (os : Array Obj) :
    Calls P g (#[enc x, enc y] ++ cb) (grow (atd W n) os) fun e w' => e = .returned (.int .i64 (cf x y)) ∧ ∃ q os', w' = grow (atd (grow (atd W n) os) q) os' :=
  (hC _ dk (h.grown n os) hs x y).mono fun _ _ ⟨he, hb⟩ => ⟨he, below_grow hb⟩

end Go.Proofs.YtnpghgpejnlebaaGreat
