/-
  The program's allPerms and AllPerms.
-/
import Derived.Test.YtajilmfaconjbaaPermsLaw
import Derived.Test.YtajilmfaconjbaaContains
import Derived.Test.YtajilmfaconjbaaApp3
import Derived.Test.YtajilmfaconjbaaSessN
namespace Go.Proofs.Ytajilmfaconjbaa
set_option linter.all false
open Go.RowKit

set_option maxRecDepth 100000 in
set_option maxHeartbeats 2000000 in
theorem implPerms_go (n : Nat) (hn : n ≤ 5) (f : Nat) : ∀ (ch : List Int) (v : Value) (lo hi : Nat) (w : World), OwnI 3 w lo hi v ch → hi ≤ w.heap.size → lo ≤ w.heap.size → ch.length + f = n →
    Calls Try.prog 56 #[.int .i64 n, v] w fun e w' => ∃ u, e = .returned u ∧ OwnII 22 3 w' lo w'.heap.size u (allL n f ch) ∧ Below w.heap.size w w' := by
  induction f with
  | zero =>
    intro ch v lo hi w h hhi hlo hf
    have H := Lib.hid h
    obtain ⟨p, k, rfl, _, _⟩ := h.shape
    clear h
    obtain rfl : n = ch.length := by omega
    clear hf
    go_enter Try.func56, Try.ntmps56
    go_wp2_with fail
    go_ret
    refine ⟨_, rfl, ⟨fun _ => .slice p ch.length k, ?_, fun i hi => ?_, fun i j hij hj => ?_⟩, below_alloc _ _⟩
    · refine ⟨[.slice p ch.length k], Own.of_rowIs (g := w.heap.size) (n := 1) (cap := 1) (F := fun _ => .slice p ch.length k) ⟨#[.slice p ch.length k], heap_alloc_top _ _, rfl, fun i hi => ?_⟩ hlo (by simp) (Nat.le_refl _) (by unfold maxLen; omega) rfl (fun j hj => ?_), fun j hj => ?_⟩
      · obtain rfl : i = 0 := by omega
        rfl
      · obtain rfl : j = 0 := by omega
        rfl
      · obtain rfl : j = 0 := by simpa [allL] using hj
        rfl
    · obtain rfl : i = 0 := by simpa [allL] using hi
      exact ((H.out.below (below_alloc _ _))).mono (Nat.le_refl _) (by simp; omega)
    · have : j = 0 := by simpa [allL] using hj
      omega
  | succ f ih =>
    intro ch v lo hi w h hhi hlo hf
    have H := Lib.hid h
    have Ih := Lib.hid ih
    obtain ⟨p, k, rfl, _, _⟩ := h.shape
    have hne : (((ch.length : Int)) == (n : Int)) = false := by simp; omega
    clear h ih
    go_enter Try.func56, Try.ntmps56
    go_wp2_with fail
    go_loopg [5, 15] n (fun g s5 i wr => ∃ (x : Nat) (rows : List (List Int)), x ≤ n ∧ g = n - x ∧ i = .int .i64 x ∧ Below w.heap.size w wr ∧
      Hid (rows = (List.range x).flatMap fun (y : Nat) => if (y : Int) ∈ ch then [] else allL n f (ch ++ [(y : Int)])) ∧ Hid (OwnII 22 3 wr w.heap.size wr.heap.size s5 rows))
    case atStart => exact ⟨0, [], Nat.zero_le _, rfl, rfl, below_alloc _ _, rfl, ⟨fun _ => undef, (OwnF.made0 w _ _).mono (Nat.le_refl _) (by simp), fun i hi => absurd hi (by simp), fun i j _ hj => absurd hj (by simp)⟩⟩
    case round =>
      obtain ⟨x, rows, hx, rfl, rfl, hb, hr, ho⟩ := hrel
      obtain ⟨wo, rfl⟩ : ∃ x : World, x = wr := ⟨_, rfl⟩
      obtain ⟨p3, k3, rfl, _, _⟩ := ho.out.shape
      by_cases hlt : x < n
      · have hci : Ints wo (.slice p ch.length k) ch := (H.out.below hb).ints
        go_wp2_with fail
        refine (contains_any _ ch x _ hci).mono ?_
        rintro e w1 ⟨rfl, hq⟩
        by_cases hc : (x : Int) ∈ ch
        · rw [decide_eq_true hc]
          have hr2 : rows = (List.range (x + 1)).flatMap fun (y : Nat) => if (y : Int) ∈ ch then [] else allL n f (ch ++ [(y : Int)]) := by
            rw [flatMap_snoc, if_pos hc, List.append_nil]
            exact hr.out
          have Hr2 := Lib.hid hr2
          have Ho2 := Lib.hid (ho.out.below (hq.below _))
          have hqs := hq.size
          have Hb2 := Lib.hid (hb.trans (hq.below _))
          clear hr2 hci hc hq hr ho
          go_wp2
          go_roundg (n - (x + 1))
          case measure => omega
          case rel => exact ⟨x + 1, rows, by omega, rfl, by go_num, Hb2.out, Hr2.out, by rw [hqs]; exact Ho2.out⟩
        · rw [decide_eq_false hc]
          have hr2 : rows ++ allL n f (ch ++ [(x : Int)]) = (List.range (x + 1)).flatMap fun (y : Nat) => if (y : Int) ∈ ch then [] else allL n f (ch ++ [(y : Int)]) := by
            rw [flatMap_snoc, if_neg hc, hr.out]
          have hpow : n ^ f ≤ 3125 := Nat.le_trans (Nat.pow_le_pow_left hn f) (Nat.pow_le_pow_right (by decide) (show f ≤ 5 by omega))
          have hrl : rows.length ≤ x * n ^ f := by
            rw [hr.out]
            refine flatMap_len _ _ (fun y => ?_) x
            split
            · simp
            · exact allL_len _ _ _
          have hrl2 : rows.length + (allL n f (ch ++ [(x : Int)])).length ≤ 18750 := by
            have h1 : x * n ^ f ≤ 5 * 3125 := Nat.mul_le_mul (by omega) hpow
            have h2 := allL_len n f (ch ++ [(x : Int)])
            omega
          have Hr2 := Lib.hid hr2
          have Hbnd := Lib.hid hrl2
          have Hq := Lib.hid hq
          have Hci := Lib.hid (hci.qt hq)
          have hqs := hq.size
          have hs1 := hb.size
          have hc5 : ch.length ≤ 5 := by omega
          have Hc1 := Lib.hid (show ch.length + 1 ≤ maxLen by unfold maxLen; omega)
          have Hc2 := Lib.hid (show (ch.length + 1) * 8 ≤ 140737488355328 by omega)
          have Hlen := Lib.hid (show (ch ++ [(x : Int)]).length + f = n by simp; omega)
          clear hr2 hrl2 hrl hpow hci hc hq hr
          go_wp2_with fail
          refine (clone_any _ ch _ Hci.out (by omega)).mono ?_
          rintro e w2 ⟨u, rfl, ho2, hb2⟩
          obtain ⟨p2, k2, rfl, _, _⟩ := ho2.shape
          have Ho2 := Lib.hid ho2
          have hs2 := hb2.size
          go_wp2_with (at_builtin; go_must (refine wpList_append_F rfl (.tmp 25) (.tmp 27) 22 rfl 3 (.int .i64 0) 8 Try.underlying22 info_int rfl w1.heap.size w2.heap.size _ ch.length (iv ch) rfl ((Ho2.out.below (below_alloc _ _)).fn) (by simp; omega) (by simp) _ _ _ rfl (rd_one _ _ _ rfl) (fun j _ => rfl) Hc1.out Hc2.out ?_; intro v' w3 ho3 hg3))
          have ho4 := OwnI.snoc1 ho3
          have hs3 := hg3.size
          simp only [size_alloc] at hs3
          have hb3 : Below wo.heap.size wo w3 := (Hq.out.below _).trans ((hb2.mono (by omega)).trans (((below_alloc w2 _).mono (by omega)).trans (grownBy_below hg3 Ho2.out.fn.blocks (by omega) (by simp; omega))))
          obtain ⟨p4, k4, rfl, _, _⟩ := ho4.shape
          refine (Ih.out (ch ++ [(x : Int)]) _ w1.heap.size w3.heap.size w3 ho4 (Nat.le_refl _) (by omega) Hlen.out).mono ?_
          rintro e w5 ⟨u5, rfl, ho5, hb5⟩
          generalize allL n f (ch ++ [(x : Int)]) = new at *
          have hb6 : Below wo.heap.size wo w5 := hb3.trans (hb5.mono (by omega))
          have hs5 := hb5.size
          obtain ⟨p5, k5, rfl, _, _⟩ := ho5.shape
          obtain ⟨F, g1, g2, g3⟩ := ho
          obtain ⟨G, j1, j2, j3⟩ := ho5
          have G1 := Lib.hid (g1.below hb6)
          have G2 := Lib.hid (fun i hi => (g2 i hi).below hb6)
          have G3 := Lib.hid g3
          have J1 := Lib.hid j1
          have J2 := Lib.hid j2
          have J3 := Lib.hid j3
          have hone : ∀ j, j < new.length → (G j).oneCell' = true := fun j hj => by
            obtain ⟨p, c, e, _⟩ := (j2 j hj).shape
            rw [e]; rfl
          have Hone := Lib.hid hone
          have hbnd := Hbnd.out
          have Hd1 := Lib.hid (show rows.length + new.length ≤ maxLen by unfold maxLen; omega)
          have Hd2 := Lib.hid (show (rows.length + new.length) * 24 ≤ 140737488355328 by omega)
          have Hb6 := Lib.hid hb6
          clear g1 g2 g3 j1 j2 j3 hone hb6 hb5 hb3 ho4 ho3 hg3 ho2 hb2 hbnd
          go_wp2_with (at_builtin; go_must (refine wpList_append_F rfl (.tmp 22) (.tmp 29) 40 rfl 22 (.slice none 0 0) 24 Try.underlying40 info_sl rfl w.heap.size wo.heap.size _ rows.length F rfl G1.out (by omega) (by omega) _ _ _ rfl J1.out.rd Hone.out Hd1.out Hd2.out ?_; intro v' w' ho' hg'))
          have hsw' := hg'.size
          have hblow : Below w.heap.size wo w' := (Hb6.out.mono hs1).trans (grownBy_below hg' G1.out.blocks (Nat.le_refl _) (by omega))
          go_roundg (n - (x + 1))
          case measure => omega
          case rel =>
            refine ⟨x + 1, rows ++ new, by omega, rfl, by go_num, hb.trans hblow, Hr2.out, ?_⟩
            exact OwnII.join G1.out G2.out G3.out (fun i hi => (J2.out i hi).mono (by omega) (Nat.le_refl _)) J3.out hs1 (by omega) (by decide) hg' (by omega) ho'
      · go_wp2_with fail
        go_ret
        obtain rfl : x = n := by omega
        have e : allL x (f + 1) ch = rows := by rw [hr.out]; rfl
        rw [e]
        exact ⟨_, rfl, ho.out.mono hlo (Nat.le_refl _), hb⟩

set_option maxRecDepth 100000 in
theorem implAllPerms_any (N : Int) (w : World) :
    Calls Try.prog 25 #[.int .i64 N] w (RetII w (allPermsL N)) := by
  by_cases h : 1 ≤ N ∧ N ≤ 5
  · obtain ⟨n, rfl⟩ := Int.eq_ofNat_of_zero_le (show (0 : Int) ≤ N by omega)
    have e : allPermsL n = allL n n [] := by rw [allL_perms n (by omega) (by omega)]; simp [allPermsL, h]
    rw [e]
    have H1 : decide ((n : Int) < 1) = false := by simp; omega
    have H2 : decide ((5 : Int) < n) = false := by simp; omega
    clear e
    go_enter Try.func25, Try.ntmps25
    go_wp2_with fail
    refine (implPerms_go n (by omega) n [] _ w.heap.size w.heap.size _ (own_nil _ _ _ _) (Nat.le_refl _) (Nat.le_refl _) (by simp)).mono ?_
    rintro e w2 ⟨u, rfl, ho, hb⟩
    go_wp2_with fail
    go_ret
    exact ⟨_, rfl, ho, hb⟩
  · have e : allPermsL N = [] := by simp [allPermsL, h]
    rw [e]
    clear e
    by_cases h1 : N < 1
    · clear h
      go_enter Try.func25, Try.ntmps25
      go_wp2_with fail
      go_ret
      exact ⟨_, rfl, ownII_nil _ _ _, Below.refl _ _⟩
    · have h2 : 5 < N := by omega
      clear h
      go_enter Try.func25, Try.ntmps25
      go_wp2_with fail
      go_ret
      exact ⟨_, rfl, ownII_nil _ _ _, Below.refl _ _⟩

end Go.Proofs.Ytajilmfaconjbaa
