/-
  The reference's words and its sums over subwords: the walks.
  The reference's sums over subwords: l8Sum, l8Local, Localize.
  Divided differences along any way. Plain.
-/
import Derived.Test.YtfpjenmehoemcaaJ7
import Derived.Test.YtfpjenmehoemcaaJ5
import Derived.Test.YtfpjenmehoemcaaJ4
import Derived.Deep.RegionHeld3
namespace Go.Proofs.Ytfpjenmehoemcaa
set_option linter.all false
open Go.RowKit

set_option maxRecDepth 100000 in
set_option maxHeartbeats 2000000 in
theorem l1SumC_any (v : Value) (xs : List Int) (w : World) (h : Ints w v (cdL xs)) (hl : xs.length ≤ 10) :
    Calls Try.prog 56 #[v] w fun e w' => e = .returned (.int .i64 (lnN xs : Nat)) ∧ Qt w w' := by
  obtain ⟨p, cap, rfl, ⟨hx1, hx2⟩, hxc⟩ := h
  unfold maxLen at hx2
  rw [cdL_length] at hx1 hxc ⊢
  go_enter Try.func56, Try.ntmps56
  go_wp2_with fail
  go_loopg [3, 4] xs.length (fun g s3 s4 wr => ∃ k : Nat, k ≤ xs.length ∧ g = xs.length - k ∧ s4 = .int .i64 k ∧ s3 = .int .i64 (lnK xs k : Nat) ∧ Qt w wr)
  case atStart => exact ⟨0, Nat.zero_le _, rfl, rfl, rfl, Qt.refl _⟩
  case round =>
    obtain ⟨k, hk, rfl, rfl, rfl, hq⟩ := hrel
    have hr := lnK_le xs hl k hk
    obtain ⟨z, hz⟩ : ∃ z, z = lnK xs k := ⟨_, rfl⟩
    rw [← hz] at hr ⊢
    have Hz := Lib.hid hz
    by_cases hlt : k < xs.length
    · obtain ⟨b, off, rfl, hc⟩ := hxc (by omega)
      have c1 := hq.cell (hc k hlt)
      unfold iv at c1
      rw [cdL_getD hlt] at c1
      obtain ⟨x, hx⟩ : ∃ x, x = cdA xs k := ⟨_, rfl⟩
      rw [← hx] at c1
      have hx2 : x ≤ 10 := by rw [hx]; unfold cdA; have := cdK_le xs k (xs.length - (k + 1)); omega
      have Hn := Lib.hid (show lnK xs (k + 1) = z + x by rw [lnK, hz, hx])
      have hk1 : (k : Int) < (xs.length : Int) := by omega
      clear hx hc hxc hz
      go_wp2_with fail
      go_roundg (xs.length - (k + 1))
      case measure => omega
      case rel => exact ⟨k + 1, by omega, rfl, by go_num, by rw [Hn.out]; go_num, hq⟩
    · obtain rfl : k = xs.length := by omega
      have hk1 : ¬ (xs.length : Int) < (xs.length : Int) := by omega
      clear hz
      go_wp2_with fail
      go_ret
      exact ⟨by rw [Hz.out]; rfl, hq⟩

set_option maxRecDepth 100000 in
set_option maxHeartbeats 2000000 in
theorem l1Length_any (v : Value) (xs : List Int) (w : World) (h : Ints w v xs) (hl : xs.length ≤ 10) :
    Calls Try.prog 49 #[v] w fun e w' => e = .returned (.int .i64 (lnN xs : Nat)) ∧ Below w.heap.size w w' := by
  have Hh := Lib.hid h
  obtain ⟨p, cap, rfl, ⟨hx1, hx2⟩, hxc⟩ := h
  unfold maxLen at hx2
  clear hxc
  go_enter Try.func49, Try.ntmps49
  go_wp2_with fail
  refine (l1Code_any _ xs _ Hh.out hl).mono ?_
  rintro e w1 ⟨u, rfl, ho, hb⟩
  have Ho := Lib.hid ho.ints
  have Hb := Lib.hid hb
  obtain ⟨pu, ku, rfl, _, _⟩ := ho.shape
  clear ho hb
  go_wp2_with fail
  refine (l1SumC_any _ xs _ Ho.out hl).mono ?_
  rintro e w2 ⟨rfl, hq⟩
  have Hq := Lib.hid hq
  clear hq
  go_wp2_with fail
  go_ret
  exact ⟨rfl, Hb.out.trans (Hq.out.below _)⟩

/-- a word as numbers -/
def wz (r : List Nat) : List Int := r.map fun (k : Nat) => (k : Int)
theorem wz_length (r : List Nat) : (wz r).length = r.length := by simp [wz]
theorem wz_getD {r : List Nat} {j : Nat} (h : j < r.length) : (wz r).getD j 0 = (r.getD j 0 : Nat) := by simp [wz, List.getD_eq_getElem?_getD, h]
theorem wz_snoc (r : List Nat) (k : Nat) : wz (r ++ [k]) = wz r ++ [(k : Int)] := by simp [wz]

/-- a list that lies in no block that grows -/
def Apart (v u : Value) : Prop := ∀ b off l k, v = .slice (some ⟨b, off, none⟩) l k → u.ownBlock ≠ some b
theorem Ints.grown {w w' : World} {v u : Value} {xs : List Int} (h : Ints w v xs) (hg : w.grownBy w' u.ownBlock) (hn : Apart v u) : Ints w' v xs := by
  obtain ⟨p, cap, rfl, h1, hc⟩ := h
  refine ⟨p, cap, rfl, h1, fun h0 => ?_⟩
  obtain ⟨b, off, rfl, hc2⟩ := hc h0
  refine ⟨b, off, rfl, fun j hj => ?_⟩
  have hc0 := hc2 j hj
  rw [← hc0]
  exact World.cell?_of_block (hg.block b (World.block_lt_of_cell? _ _ hc0) (fun e => hn b off _ _ rfl e.symm))
theorem Ints.apart {w : World} {v u : Value} {xs : List Int} (h : Ints w v xs) (h0 : 0 < xs.length) {lo : Nat} (hlo : w.heap.size ≤ lo) (hu : ∀ k, u.ownBlock = some k → lo ≤ k) : Apart v u := by
  obtain ⟨p, cap, rfl, h1, hc⟩ := h
  obtain ⟨b, off, rfl, hc2⟩ := hc h0
  intro b' off' l k e hb
  injection e with e
  injection e with e
  injection e with e1
  subst e1
  have : b < w.heap.size := World.block_lt_of_cell? _ _ (hc2 0 h0)
  have := hu _ hb
  omega
theorem apart_own {T : TypeId} {w : World} {lo hi : Nat} {v u : Value} {xs : List Int} (h : OwnI T w lo hi v xs) (hu : ∀ k, u.ownBlock = some k → k < lo) : Apart v u := by
  intro b off l k e hb
  have h1 := hu _ hb
  have := h.fn.blocks b (by rw [e]; rfl)
  omega

set_option maxRecDepth 100000 in
set_option maxHeartbeats 4000000 in
theorem l8First_any (v : Value) (xs : List Int) (w : World) (h : Ints w v xs) (hp : P5 xs.length xs) :
    Calls Try.prog 36 #[v] w (RetI w (wz (fstL xs))) := by
  have Hh := Lib.hid h
  have Hp := Lib.hid hp
  obtain ⟨p, cap, rfl, ⟨hx1, hx2⟩, hxc⟩ := h
  unfold maxLen at hx2
  obtain ⟨n, hn⟩ : ∃ n, n = xs.length := ⟨_, rfl⟩
  have hn5 := hp.le
  have Hn := Lib.hid hn
  rw [← hn] at hx1 hn5 Hp Hh ⊢
  obtain ⟨W0, hW0⟩ : ∃ W, W = fstL xs := ⟨_, rfl⟩
  have HW := Lib.hid hW0
  have HWl := Lib.hid (wrd_at hp).2.2.1
  rw [← hW0] at HWl ⊢
  have Hp1 := Lib.hid (show 1 ≤ n from by have := hp.ok; simp only [permOk, decide_eq_true_eq] at this; rw [hn]; exact this.1)
  clear hxc hp hn hW0
  go_enter Try.func36, Try.ntmps36
  go_wp2_with fail
  go_loopg [0, 3] (lnN xs) (fun g s0 s3 wr => ∃ (c : List Int) (r : List Nat), P5 n c ∧ g = lnN c ∧ Hid (W0 = r ++ firL (lnN c) c) ∧ Hid (Ints wr s0 c) ∧ Hid (Below w.heap.size w wr) ∧ Hid (OwnI 3 wr w.heap.size wr.heap.size s3 (wz r)) ∧ Hid (Apart s0 s3))
  case atStart =>
    refine ⟨xs, [], Hp.out, rfl, Lib.hid ?_, Lib.hid (Hh.out.below (below_alloc w _)), below_alloc w _, ?_, Lib.hid (Hh.out.apart (by rw [← Hn.out]; exact Hp1.out) (Nat.le_refl _) fun k hk => by cases hk; exact Nat.le_refl _)⟩
    · rw [HW.out]; rfl
    · exact OwnF.ints ((OwnF.made0 w 3 (iv [])).mono (Nat.le_refl _) (by simp))
  case round =>
    obtain ⟨c, r, hc5, rfl, hW, hI, hb, ho, hap⟩ := hrel
    obtain ⟨wx, rfl⟩ : ∃ x : World, x = wr := ⟨_, rfl⟩
    have HI := Lib.hid hI.out
    have Hb := Lib.hid hb.out
    have HW2 := Lib.hid hW.out
    have Ho := Lib.hid ho.out
    have hcl := hc5.len
    have hsr := hb.out.size
    obtain ⟨pc, kc, rfl, ⟨hc1, hc2⟩, _⟩ := hI.out
    obtain ⟨p3, k3, rfl, hk3, hk4⟩ := ho.out.shape
    unfold maxLen at hc2
    rw [hcl] at HI hc1 hap ⊢
    have Hap := Lib.hid hap.out
    have Hcl := Lib.hid hcl
    clear hI hb hW ho hcl hap
    go_wp2_with fail
    refine (l1Length_any _ c _ HI.out (by rw [Hcl.out]; omega)).mono ?_
    rintro e w1 ⟨rfl, hb1⟩
    have Hb1 := Lib.hid hb1
    clear hb1
    obtain ⟨L, hL⟩ : ∃ L, L = lnN c := ⟨_, rfl⟩
    have HL := Lib.hid hL
    rw [← hL]
    clear hL
    by_cases h0 : L = 0
    · subst h0
      go_wp2_with fail
      go_ret
      refine ⟨_, rfl, ?_, Hb.out.trans (Hb1.out.mono hsr)⟩
      have := HW2.out
      rw [← HL.out] at this
      rw [this, firL, List.append_nil]
      exact (Ho.out.below Hb1.out).mono (Nat.le_refl _) Hb1.out.size
    · have hF := fir_at hc5 (by rw [← HL.out]; exact h0)
      have HF := Lib.hid hF
      obtain ⟨k, hk⟩ : ∃ k, k = frN c := ⟨_, rfl⟩
      have Hk := Lib.hid hk
      have hkn : k + 1 < n := by have := hF.lt; rw [Hcl.out] at this; omega
      have h0' : (0 : Int) < (L : Int) := by omega
      have Hc5 := Lib.hid hc5
      clear hF hk hc5
      go_wp2_with fail
      refine (specInverse_any _ c _ (HI.out.below Hb1.out) Hc5.out.ok).mono ?_
      rintro e w2 ⟨u2, rfl, ho2, hb2⟩
      have Ho2 := Lib.hid ho2
      have Hb2 := Lib.hid (Hb1.out.trans (hb2.mono Hb1.out.size))
      obtain ⟨p4, k4, rfl, hk5, hk6⟩ := ho2.shape
      unfold maxLen at hk6
      have hofn := ho2.fn
      rw [invL_length, Hcl.out] at hk5 hofn ⊢
      obtain ⟨g4, rfl, hg1, hg2, hg3⟩ := hofn.at_ (by omega)
      have Hofn := Lib.hid hofn
      clear ho2 hb2 hofn
      obtain ⟨B, hB⟩ : ∃ B, B = invL c := ⟨_, rfl⟩
      have HB := Lib.hid hB
      rw [← hB] at Hofn
      have hrk : ∀ j, j < n → ∃ m : Nat, B.getD j 0 = (m : Int) ∧ m < n := fun j hj => by rw [hB]; have := HF.out.rng j (by rw [Hcl.out]; exact hj); rw [Hcl.out] at this; exact this
      have Hrk := Lib.hid hrk
      have Hup := Lib.hid (show ∀ j, j < k → B.getD j 0 < B.getD (j + 1) 0 from fun j hj => by rw [hB]; exact of_decide_eq_true (HF.out.up j (by rw [← Hk.out]; exact hj)))
      have Hdn := Lib.hid (show B.getD (k + 1) 0 ≤ B.getD k 0 from by rw [hB, Hk.out]; exact Int.not_lt.1 (of_decide_eq_false HF.out.down))
      clear hB hrk
      go_wp2_with fail
      go_loopg [5] (k + 1) (fun g s5 wr => ∃ j : Nat, j ≤ k ∧ g = k + 1 - j ∧ s5 = .int .i64 (j : Int) ∧ Qt w2 wr)
      case atStart => exact ⟨0, Nat.zero_le _, rfl, rfl, Qt.refl _⟩
      case round =>
        obtain ⟨j, hj, rfl, rfl, hq⟩ := hrel
        obtain ⟨wy, rfl⟩ : ∃ x : World, x = wr := ⟨_, rfl⟩
        have c1 := hq.cell (Hofn.out.cell (show j < n by omega))
        have c2 := hq.cell (Hofn.out.cell (show j + 1 < n by omega))
        unfold iv at c1 c2
        obtain ⟨x, hx⟩ : ∃ x, x = B.getD j 0 := ⟨_, rfl⟩
        obtain ⟨y, hy⟩ : ∃ y, y = B.getD (j + 1) 0 := ⟨_, rfl⟩
        rw [← hx] at c1
        rw [← hy] at c2
        have Hx := Lib.hid hx
        have Hy := Lib.hid hy
        have HQ := Lib.hid hq
        have hj1 : (j : Int) < (n : Int) := by omega
        have hj2 : (j : Int) + 1 < (n : Int) := by omega
        clear hx hy hq
        by_cases hjk : j < k
        · have hxy : x < y := by rw [Hx.out, Hy.out]; exact Hup.out j hjk
          go_wp2_with fail
          go_quiet (fail)
          have HQ1 := Lib.hid (HQ.out.drewN nq)
          go_wp2_with fail
          go_roundg (k + 1 - (j + 1))
          case measure => omega
          case rel => exact ⟨j + 1, by omega, rfl, by go_num, HQ1.out⟩
        · have hjk2 : j = k := by omega
          have hxy : ¬ x < y := by rw [Hx.out, Hy.out, hjk2]; exact Int.not_lt.2 Hdn.out
          subst hjk2
          go_wp2_with fail
          go_quiet (fail)
          have HQ1 := Lib.hid (HQ.out.drewN nq)
          generalize wy.drewN nq = wv at *
          have Hrl := Lib.hid (show (wz r).length + 1 ≤ 1000 from by
            have := HWl.out
            have h2 := HW2.out
            rw [h2] at this
            rw [wz_length]
            rw [List.length_append] at this
            omega)
          have hBwv : Below wx.heap.size wx wv := (Hb2.out.trans ((HQ1.out.below _).mono Hb2.out.size))
          have HBwv := Lib.hid hBwv
          have Hsz := Lib.hid HQ1.out.size
          have hwv : w.heap.size ≤ wv.heap.size := Nat.le_trans hsr HBwv.out.size
          clear hBwv c1 c2
          go_wp2_with (at_builtin; go_must (refine wpList_append_F rfl (.tmp 25) (.tmp 27) 22 rfl 3 (.int .i64 0) 8 Try.underlying22 info_int rfl w.heap.size wv.heap.size _ (wz r).length (iv (wz r)) rfl (((Ho.out.below HBwv.out).mono (Nat.le_refl _) HBwv.out.size).fn.below (below_alloc wv _)) (by rw [size_alloc]; omega) (by rw [size_alloc]; omega) _ 1 _ rfl (rd_one _ _ _ rfl) (fun j _ => rfl) (by have := Hrl.out; unfold maxLen; omega) (by have := Hrl.out; omega) ?_; intro v3 w3 ho3 hg3))
          have hg3' : (wv.alloc (.cells #[.int .i64 (j : Int)] 3)).grownBy w3 (Value.slice p3 (wz r).length k3).ownBlock := hg3
          have HI3 := Lib.hid (((HI.out.below HBwv.out).below (below_alloc wv _)).grown hg3' Hap.out)
          have hblk := Ho.out.fn.blocks
          have hsx := Hb1.out.size
          have Hof3 := Lib.hid (((Hofn.out.below (HQ1.out.below _)).below (below_alloc wv _)).grown hg3' (fun k hk e => by
            have hk' : k = g4 := by injection hk with hk; exact hk.symm
            have := (hblk _ e).2
            omega))
          have hb3 : Below w.heap.size w w3 := ((Hb.out.trans (HBwv.out.mono hsr)).trans ((below_alloc wv _).mono hwv)).trans (grownBy_below hg3' hblk (Nat.le_refl _) (by rw [size_alloc]; omega))
          have Hb3 := Lib.hid hb3
          have Ho3 := Lib.hid (OwnI.snoc1 ho3)
          have hs3 : wv.heap.size + 1 ≤ w3.heap.size := by have := hg3'.size; rw [size_alloc] at this; exact this
          have hblk3 : ∀ k, v3.ownBlock = some k → k < w3.heap.size := fun k hk => (ho3.blocks k hk).2
          have Hblk3 := Lib.hid hblk3
          obtain ⟨pv, kv3, rfl, _, _⟩ := ho3.shape
          clear hg3 hg3' hb3 ho3 hblk hblk3
          refine (l1Ints_any _ c _ HI3.out (by rw [Hcl.out]; omega)).mono ?_
          rintro e w4 ⟨u5, rfl, ho5, hb5⟩
          have hofn5 := ho5.fn
          obtain ⟨p5, k5, rfl, hk51, hk52⟩ := ho5.shape
          rw [Hcl.out] at hk51 hofn5 ⊢
          unfold maxLen at hk52
          obtain ⟨g5, rfl, hg51, hg52, hg53⟩ := hofn5.at_ (by omega)
          obtain ⟨m1, hm1, hm1n⟩ := Hrk.out j (by omega)
          obtain ⟨m2, hm2, hm2n⟩ := Hrk.out (j + 1) (by omega)
          have c1 : w4.cell? ⟨g4, j, none⟩ = some (.int .i64 (m1 : Int)) := by rw [← hm1]; exact (Hof3.out.below hb5).cell (by omega)
          have c2 : w4.cell? ⟨g4, j + 1, none⟩ = some (.int .i64 (m2 : Int)) := by rw [← hm2]; exact (Hof3.out.below hb5).cell (by omega)
          have hgb : g5 ≠ g4 := by have := Hsz.out; omega
          have hbg : g4 ≠ g5 := fun e => hgb e.symm
          have f1 := hofn5.frozen m1
          have f2 := hofn5.frozen m2
          have d1 := hofn5.cell hm1n
          obtain ⟨z, d3⟩ : ∃ z, (w4.setCell ⟨g5, m1, none⟩ (.int .i64 ((j : Int) + 1))).cell? ⟨g5, m2, none⟩ = some z := ⟨_, (hofn5.set m1 (.int .i64 ((j : Int) + 1))).cell hm2n⟩
          have hm1i : (m1 : Int) < (n : Int) := by omega
          have hm2i : (m2 : Int) < (n : Int) := by omega
          have Ho5 := Lib.hid ho5
          have Hb5 := Lib.hid hb5
          have Hm1 := Lib.hid hm1
          have Hm2 := Lib.hid hm2
          clear hofn5 ho5 hb5 hm1 hm2
          go_wp2_with fail
          have hless := HF.out.less
          clear hwv
          go_roundg (lnN (frS c))
          case measure => omega
          case rel =>
            have hs3w : w.heap.size ≤ w3.heap.size := Hb3.out.size
            have hset : frS c = (c.set m1 ((j : Int) + 1)).set m2 (j : Int) := by
              unfold frS frV
              rw [← Hk.out, ← HB.out, Hm1.out, Hm2.out]
              simp
            have o5 := (Ho5.out.setG (by rw [Hcl.out]; exact hm1n) ((j : Int) + 1)).setG (t := m2) (by rw [List.length_set, Hcl.out]; exact hm2n) (j : Int)
            rw [← hset] at o5
            have hsz4 := Hb5.out.size
            refine ⟨frS c, r ++ [j], ⟨HF.out.ok, by rw [hset, List.length_set, List.length_set, Hcl.out], hn5⟩, rfl, Lib.hid ?_, Lib.hid ?_, Lib.hid ?_, Lib.hid ?_, Lib.hid ?_⟩
            · rw [HW2.out, ← hless, firL, ← Hk.out, List.append_assoc]; rfl
            · rw [Hcl.out] at o5; exact o5.ints
            · exact ((Hb3.out.trans (Hb5.out.mono hs3w)).setCell (p := ⟨g5, m1, none⟩) (show w.heap.size ≤ g5 by omega) _).setCell (p := ⟨g5, m2, none⟩) (show w.heap.size ≤ g5 by omega) _
            · rw [wz_snoc]
              exact (((Ho3.out.below Hb5.out).setCell (.inr hg51) _).setCell (.inr hg51) _).mono (Nat.le_refl _) (by rw [size_setCell, size_setCell]; exact hsz4)
            · rw [Hcl.out] at o5; exact apart_own o5 Hblk3.out

end Go.Proofs.Ytfpjenmehoemcaa

namespace Go.Proofs.Ytfpjenmehoemcaa
set_option linter.all false
open Go.RowKit

theorem wrap_cg (x : Int) : Cg (wrap64 x) x := ⟨(wrap64 x - x) / M64, by unfold wrap64 M64; omega⟩
theorem wrap_eq {x y : Int} (h : Cg x y) : wrap64 x = wrap64 y := by
  obtain ⟨m, rfl⟩ := h
  unfold wrap64 M64; omega
/-- numbers of a permutation, each a place -/
def PlcOk (n : Nat) (u : List Int) : Prop := u.length = n ∧ ∀ j, j < n → ∃ m : Nat, u.getD j 0 = (m : Int) ∧ m < n
theorem PlcOk.sw {n : Nat} {u : List Int} (h : PlcOk n u) {k : Nat} (hk : k + 1 < n) : PlcOk n (sw k u) := by
  refine ⟨by rw [sw_length]; exact h.1, fun j hj => ?_⟩
  rw [Go.Proofs.Ytfpjenmehoemcaa.sw, swapL_getD (by rw [h.1]; omega) (by rw [h.1]; omega)]
  split
  · exact h.2 k (by omega)
  · split
    · exact h.2 (k + 1) hk
    · exact h.2 j hj

set_option maxRecDepth 100000 in
set_option maxHeartbeats 8000000 in
theorem l8Sum_any (n : Nat) (vs : List Int) (word : List Nat) (ys : List Int) (hn5 : n ≤ 5) (hvl : vs.length = n) (hyl : ys.length = n) (hy9 : ∀ x ∈ ys, -9 ≤ x ∧ x ≤ 9) (hwk : ∀ k ∈ word, k + 1 < n) (hwl : word.length ≤ 10) :
    ∀ (m t : Nat) (u h : List Int) (pv pw pu ph py : Value) (w : World), t + m = word.length → PlcOk n u → h.length = n → Ints w pv vs → Ints w pw (wz word) → Ints w pu u → Ints w ph h → Ints w py ys →
    Calls Try.prog 35 #[pv, pw, .int .i64 (t : Int), pu, ph, py] w fun e w' => e = .returned (.int .i64 (wrap64 (sumS vs ys (word.drop t) u h))) ∧ Below w.heap.size w w' := by
  intro m
  induction m with
  | zero =>
    intro t u h pv pw pu ph py w hat hu hh Hv Hw Hu Hh Hy
    have HV := Lib.hid Hv
    have HH := Lib.hid Hh
    have HW := Lib.hid Hw
    obtain ⟨pw, cw, rfl, ⟨hw1, hw2⟩, _⟩ := Hw
    rw [wz_length] at hw1 ⊢
    have hat2 : word.length = t := by omega
    have hd : word.drop t = [] := List.drop_eq_nil_of_le (by omega)
    rw [hd, hat2]
    clear hd
    rw [hat2] at hw1
    obtain ⟨b, hb⟩ : ∃ b, b = decide (h = vs) := ⟨_, rfl⟩
    have Hb := Lib.hid hb
    have hs : sumS vs ys [] u h = if b = true then 1 else 0 := by rw [sumS, hb]; simp
    rw [hs]
    clear Hv Hu Hh Hy hs hb
    go_enter Try.func35, Try.ntmps35
    go_wp2_with fail
    refine (l1Same_any _ _ h vs _ HH.out HV.out).mono ?_
    rintro e w1 ⟨rfl, hq⟩
    rw [← Hb.out]
    have Hq := Lib.hid hq
    clear hq
    cases b with
    | true =>
      go_wp2_with fail
      go_ret
      exact ⟨ret_int (show (1 : Int) = wrap64 1 by decide +kernel), Hq.out.below _⟩
    | false =>
      go_wp2_with fail
      go_ret
      exact ⟨ret_int (show (0 : Int) = wrap64 0 by decide +kernel), Hq.out.below _⟩
  | succ m ih =>
    intro t u h pv pw pu ph py w hat hu hh Hv Hw Hu Hh Hy
    have HV := Lib.hid Hv
    have HH := Lib.hid Hh
    have HW := Lib.hid Hw
    have HU := Lib.hid Hu
    have HY := Lib.hid Hy
    have Ih := Lib.hid ih
    obtain ⟨pw, cw, rfl, ⟨hw1, hw2⟩, hwc⟩ := Hw
    obtain ⟨pu, cu, rfl, ⟨hu1, hu2⟩, huc⟩ := Hu
    obtain ⟨ph, ch, rfl, ⟨hh1, hh2⟩, hhc⟩ := Hh
    obtain ⟨py, cy, rfl, ⟨hy1, hy2⟩, hyc⟩ := Hy
    obtain ⟨pv, cv, rfl, ⟨hv1, hv2⟩, hvc⟩ := Hv
    unfold maxLen at hw2 hu2 hh2 hy2 hv2
    rw [wz_length] at hw1 hwc HW ⊢
    have hlt : t < word.length := by omega
    obtain ⟨bw, ow, rfl, hwd⟩ := hwc (by omega)
    have cw0 := hwd t hlt
    unfold iv at cw0
    rw [wz_getD hlt] at cw0
    obtain ⟨k, hk⟩ : ∃ k, k = word.getD t 0 := ⟨_, rfl⟩
    have hkn : k + 1 < n := hwk _ (by rw [hk, List.getD_eq_getElem?_getD, List.getElem?_eq_getElem hlt]; exact List.getElem_mem hlt)
    have hdr : word.drop t = k :: word.drop (t + 1) := by
      rw [List.drop_eq_getElem_cons hlt, hk, List.getD_eq_getElem?_getD, List.getElem?_eq_getElem hlt]; rfl
    rw [hdr, sumS]
    rw [← hk] at cw0
    have hul := hu.1
    rw [hul] at hu1 huc HU ⊢
    rw [hh] at hh1 hhc HH ⊢
    rw [hyl] at hy1 hyc HY ⊢
    rw [hvl] at hv1 hvc HV ⊢
    obtain ⟨bu, ou, rfl, hud⟩ := huc (by omega)
    obtain ⟨bh, oh, rfl, hhd⟩ := hhc (by omega)
    obtain ⟨by', oy, rfl, hyd⟩ := hyc (by omega)
    obtain ⟨m0, hm0, hm0n⟩ := hu.2 k (by omega)
    obtain ⟨m1, hm1, hm1n⟩ := hu.2 (k + 1) hkn
    have cu0 := hud k (by omega)
    have cu1 := hud (k + 1) hkn
    have ch0 := hhd k (by omega)
    have ch1 := hhd (k + 1) hkn
    have cy0 := hyd m0 hm0n
    have cy1 := hyd m1 hm1n
    unfold iv at cu0 cu1 ch0 ch1 cy0 cy1
    rw [hm0] at cu0
    rw [hm1] at cu1
    obtain ⟨x, hx⟩ : ∃ x, x = h.getD k 0 := ⟨_, rfl⟩
    obtain ⟨y, hy⟩ : ∃ y, y = h.getD (k + 1) 0 := ⟨_, rfl⟩
    obtain ⟨a, ha⟩ : ∃ a, a = ys.getD m0 0 := ⟨_, rfl⟩
    obtain ⟨b, hb⟩ : ∃ b, b = ys.getD m1 0 := ⟨_, rfl⟩
    rw [← hx] at ch0
    rw [← hy] at ch1
    rw [← ha] at cy0
    rw [← hb] at cy1
    have ha9 := hy9 a (by rw [ha]; exact getD_mem (by omega))
    have hb9 := hy9 b (by rw [hb]; exact getD_mem (by omega))
    rw [hm0, hm1, Int.toNat_natCast, Int.toNat_natCast, ← ha, ← hb]
    obtain ⟨S1, hS1⟩ : ∃ S, S = sumS vs ys (word.drop (t + 1)) (sw k u) h := ⟨_, rfl⟩
    obtain ⟨S2, hS2⟩ : ∃ S, S = sumS vs ys (word.drop (t + 1)) (sw k u) (sw k h) := ⟨_, rfl⟩
    obtain ⟨bb, hbb⟩ : ∃ bb, bb = decide (x < y) := ⟨_, rfl⟩
    have hasc : ascB k h = bb := by rw [hbb]; unfold ascB; rw [hx, hy]
    rw [← hS1, ← hS2, hasc]
    have HS1 := Lib.hid hS1
    have HS2 := Lib.hid hS2
    have Hbb := Lib.hid hbb
    have Hul := Lib.hid hul
    have Hhl := Lib.hid hh
    have Hpl := Lib.hid hu
    have Hat := Lib.hid hat
    have Hwl := Lib.hid hwl
    obtain ⟨N, hN⟩ : ∃ N, N = word.length := ⟨_, rfl⟩
    have HN := Lib.hid hN
    rw [← hN] at hw1 HW hlt ⊢
    have hN10 : N ≤ 10 := by rw [hN]; exact hwl
    have hati : (t : Int) < (N : Int) := by omega
    have hatne : ¬ t = N := by omega
    have hatne2 : ¬ (t : Int) = (N : Int) := by omega
    clear hwc huc hhc hyc hvc hwd hud hhd hyd hx hy ha hb hm0 hm1 hk hdr hS1 hS2 hbb hasc hul hh hu hat ih hvl hyl hy9 hwk hwl hN
    go_enter Try.func35, Try.ntmps35
    go_wp2_with fail
    refine (l1Swap_any _ u k (k + 1) _ HU.out (by rw [Hul.out]; omega) (by rw [Hul.out]; omega) (by rw [Hul.out]; omega)).mono ?_
    rintro e w1 ⟨u1, rfl, ho1, hb1⟩
    have HU1 := Lib.hid (show Ints w1 u1 (sw k u) from ho1.ints)
    obtain ⟨p1, c1, rfl, hc11, hc12⟩ := ho1.shape
    rw [swapL_length, Hul.out] at HU1 hc11 ⊢
    unfold maxLen at hc12
    have Hb1 := Lib.hid hb1
    clear ho1 hb1
    go_wp2_with fail
    refine (Ih.out (t + 1) (sw k u) h _ _ _ _ _ _ (by have := Hat.out; omega) (Hpl.out.sw hkn) Hhl.out (HV.out.below Hb1.out) (HW.out.below Hb1.out) HU1.out (HH.out.below Hb1.out) (HY.out.below Hb1.out)).mono ?_
    rintro e w2 ⟨rfl, hb2⟩
    rw [← HS1.out]
    have Hb2 := Lib.hid (Hb1.out.trans (hb2.mono Hb1.out.size))
    have HU2 := Lib.hid (HU1.out.below hb2)
    have d0 := cell_below Hb2.out ch0
    have d1 := cell_below Hb2.out ch1
    clear hb2
    obtain ⟨R1, hR1⟩ : ∃ R, R = wrap64 S1 := ⟨_, rfl⟩
    have HR1 := Lib.hid hR1
    rw [← hR1]
    clear hR1
    have hki : (k : Int) < (n : Int) := by omega
    have hki1 : (k : Int) + 1 < (n : Int) := by omega
    cases bb with
    | false =>
      have hxy : ¬ x < y := of_decide_eq_false Hbb.out.symm
      go_wp2_with fail
      go_quiet (fail)
      have HB2 := Lib.hid (Below.drewN Hb2.out nq)
      go_wp2_with fail
      go_ret
      refine ⟨ret_int ?_, HB2.out⟩
      rw [HR1.out]
    | true =>
      have hxy : x < y := of_decide_eq_true Hbb.out.symm
      go_wp2_with fail
      go_quiet (fail)
      have HB2 := Lib.hid (Below.drewN Hb2.out nq)
      have HU3 := Lib.hid (HU2.out.drewN nq)
      generalize w2.drewN nq = w3 at *
      have e0 := cell_below HB2.out cu0
      have e1 := cell_below HB2.out cu1
      have e2 := cell_below HB2.out cy0
      have e3 := cell_below HB2.out cy1
      have hm0i : (m0 : Int) < (n : Int) := by omega
      have hm1i : (m1 : Int) < (n : Int) := by omega
      have hk0 : (0 : Int) ≤ (k : Int) + 1 := by omega
      have hkn2 : ((k : Int) + 1).toNat = k + 1 := by omega
      obtain ⟨R2, hR2⟩ : ∃ R, R = wrap64 S2 := ⟨_, rfl⟩
      have HR2 := Lib.hid hR2
      have hBB : Below w.heap.size w w3.drew := HB2.out.drew
      have hw1 : IntKind.i64.wrap ((k : Int) + 1) = (k : Int) + 1 := k64 (by omega) (by omega)
      have hw2 : IntKind.i64.wrap ((t : Int) + 1) = (t : Int) + 1 := k64 (by omega) (by omega)
      have hw3 : IntKind.i64.wrap (b - a) = b - a := k64 (by omega) (by omega)
      clear cu0 cu1 cy0 cy1 ch0 ch1 d0 d1 cw0 hR2 ha9 hb9
      go_wp2_with fail
      go_region_held3 (fun w' => (w'.cell? ⟨bu, ou + k, none⟩ = some (.int .i64 (m0 : Int)) ∧ w'.cell? ⟨bu, ou + (k + 1), none⟩ = some (.int .i64 (m1 : Int)) ∧ w'.cell? ⟨by', oy + m0, none⟩ = some (.int .i64 a) ∧ w'.cell? ⟨by', oy + m1, none⟩ = some (.int .i64 b)) ∧ Below w.heap.size w w')
        (first | with_reducible assumption | exact ⟨⟨e0, e1, e2, e3⟩, hBB⟩ | exact keep4 hb4 (by assumption) | exact keep4 hb5 (by assumption))
        (first
          | (go_at_call 48; refine (l1Swap_any _ h k (k + 1) _ (held_ints HH.out (by assumption)) (by rw [Hhl.out]; omega) (by rw [Hhl.out]; omega) (by rw [Hhl.out]; omega)).mono ?_; rintro e w4 ⟨u4, rfl, ho4, hb4⟩; have HH4 := Lib.hid (show Ints w4 u4 (sw k h) from ho4.ints); have HU4 := Lib.hid ((HU3.out.below (Below.refl _ _).drew).below hb4))
          | (go_at_call 35; refine (Ih.out (t + 1) (sw k u) (sw k h) _ _ _ _ _ _ (by have := Hat.out; omega) (Hpl.out.sw hkn) (by rw [sw_length]; exact Hhl.out) (held_ints HV.out (by assumption)) (held_ints HW.out (by assumption)) HU4.out HH4.out (held_ints HY.out (by assumption))).mono ?_; rintro e w5 ⟨rfl, hb5⟩; rw [← HS2.out, ← HR2.out]))
      have hS : (w5.cell? ⟨bu, ou + k, none⟩ = some (.int .i64 (m0 : Int)) ∧ w5.cell? ⟨bu, ou + (k + 1), none⟩ = some (.int .i64 (m1 : Int)) ∧ w5.cell? ⟨by', oy + m0, none⟩ = some (.int .i64 a) ∧ w5.cell? ⟨by', oy + m1, none⟩ = some (.int .i64 b)) ∧ Below w.heap.size w w5 := by assumption
      have HS := Lib.hid hS.2
      clear hS hw1 hw2 hw3
      obtain ⟨R, hR⟩ : ∃ R, R = IntKind.i64.wrap (R1 + IntKind.i64.wrap ((b - a) * R2)) := ⟨_, rfl⟩
      have HR := Lib.hid hR
      rw [← hR]
      clear hR
      go_wp2_with fail
      go_ret
      refine ⟨ret_int ?_, HS.out⟩
      rw [HR.out, HR1.out, HR2.out]
      have e : ∀ z, IntKind.i64.wrap z = wrap64 z := fun z => IntWalk.i64_left z
      rw [e, e]
      refine wrap_eq ?_
      refine (wrap_cg _).add ((wrap_cg _).trans ?_)
      exact (Cg.refl _).mul (wrap_cg _)

set_option maxRecDepth 100000 in
set_option maxHeartbeats 2000000 in
theorem l8Local_any (n : Nat) (vs xs ys : List Int) (pv px py : Value) (w : World) (hp : P5 n xs) (h1 : 1 ≤ n) (hvl : vs.length = n) (hyl : ys.length = n) (hy9 : ∀ x ∈ ys, -9 ≤ x ∧ x ≤ 9) (hv : Ints w pv vs) (hx : Ints w px xs) (hy : Ints w py ys) :
    Calls Try.prog 19 #[pv, px, py] w fun e w' => e = .returned (.int .i64 (wrap64 (sumS vs ys (fstL xs) (idL n) (idL n)))) ∧ Below w.heap.size w w' := by
  have Hp := Lib.hid hp
  have HX := Lib.hid hx
  have HV := Lib.hid hv
  have HY := Lib.hid hy
  have Hvl := Lib.hid hvl
  have Hyl := Lib.hid hyl
  have Hy9 := Lib.hid hy9
  have Hxl := Lib.hid hp.len
  have h5 := hp.le
  obtain ⟨ppx, cx, rfl, ⟨hx1, hx2⟩, hxc⟩ := hx
  unfold maxLen at hx2
  rw [hp.len] at hx1 HX ⊢
  clear hxc hv hy hvl hyl hy9 hp
  go_enter Try.func19, Try.ntmps19
  go_wp2_with fail
  refine (l8First_any _ xs _ HX.out (by rw [Hxl.out]; exact Hp.out)).mono ?_
  rintro e w1 ⟨u1, rfl, ho1, hb1⟩
  have HF := Lib.hid ho1.ints
  obtain ⟨p1, c1, rfl, hc1, hc2⟩ := ho1.shape
  have Hb1 := Lib.hid hb1
  clear ho1 hb1
  go_wp2_with fail
  refine (specIdentity_any n _ h1 (by omega)).mono ?_
  rintro e w2 ⟨u2, rfl, ho2, hb2⟩
  have HI2 := Lib.hid ho2.ints
  obtain ⟨p2, c2, rfl, hc3, hc4⟩ := ho2.shape
  have Hb2 := Lib.hid (Hb1.out.trans (hb2.mono Hb1.out.size))
  have HF2 := Lib.hid (HF.out.below hb2)
  clear ho2 hb2
  go_wp2_with fail
  refine (specIdentity_any n _ h1 (by omega)).mono ?_
  rintro e w3 ⟨u3, rfl, ho3, hb3⟩
  have HI3 := Lib.hid ho3.ints
  obtain ⟨p3, c3, rfl, hc5, hc6⟩ := ho3.shape
  have Hb3 := Lib.hid (Hb2.out.trans (hb3.mono Hb2.out.size))
  have HF3 := Lib.hid (HF2.out.below hb3)
  have HI2b := Lib.hid (HI2.out.below hb3)
  clear ho3 hb3
  go_wp2_with fail
  have hw := wrd_at Hp.out
  refine (l8Sum_any n vs (fstL xs) ys h5 Hvl.out Hyl.out Hy9.out hw.2.1 hw.2.2.1 (fstL xs).length 0 (idL n) (idL n) _ _ _ _ _ _ (by omega) ⟨idL_length n, fun j hj => ⟨j, idL_getD hj, hj⟩⟩ (idL_length n) (HV.out.below Hb3.out) HF3.out HI2b.out HI3.out (HY.out.below Hb3.out)).mono ?_
  rintro e w4 ⟨rfl, hb4⟩
  have Hb4 := Lib.hid (Hb3.out.trans (hb4.mono Hb3.out.size))
  rw [List.drop_zero]
  obtain ⟨R, hR⟩ : ∃ R, R = wrap64 (sumS vs ys (fstL xs) (idL n) (idL n)) := ⟨_, rfl⟩
  have HR := Lib.hid hR
  rw [← hR]
  clear hw hb4 hR
  go_wp2_with fail
  go_ret
  exact ⟨ret_int HR.out, Hb4.out⟩

end Go.Proofs.Ytfpjenmehoemcaa

namespace Go.Proofs.Ytfpjenmehoemcaa
set_option linter.all false
open Go.RowKit

/-! ### values -/
/-- the value of a permutation's polynomial -/
def EV (T : Pl) (v x : List Int) : Int := Ev (lowP 10 v T) (mono x)
def Dst (n : Nat) (x : List Int) : Prop := x.length = 7 ∧ ∀ i j, i < j → j < n → x.getD i 0 ≠ x.getD j 0
theorem sw_getD {x : List Int} {k t : Nat} (hk : k + 1 < x.length) : (sw k x).getD t 0 = if t = k + 1 then x.getD k 0 else if t = k then x.getD (k + 1) 0 else x.getD t 0 := swapL_getD (by omega) hk
theorem sw_at {x : List Int} {k : Nat} (hk : k + 1 < x.length) : (sw k x).getD k 0 = x.getD (k + 1) 0 := by rw [sw_getD hk, if_neg (by omega), if_pos rfl]
theorem sw_at1 {x : List Int} {k : Nat} (hk : k + 1 < x.length) : (sw k x).getD (k + 1) 0 = x.getD k 0 := by rw [sw_getD hk, if_pos rfl]
theorem sw_off {x : List Int} {k t : Nat} (hk : k + 1 < x.length) (h1 : t ≠ k) (h2 : t ≠ k + 1) : (sw k x).getD t 0 = x.getD t 0 := by rw [sw_getD hk, if_neg h2, if_neg h1]
theorem sw_sw {x : List Int} {k : Nat} (hk : k + 1 < x.length) : sw k (sw k x) = x := by
  refine getD_eq_list (by rw [sw_length, sw_length]) fun t _ => ?_
  rw [sw_getD (by rw [sw_length]; exact hk), sw_at hk, sw_at1 hk, sw_getD hk]
  by_cases h1 : t = k + 1
  · rw [if_pos h1, h1]
  · rw [if_neg h1, if_neg h1]
    by_cases h2 : t = k
    · rw [if_pos h2, h2]
    · rw [if_neg h2, if_neg h2]
theorem sw_far {x : List Int} {j k : Nat} (hk : k + 1 < x.length) (hjk : j + 2 ≤ k) : sw k (sw j x) = sw j (sw k x) := by
  have lj : j + 1 < x.length := by omega
  have lk : k + 1 < (sw j x).length := by rw [sw_length]; exact hk
  have lj2 : j + 1 < (sw k x).length := by rw [sw_length]; exact lj
  refine getD_eq_list (by simp only [sw_length]) fun t _ => ?_
  rw [sw_getD lk, sw_getD lj2, sw_getD lj, sw_getD lj, sw_getD (t := t) lj, sw_getD (t := j) hk, sw_getD (t := j + 1) hk, sw_getD (t := t) hk]
  repeat' split
  all_goals (first | rfl | omega)
theorem sw_near {x : List Int} {j : Nat} (hk : j + 2 < x.length) : sw j (sw (j + 1) (sw j x)) = sw (j + 1) (sw j (sw (j + 1) x)) := by
  have l0 : j + 1 < x.length := by omega
  have l1 : j + 1 + 1 < x.length := by omega
  have a1 : j + 1 + 1 < (sw j x).length := by rw [sw_length]; exact l1
  have b1 : j + 1 < (sw (j + 1) x).length := by rw [sw_length]; exact l0
  have a2 : j + 1 < (sw (j + 1) (sw j x)).length := by rw [sw_length, sw_length]; exact l0
  have b2 : j + 1 + 1 < (sw j (sw (j + 1) x)).length := by rw [sw_length, sw_length]; exact l1
  refine getD_eq_list (by simp only [sw_length]) fun t _ => ?_
  by_cases h0 : t = j
  · rw [h0, sw_at a2, sw_at a1, sw_off l0 (by omega) (by omega), sw_off b2 (by omega) (by omega), sw_at b1, sw_at l1]
  · by_cases h1 : t = j + 1
    · rw [h1, sw_at1 a2, sw_off a1 (by omega) (by omega), sw_at l0, sw_at b2, sw_off b1 (by omega) (by omega), sw_at1 l1]
    · by_cases h2 : t = j + 1 + 1
      · rw [h2, sw_off a2 (by omega) (by omega), sw_at1 a1, sw_at1 l0, sw_at1 b2, sw_at1 b1, sw_off l1 (by omega) (by omega)]
      · rw [sw_off a2 h0 h1, sw_off a1 h1 h2, sw_off l0 h0 h1, sw_off b2 h1 h2, sw_off b1 h0 h1, sw_off l1 h1 h2]
theorem Dst.sw {n : Nat} {x : List Int} (h : Dst n x) (hn : n ≤ 7) {k : Nat} (hk : k + 1 < n) : Dst n (sw k x) := by
  refine ⟨by rw [sw_length]; exact h.1, fun i j hij hj => ?_⟩
  have hl := h.1
  rw [sw_getD (by omega), sw_getD (by omega)]
  repeat' split
  all_goals first | (exact h.2 _ _ (by omega) (by omega)) | (exact fun e => h.2 _ _ (show _ < _ from by omega) (by omega) e.symm) | omega

theorem low_step {T : Pl} {n : Nat} {v : List Int} (h : P5 n v) {k : Nat} (hf : fasc v = some k) : lowP 10 v T = dvP k (lowP 10 (sw k v) T) := by
  have h0 := h.low
  rw [lowOk, hf] at h0
  rw [lowP, hf]
  dsimp only at h0 ⊢
  rw [← low_more 9 10 _ h0 (by omega)]
  rfl
theorem EV_first {T : Pl} (hT : Pos7 T) {n : Nat} {v : List Int} (h : P5 n v) {k : Nat} (hf : fasc v = some k) {x : List Int} (hx : x.length = 7) :
    (x.getD k 0 - x.getD (k + 1) 0) * EV T v x = EV T (sw k v) x - EV T (sw k v) (sw k x) := by
  unfold EV
  rw [low_step h hf]
  have hk := fasc_lt hf
  have hl := h.len
  have h5 := h.le
  exact dv_val (by omega) hx (hT.low 10 _ (by rw [sw_length]; omega))
/-- divided differences along any way, at different numbers -/
def WayAt (T : Pl) (n : Nat) (v : List Int) (k : Nat) (x : List Int) : Prop := (x.getD k 0 - x.getD (k + 1) 0) * EV T v x = EV T (sw k v) x - EV T (sw k v) (sw k x)
theorem WayAt.sym {T : Pl} {n : Nat} {v : List Int} {k : Nat} {x : List Int} (hk : k + 1 < x.length) (h : WayAt T n v k x) (h' : WayAt T n v k (sw k x)) : EV T v (sw k x) = EV T v x := by
  unfold WayAt at h h'
  rw [sw_sw hk, sw_at hk, sw_at1 hk] at h'
  by_cases e : x.getD k 0 = x.getD (k + 1) 0
  · have : sw k x = x := by
      refine getD_eq_list (sw_length _ _) fun t _ => ?_
      rw [sw_getD hk]
      split
      · rename_i h; rw [h, e]
      · split
        · rename_i h; rw [h, e]
        · rfl
    rw [this]
  · have : (x.getD k 0 - x.getD (k + 1) 0) * (EV T v x - EV T v (sw k x)) = 0 := by
      have t : ∀ a b p q : Int, (a - b) * (p - q) = (a - b) * p + (b - a) * q := fun a b p q => by grind
      rw [t, h, h']; omega
    have := cancel (by omega) this
    omega
theorem way_dst {T : Pl} (hT : Pos7 T) {n : Nat} : ∀ (m : Nat) (v : List Int), P5 n v → upN v = m → ∀ k, k + 1 < n → ascB k v = true → ∀ x, Dst n x → WayAt T n v k x := by
  intro m
  induction m using Nat.strongRecOn with
  | _ m ih =>
    intro v hv hm k hk ha x hx
    have h5 := hv.le
    have hxl := hx.1
    obtain ⟨j, hj⟩ : ∃ j, fasc v = some j := by
      cases hf : fasc v with
      | some j => exact ⟨j, rfl⟩
      | none =>
        exfalso
        have hl := hv.len
        unfold fasc at hf
        rw [List.find?_eq_none] at hf
        have := hf k (List.mem_range.2 (by omega))
        exact this ha
    have hjl := fasc_lt hj
    have hl := hv.len
    have hjn : j + 1 < n := by omega
    have haj : ascB j v = true := by unfold ascB; exact decide_eq_true hjl.2.1
    have hjk : j ≤ k := Nat.not_lt.1 fun hlt => hjl.2.2 k hlt (of_decide_eq_true ha)
    have sub : ∀ u, P5 n u → upN u < upN v → ∀ i, i + 1 < n → ascB i u = true → ∀ x, Dst n x → WayAt T n u i x := fun u hu hlt i hi hai x hx => ih (upN u) (by omega) u hu rfl i hi hai x hx
    have first : ∀ x : List Int, x.length = 7 → WayAt T n v j x := fun x hx => EV_first hT hv hj hx
    have uj := (hv.asc hjn haj).1
    have uk := (hv.asc hk ha).1
    rcases Nat.lt_or_eq_of_le hjk with hlt | rfl
    · rcases Nat.lt_or_eq_of_le (Nat.succ_le_of_lt hlt) with h2 | h2
      · -- far letters
        obtain ⟨f1, f2, f3⟩ := hv.far hk (by omega) haj ha
        have a1 := first x hx.1
        have b1 := sub _ (hv.sw hjn) (by omega) k hk f1 x hx
        have b2 := sub _ (hv.sw hjn) (by omega) k hk f1 _ (hx.sw (by omega) hjn)
        have c1 := sub _ (hv.sw hk) (by omega) j hjn f2 x hx
        have c2 := sub _ (hv.sw hk) (by omega) j hjn f2 _ (hx.sw (by omega) hk)
        unfold WayAt at a1 b1 b2 c1 c2 ⊢
        have q1 : (Go.Proofs.Ytfpjenmehoemcaa.sw j x).getD k 0 = x.getD k 0 := sw_off (by omega) (by omega) (by omega)
        have q2 : (Go.Proofs.Ytfpjenmehoemcaa.sw j x).getD (k + 1) 0 = x.getD (k + 1) 0 := sw_off (by omega) (by omega) (by omega)
        have q3 : (Go.Proofs.Ytfpjenmehoemcaa.sw k x).getD j 0 = x.getD j 0 := sw_off (by omega) (by omega) (by omega)
        have q4 : (Go.Proofs.Ytfpjenmehoemcaa.sw k x).getD (j + 1) 0 = x.getD (j + 1) 0 := sw_off (by omega) (by omega) (by omega)
        rw [q1, q2, f3, sw_far (x := x) (j := j) (k := k) (by omega) (by omega)] at b2
        rw [q3, q4] at c2
        rw [f3] at b1
        have hne := hx.2 j (j + 1) (by omega) hjn
        have key : (x.getD j 0 - x.getD (j + 1) 0) * ((x.getD k 0 - x.getD (k + 1) 0) * EV T v x - (EV T (Go.Proofs.Ytfpjenmehoemcaa.sw k v) x - EV T (Go.Proofs.Ytfpjenmehoemcaa.sw k v) (Go.Proofs.Ytfpjenmehoemcaa.sw k x))) = 0 := by
          have t : ∀ A B p q r : Int, A * (B * p - (q - r)) = B * (A * p) - (A * q - A * r) := fun A B p q r => by grind
          rw [t, a1, c1, c2]
          have t2 : ∀ B p q : Int, B * (p - q) = B * p - B * q := fun B p q => by grind
          rw [t2, b1, b2]
          omega
        have := cancel (by omega) key
        omega
      · -- neighbours
        obtain rfl : k = j + 1 := by omega
        obtain ⟨f1, f2, f3, f4, f5⟩ := hv.near (by omega) haj ha
        have vj := hv.sw hjn
        have vk := hv.sw hk
        have vjk := vj.sw hk
        have vkj := vk.sw hjn
        have u1 := (vj.asc hk f1).1
        have u2 := (vk.asc hjn f3).1
        have D0 := hx
        have D1 := hx.sw (by omega) hjn
        have D2 := hx.sw (by omega) hk
        have D12 := D1.sw (by omega) hk
        have D21 := D2.sw (by omega) hjn
        have l0 : j + 2 < x.length := by omega
        have lj : j + 1 < x.length := by omega
        have h1 := sub _ vjk (by omega) j hjn f2 x D0
        have h1s := sub _ vjk (by omega) j hjn f2 _ D1
        have h2 := sub _ vjk (by omega) j hjn f2 _ D2
        have h3 := sub _ vjk (by omega) j hjn f2 _ D12
        have h4 := sub _ vj (by omega) (j + 1) hk f1 x D0
        have h5' := sub _ vj (by omega) (j + 1) hk f1 _ D1
        have h6 := first x hx.1
        have g1 := sub _ vkj (by omega) (j + 1) hk f4 x D0
        have g1s := sub _ vkj (by omega) (j + 1) hk f4 _ D2
        have g2 := sub _ vkj (by omega) (j + 1) hk f4 _ D1
        have g3 := sub _ vkj (by omega) (j + 1) hk f4 _ D21
        have g4 := sub _ vk (by omega) j hjn f3 x D0
        have g5 := sub _ vk (by omega) j hjn f3 _ D2
        have s1 := h1.sym lj h1s
        have s2 := g1.sym l0 g1s
        unfold WayAt at h1 h2 h3 h4 h5' h6 g1 g2 g3 g4 g5 ⊢
        have n12 := hx.2 j (j + 1) (by omega) (by omega)
        have n13 := hx.2 j (j + 2) (by omega) (by omega)
        have n23 := hx.2 (j + 1) (j + 2) (by omega) (by omega)
        have p1a : (Go.Proofs.Ytfpjenmehoemcaa.sw j x).getD j 0 = x.getD (j + 1) 0 := sw_at lj
        have p1b : (Go.Proofs.Ytfpjenmehoemcaa.sw j x).getD (j + 1) 0 = x.getD j 0 := sw_at1 lj
        have p1c : (Go.Proofs.Ytfpjenmehoemcaa.sw j x).getD (j + 1 + 1) 0 = x.getD (j + 2) 0 := sw_off lj (by omega) (by omega)
        have p2a : (Go.Proofs.Ytfpjenmehoemcaa.sw (j + 1) x).getD j 0 = x.getD j 0 := sw_off l0 (by omega) (by omega)
        have p2b : (Go.Proofs.Ytfpjenmehoemcaa.sw (j + 1) x).getD (j + 1) 0 = x.getD (j + 2) 0 := sw_at l0
        have p2c : (Go.Proofs.Ytfpjenmehoemcaa.sw (j + 1) x).getD (j + 1 + 1) 0 = x.getD (j + 1) 0 := sw_at1 l0
        have p12a : (Go.Proofs.Ytfpjenmehoemcaa.sw (j + 1) (Go.Proofs.Ytfpjenmehoemcaa.sw j x)).getD j 0 = x.getD (j + 1) 0 := by rw [sw_off (by rw [sw_length]; omega) (by omega) (by omega), p1a]
        have p12b : (Go.Proofs.Ytfpjenmehoemcaa.sw (j + 1) (Go.Proofs.Ytfpjenmehoemcaa.sw j x)).getD (j + 1) 0 = x.getD (j + 2) 0 := by rw [sw_at (by rw [sw_length]; omega), p1c]
        have p21b : (Go.Proofs.Ytfpjenmehoemcaa.sw j (Go.Proofs.Ytfpjenmehoemcaa.sw (j + 1) x)).getD (j + 1) 0 = x.getD j 0 := by rw [sw_at1 (by rw [sw_length]; omega), p2a]
        have p21c : (Go.Proofs.Ytfpjenmehoemcaa.sw j (Go.Proofs.Ytfpjenmehoemcaa.sw (j + 1) x)).getD (j + 1 + 1) 0 = x.getD (j + 1) 0 := by rw [sw_off (by rw [sw_length]; omega) (by omega) (by omega), p2c]
        rw [p2a, p2b] at h2
        rw [p12a, p12b] at h3
        rw [p1b, p1c] at h5' g2
        rw [p2a, p2b] at g5
        rw [p21b, p21c] at g3
        rw [s1] at h5'
        rw [s2] at g5
        rw [← f5] at g1 g2 g3
        rw [sw_near l0] at h3
        show (x.getD (j + 1) 0 - x.getD (j + 2) 0) * _ = _
        exact braid _ _ _ _ _ _ _ _ _ _ _ _ _ _ _ _ _ 0 _ _ _ (by omega) (by omega) (by omega) h1 h2 h3 h4 h5' h6 g1 g2 g3 g4 g5
    · exact first x hx.1

end Go.Proofs.Ytfpjenmehoemcaa
