/-
  The reference's words and its sums over subwords: the walks.
  The reference's sums over subwords: l8Sum, l8Local, Localize.
  double: the double Schubert polynomial of a permutation.
  What the program asks of numbers; its exchange of two places; the search among permutations.
  Localize on both sides.
  NewSession: what both make, and the law's helpers on sessions whose classes and shape are empty.
  The program's allPerms and AllPerms.
-/
import Derived.Test.YtlbflckoodjokaaGreatJ11
import Derived.Test.YtlbflckoodjokaaGreatJ13
import Derived.Test.YtlbflckoodjokaaGreatJ9
import Derived.Test.YtlbflckoodjokaaGreatJ2
import Derived.Deep.RegionHeld3
import Derived.Test.YtlbflckoodjokaaGreatJ10
import Derived.Test.YtlbflckoodjokaaGreatJ4
import Derived.BigRegion
import Derived.Test.YtlbflckoodjokaaGreatJ1
import Derived.Test.YtlbflckoodjokaaGreatJ3
namespace Go.Proofs.YtlbflckoodjokaaGreat
set_option linter.all false
set_option maxRecDepth 100000
open Go.RowKit

/-- a list that lies in no block that grows -/
def Apart (v u : Value) : Prop := ∀ b off l k, v = .slice (some ⟨b, off, none⟩) l k → u.ownBlock ≠ some b
theorem Ints.grown {w w' : World} {v u : Value} {xs : List Int} (h : Ints w v xs) (hg : w.grownBy w' u.ownBlock) (hn : Apart v u) : Ints w' v xs := by
  obtain ⟨p, cap, rfl, h1, hc⟩ := h
  refine ⟨p, cap, rfl, h1, fun h0 => ?_⟩
  obtain ⟨b, off, rfl, hc2⟩ := hc h0
  refine ⟨b, off, rfl, fun j hj => ?_⟩
  have hc0 := hc2 j hj
  rw [← hc0]
  exact World.cell?_of_block (hg.block b (World.block_lt_of_cell? _ _ hc0) (fun e => hn b off _ _ rfl e.symm))
theorem Ints.apart {w : World} {v u : Value} {xs : List Int} (h : Ints w v xs) (h0 : 0 < xs.length) {lo : Nat} (hlo : w.heap.size ≤ lo) (hu : ∀ k, u.ownBlock = some k → lo ≤ k) : Apart v u := by
  obtain ⟨p, cap, rfl, h1, hc⟩ := h
  obtain ⟨b, off, rfl, hc2⟩ := hc h0
  intro b' off' l k e hb
  injection e with e
  injection e with e
  injection e with e1
  subst e1
  have : b < w.heap.size := World.block_lt_of_cell? _ _ (hc2 0 h0)
  have := hu _ hb
  omega
theorem apart_own {T : TypeId} {w : World} {lo hi : Nat} {v u : Value} {xs : List Int} (h : OwnI T w lo hi v xs) (hu : ∀ k, u.ownBlock = some k → k < lo) : Apart v u := by
  intro b off l k e hb
  have h1 := hu _ hb
  have := h.fn.blocks b (by rw [e]; rfl)
  omega

set_option maxRecDepth 100000 in
set_option maxHeartbeats 4000000 in
theorem l8First_any (v : Value) (xs : List Int) (w : World) (h : Ints w v xs) (hp : P5 xs.length xs) :
    Calls Tryz.prog 66 #[v] w (RetI w (wz (fstL xs))) := by
  have Hh := Lib.hid h
  have Hp := Lib.hid hp
  obtain ⟨p, cap, rfl, ⟨hx1, hx2⟩, hxc⟩ := h
  unfold maxLen at hx2
  obtain ⟨n, hn⟩ : ∃ n, n = xs.length := ⟨_, rfl⟩
  have hn5 := hp.le
  have Hn := Lib.hid hn
  rw [← hn] at hx1 hn5 Hp Hh ⊢
  obtain ⟨W0, hW0⟩ : ∃ W, W = fstL xs := ⟨_, rfl⟩
  have HW := Lib.hid hW0
  have HWl := Lib.hid (wrd_at hp).2.2.1
  rw [← hW0] at HWl ⊢
  have Hp1 := Lib.hid (show 1 ≤ n from by have := hp.ok; simp only [permOk, decide_eq_true_eq] at this; rw [hn]; exact this.1)
  clear hxc hp hn hW0
  go_enter Tryz.func66, Tryz.ntmps66
  go_wp2_with fail
  go_loopg [0, 3] (lnN xs) (fun g s0 s3 wr => ∃ (c : List Int) (r : List Nat), P5 n c ∧ g = lnN c ∧ Hid (W0 = r ++ firL (lnN c) c) ∧ Hid (Ints wr s0 c) ∧ Hid (Below w.heap.size w wr) ∧ Hid (OwnI 3 wr w.heap.size wr.heap.size s3 (wz r)) ∧ Hid (Apart s0 s3))
  case atStart =>
    refine ⟨xs, [], Hp.out, rfl, Lib.hid ?_, Lib.hid (Hh.out.below (below_alloc w _)), below_alloc w _, ?_, Lib.hid (Hh.out.apart (by rw [← Hn.out]; exact Hp1.out) (Nat.le_refl _) fun k hk => by cases hk; exact Nat.le_refl _)⟩
    · rw [HW.out]; rfl
    · exact OwnF.ints ((OwnF.made0 w 3 (iv [])).mono (Nat.le_refl _) (by simp))
  case round =>
    obtain ⟨c, r, hc5, rfl, hW, hI, hb, ho, hap⟩ := hrel
    obtain ⟨wx, rfl⟩ : ∃ x : World, x = wr := ⟨_, rfl⟩
    have HI := Lib.hid hI.out
    have Hb := Lib.hid hb.out
    have HW2 := Lib.hid hW.out
    have Ho := Lib.hid ho.out
    have hcl := hc5.len
    have hsr := hb.out.size
    obtain ⟨pc, kc, rfl, ⟨hc1, hc2⟩, _⟩ := hI.out
    obtain ⟨p3, k3, rfl, hk3, hk4⟩ := ho.out.shape
    unfold maxLen at hc2
    rw [hcl] at HI hc1 hap ⊢
    have Hap := Lib.hid hap.out
    have Hcl := Lib.hid hcl
    clear hI hb hW ho hcl hap
    go_wp2_with fail
    refine (l1Length_any _ c _ HI.out (by rw [Hcl.out]; omega)).mono ?_
    rintro e w1 ⟨rfl, hb1⟩
    have Hb1 := Lib.hid hb1
    clear hb1
    obtain ⟨L, hL⟩ : ∃ L, L = lnN c := ⟨_, rfl⟩
    have HL := Lib.hid hL
    rw [← hL]
    clear hL
    by_cases h0 : L = 0
    · subst h0
      go_wp2_with fail
      go_ret
      refine ⟨_, rfl, ?_, Hb.out.trans (Hb1.out.mono hsr)⟩
      have := HW2.out
      rw [← HL.out] at this
      rw [this, firL, List.append_nil]
      exact (Ho.out.below Hb1.out).mono (Nat.le_refl _) Hb1.out.size
    · have hF := fir_at hc5 (by rw [← HL.out]; exact h0)
      have HF := Lib.hid hF
      obtain ⟨k, hk⟩ : ∃ k, k = frN c := ⟨_, rfl⟩
      have Hk := Lib.hid hk
      have hkn : k + 1 < n := by have := hF.lt; rw [Hcl.out] at this; omega
      have h0' : (0 : Int) < (L : Int) := by omega
      have Hc5 := Lib.hid hc5
      clear hF hk hc5
      go_wp2_with fail
      refine (specInverse_any _ c _ (HI.out.below Hb1.out) Hc5.out.ok).mono ?_
      rintro e w2 ⟨u2, rfl, ho2, hb2⟩
      have Ho2 := Lib.hid ho2
      have Hb2 := Lib.hid (Hb1.out.trans (hb2.mono Hb1.out.size))
      obtain ⟨p4, k4, rfl, hk5, hk6⟩ := ho2.shape
      unfold maxLen at hk6
      have hofn := ho2.fn
      rw [invL_length, Hcl.out] at hk5 hofn ⊢
      obtain ⟨g4, rfl, hg1, hg2, hg3⟩ := hofn.at_ (by omega)
      have Hofn := Lib.hid hofn
      clear ho2 hb2 hofn
      obtain ⟨B, hB⟩ : ∃ B, B = invL c := ⟨_, rfl⟩
      have HB := Lib.hid hB
      rw [← hB] at Hofn
      have hrk : ∀ j, j < n → ∃ m : Nat, B.getD j 0 = (m : Int) ∧ m < n := fun j hj => by rw [hB]; have := HF.out.rng j (by rw [Hcl.out]; exact hj); rw [Hcl.out] at this; exact this
      have Hrk := Lib.hid hrk
      have Hup := Lib.hid (show ∀ j, j < k → B.getD j 0 < B.getD (j + 1) 0 from fun j hj => by rw [hB]; exact of_decide_eq_true (HF.out.up j (by rw [← Hk.out]; exact hj)))
      have Hdn := Lib.hid (show B.getD (k + 1) 0 ≤ B.getD k 0 from by rw [hB, Hk.out]; exact Int.not_lt.1 (of_decide_eq_false HF.out.down))
      clear hB hrk
      go_wp2_with fail
      go_loopg [5] (k + 1) (fun g s5 wr => ∃ j : Nat, j ≤ k ∧ g = k + 1 - j ∧ s5 = .int .i64 (j : Int) ∧ Qt w2 wr)
      case atStart => exact ⟨0, Nat.zero_le _, rfl, rfl, Qt.refl _⟩
      case round =>
        obtain ⟨j, hj, rfl, rfl, hq⟩ := hrel
        obtain ⟨wy, rfl⟩ : ∃ x : World, x = wr := ⟨_, rfl⟩
        have c1 := hq.cell (Hofn.out.cell (show j < n by omega))
        have c2 := hq.cell (Hofn.out.cell (show j + 1 < n by omega))
        unfold iv at c1 c2
        obtain ⟨x, hx⟩ : ∃ x, x = B.getD j 0 := ⟨_, rfl⟩
        obtain ⟨y, hy⟩ : ∃ y, y = B.getD (j + 1) 0 := ⟨_, rfl⟩
        rw [← hx] at c1
        rw [← hy] at c2
        have Hx := Lib.hid hx
        have Hy := Lib.hid hy
        have HQ := Lib.hid hq
        have hj1 : (j : Int) < (n : Int) := by omega
        have hj2 : (j : Int) + 1 < (n : Int) := by omega
        clear hx hy hq
        by_cases hjk : j < k
        · have hxy : x < y := by rw [Hx.out, Hy.out]; exact Hup.out j hjk
          go_wp2_with fail
          go_quiet (fail)
          have HQ1 := Lib.hid (HQ.out.drewN nq)
          go_wp2_with fail
          go_roundg (k + 1 - (j + 1))
          case measure => omega
          case rel => exact ⟨j + 1, by omega, rfl, by go_num, HQ1.out⟩
        · have hjk2 : j = k := by omega
          have hxy : ¬ x < y := by rw [Hx.out, Hy.out, hjk2]; exact Int.not_lt.2 Hdn.out
          subst hjk2
          go_wp2_with fail
          go_quiet (fail)
          have HQ1 := Lib.hid (HQ.out.drewN nq)
          generalize wy.drewN nq = wv at *
          have Hrl := Lib.hid (show (wz r).length + 1 ≤ 1000 from by
            have := HWl.out
            have h2 := HW2.out
            rw [h2] at this
            rw [wz_length]
            rw [List.length_append] at this
            omega)
          have hBwv : Below wx.heap.size wx wv := (Hb2.out.trans ((HQ1.out.below _).mono Hb2.out.size))
          have HBwv := Lib.hid hBwv
          have Hsz := Lib.hid HQ1.out.size
          have hwv : w.heap.size ≤ wv.heap.size := Nat.le_trans hsr HBwv.out.size
          clear hBwv c1 c2
          go_wp2_with (at_builtin; go_must (refine wpList_append_F rfl (.tmp 25) (.tmp 27) 22 rfl 3 (.int .i64 0) 8 Tryz.underlying22 info_int rfl w.heap.size wv.heap.size _ (wz r).length (iv (wz r)) rfl (((Ho.out.below HBwv.out).mono (Nat.le_refl _) HBwv.out.size).fn.below (below_alloc wv _)) (by rw [size_alloc]; omega) (by rw [size_alloc]; omega) _ 1 _ rfl (rd_one _ _ _ rfl) (fun j _ => rfl) (by have := Hrl.out; unfold maxLen; omega) (by have := Hrl.out; omega) ?_; intro v3 w3 ho3 hg3))
          have hg3' : (wv.alloc (.cells #[.int .i64 (j : Int)] 3)).grownBy w3 (Value.slice p3 (wz r).length k3).ownBlock := hg3
          have HI3 := Lib.hid (((HI.out.below HBwv.out).below (below_alloc wv _)).grown hg3' Hap.out)
          have hblk := Ho.out.fn.blocks
          have hsx := Hb1.out.size
          have Hof3 := Lib.hid (((Hofn.out.below (HQ1.out.below _)).below (below_alloc wv _)).grown hg3' (fun k hk e => by
            have hk' : k = g4 := by injection hk with hk; exact hk.symm
            have := (hblk _ e).2
            omega))
          have hb3 : Below w.heap.size w w3 := ((Hb.out.trans (HBwv.out.mono hsr)).trans ((below_alloc wv _).mono hwv)).trans (grownBy_below hg3' hblk (Nat.le_refl _) (by rw [size_alloc]; omega))
          have Hb3 := Lib.hid hb3
          have Ho3 := Lib.hid (OwnI.snoc1 ho3)
          have hs3 : wv.heap.size + 1 ≤ w3.heap.size := by have := hg3'.size; rw [size_alloc] at this; exact this
          have hblk3 : ∀ k, v3.ownBlock = some k → k < w3.heap.size := fun k hk => (ho3.blocks k hk).2
          have Hblk3 := Lib.hid hblk3
          obtain ⟨pv, kv3, rfl, _, _⟩ := ho3.shape
          clear hg3 hg3' hb3 ho3 hblk hblk3
          refine (l1Ints_any _ c _ HI3.out (by rw [Hcl.out]; omega)).mono ?_
          rintro e w4 ⟨u5, rfl, ho5, hb5⟩
          have hofn5 := ho5.fn
          obtain ⟨p5, k5, rfl, hk51, hk52⟩ := ho5.shape
          rw [Hcl.out] at hk51 hofn5 ⊢
          unfold maxLen at hk52
          obtain ⟨g5, rfl, hg51, hg52, hg53⟩ := hofn5.at_ (by omega)
          obtain ⟨m1, hm1, hm1n⟩ := Hrk.out j (by omega)
          obtain ⟨m2, hm2, hm2n⟩ := Hrk.out (j + 1) (by omega)
          have c1 : w4.cell? ⟨g4, j, none⟩ = some (.int .i64 (m1 : Int)) := by rw [← hm1]; exact (Hof3.out.below hb5).cell (by omega)
          have c2 : w4.cell? ⟨g4, j + 1, none⟩ = some (.int .i64 (m2 : Int)) := by rw [← hm2]; exact (Hof3.out.below hb5).cell (by omega)
          have hgb : g5 ≠ g4 := by have := Hsz.out; omega
          have hbg : g4 ≠ g5 := fun e => hgb e.symm
          have f1 := hofn5.frozen m1
          have f2 := hofn5.frozen m2
          have d1 := hofn5.cell hm1n
          obtain ⟨z, d3⟩ : ∃ z, (w4.setCell ⟨g5, m1, none⟩ (.int .i64 ((j : Int) + 1))).cell? ⟨g5, m2, none⟩ = some z := ⟨_, (hofn5.set m1 (.int .i64 ((j : Int) + 1))).cell hm2n⟩
          have hm1i : (m1 : Int) < (n : Int) := by omega
          have hm2i : (m2 : Int) < (n : Int) := by omega
          have Ho5 := Lib.hid ho5
          have Hb5 := Lib.hid hb5
          have Hm1 := Lib.hid hm1
          have Hm2 := Lib.hid hm2
          clear hofn5 ho5 hb5 hm1 hm2
          go_wp2_with fail
          have hless := HF.out.less
          clear hwv
          go_roundg (lnN (frS c))
          case measure => omega
          case rel =>
            have hs3w : w.heap.size ≤ w3.heap.size := Hb3.out.size
            have hset : frS c = (c.set m1 ((j : Int) + 1)).set m2 (j : Int) := by
              unfold frS frV
              rw [← Hk.out, ← HB.out, Hm1.out, Hm2.out]
              simp
            have o5 := (Ho5.out.setG (by rw [Hcl.out]; exact hm1n) ((j : Int) + 1)).setG (t := m2) (by rw [List.length_set, Hcl.out]; exact hm2n) (j : Int)
            rw [← hset] at o5
            have hsz4 := Hb5.out.size
            refine ⟨frS c, r ++ [j], ⟨HF.out.ok, by rw [hset, List.length_set, List.length_set, Hcl.out], hn5⟩, rfl, Lib.hid ?_, Lib.hid ?_, Lib.hid ?_, Lib.hid ?_, Lib.hid ?_⟩
            · rw [HW2.out, ← hless, firL, ← Hk.out, List.append_assoc]; rfl
            · rw [Hcl.out] at o5; exact o5.ints
            · exact ((Hb3.out.trans (Hb5.out.mono hs3w)).setCell (p := ⟨g5, m1, none⟩) (show w.heap.size ≤ g5 by omega) _).setCell (p := ⟨g5, m2, none⟩) (show w.heap.size ≤ g5 by omega) _
            · rw [wz_snoc]
              exact (((Ho3.out.below Hb5.out).setCell (.inr hg51) _).setCell (.inr hg51) _).mono (Nat.le_refl _) (by rw [size_setCell, size_setCell]; exact hsz4)
            · rw [Hcl.out] at o5; exact apart_own o5 Hblk3.out

end Go.Proofs.YtlbflckoodjokaaGreat

namespace Go.Proofs.YtlbflckoodjokaaGreat
set_option linter.all false
set_option maxRecDepth 100000
open Go.RowKit

theorem wrap_cg (x : Int) : Cg (wrap64 x) x := ⟨(wrap64 x - x) / M64, by unfold wrap64 M64; omega⟩
theorem wrap_eq {x y : Int} (h : Cg x y) : wrap64 x = wrap64 y := by
  obtain ⟨m, rfl⟩ := h
  unfold wrap64 M64; omega
/-- numbers of a permutation, each a place -/
def PlcOk (n : Nat) (u : List Int) : Prop := u.length = n ∧ ∀ j, j < n → ∃ m : Nat, u.getD j 0 = (m : Int) ∧ m < n
theorem PlcOk.sw {n : Nat} {u : List Int} (h : PlcOk n u) {k : Nat} (hk : k + 1 < n) : PlcOk n (sw k u) := by
  refine ⟨by rw [sw_length]; exact h.1, fun j hj => ?_⟩
  rw [Go.Proofs.YtlbflckoodjokaaGreat.sw, swapL_getD (by rw [h.1]; omega) (by rw [h.1]; omega)]
  split
  · exact h.2 k (by omega)
  · split
    · exact h.2 (k + 1) hk
    · exact h.2 j hj

set_option maxRecDepth 100000 in
set_option maxHeartbeats 8000000 in
theorem l8Sum_any (n : Nat) (vs : List Int) (word : List Nat) (ys : List Int) (hn5 : n ≤ 5) (hvl : vs.length = n) (hyl : ys.length = n) (hy9 : ∀ x ∈ ys, -9 ≤ x ∧ x ≤ 9) (hwk : ∀ k ∈ word, k + 1 < n) (hwl : word.length ≤ 10) :
    ∀ (m t : Nat) (u h : List Int) (pv pw pu ph py : Value) (w : World), t + m = word.length → PlcOk n u → h.length = n → Ints w pv vs → Ints w pw (wz word) → Ints w pu u → Ints w ph h → Ints w py ys →
    Calls Tryz.prog 65 #[pv, pw, .int .i64 (t : Int), pu, ph, py] w fun e w' => e = .returned (.int .i64 (wrap64 (sumS vs ys (word.drop t) u h))) ∧ Below w.heap.size w w' := by
  intro m
  induction m with
  | zero =>
    intro t u h pv pw pu ph py w hat hu hh Hv Hw Hu Hh Hy
    have HV := Lib.hid Hv
    have HH := Lib.hid Hh
    have HW := Lib.hid Hw
    obtain ⟨pw, cw, rfl, ⟨hw1, hw2⟩, _⟩ := Hw
    rw [wz_length] at hw1 ⊢
    have hat2 : word.length = t := by omega
    have hd : word.drop t = [] := List.drop_eq_nil_of_le (by omega)
    rw [hd, hat2]
    clear hd
    rw [hat2] at hw1
    obtain ⟨b, hb⟩ : ∃ b, b = decide (h = vs) := ⟨_, rfl⟩
    have Hb := Lib.hid hb
    have hs : sumS vs ys [] u h = if b = true then 1 else 0 := by rw [sumS, hb]; simp
    rw [hs]
    clear Hv Hu Hh Hy hs hb
    go_enter Tryz.func65, Tryz.ntmps65
    go_wp2_with fail
    refine (l1Same_any _ _ h vs _ HH.out HV.out).mono ?_
    rintro e w1 ⟨rfl, hq⟩
    rw [← Hb.out]
    have Hq := Lib.hid hq
    clear hq
    cases b with
    | true =>
      go_wp2_with fail
      go_ret
      exact ⟨ret_int (show (1 : Int) = wrap64 1 by decide +kernel), Hq.out.below _⟩
    | false =>
      go_wp2_with fail
      go_ret
      exact ⟨ret_int (show (0 : Int) = wrap64 0 by decide +kernel), Hq.out.below _⟩
  | succ m ih =>
    intro t u h pv pw pu ph py w hat hu hh Hv Hw Hu Hh Hy
    have HV := Lib.hid Hv
    have HH := Lib.hid Hh
    have HW := Lib.hid Hw
    have HU := Lib.hid Hu
    have HY := Lib.hid Hy
    have Ih := Lib.hid ih
    obtain ⟨pw, cw, rfl, ⟨hw1, hw2⟩, hwc⟩ := Hw
    obtain ⟨pu, cu, rfl, ⟨hu1, hu2⟩, huc⟩ := Hu
    obtain ⟨ph, ch, rfl, ⟨hh1, hh2⟩, hhc⟩ := Hh
    obtain ⟨py, cy, rfl, ⟨hy1, hy2⟩, hyc⟩ := Hy
    obtain ⟨pv, cv, rfl, ⟨hv1, hv2⟩, hvc⟩ := Hv
    unfold maxLen at hw2 hu2 hh2 hy2 hv2
    rw [wz_length] at hw1 hwc HW ⊢
    have hlt : t < word.length := by omega
    obtain ⟨bw, ow, rfl, hwd⟩ := hwc (by omega)
    have cw0 := hwd t hlt
    unfold iv at cw0
    rw [wz_getD hlt] at cw0
    obtain ⟨k, hk⟩ : ∃ k, k = word.getD t 0 := ⟨_, rfl⟩
    have hkn : k + 1 < n := hwk _ (by rw [hk, List.getD_eq_getElem?_getD, List.getElem?_eq_getElem hlt]; exact List.getElem_mem hlt)
    have hdr : word.drop t = k :: word.drop (t + 1) := by
      rw [List.drop_eq_getElem_cons hlt, hk, List.getD_eq_getElem?_getD, List.getElem?_eq_getElem hlt]; rfl
    rw [hdr, sumS]
    rw [← hk] at cw0
    have hul := hu.1
    rw [hul] at hu1 huc HU ⊢
    rw [hh] at hh1 hhc HH ⊢
    rw [hyl] at hy1 hyc HY ⊢
    rw [hvl] at hv1 hvc HV ⊢
    obtain ⟨bu, ou, rfl, hud⟩ := huc (by omega)
    obtain ⟨bh, oh, rfl, hhd⟩ := hhc (by omega)
    obtain ⟨by', oy, rfl, hyd⟩ := hyc (by omega)
    obtain ⟨m0, hm0, hm0n⟩ := hu.2 k (by omega)
    obtain ⟨m1, hm1, hm1n⟩ := hu.2 (k + 1) hkn
    have cu0 := hud k (by omega)
    have cu1 := hud (k + 1) hkn
    have ch0 := hhd k (by omega)
    have ch1 := hhd (k + 1) hkn
    have cy0 := hyd m0 hm0n
    have cy1 := hyd m1 hm1n
    unfold iv at cu0 cu1 ch0 ch1 cy0 cy1
    rw [hm0] at cu0
    rw [hm1] at cu1
    obtain ⟨x, hx⟩ : ∃ x, x = h.getD k 0 := ⟨_, rfl⟩
    obtain ⟨y, hy⟩ : ∃ y, y = h.getD (k + 1) 0 := ⟨_, rfl⟩
    obtain ⟨a, ha⟩ : ∃ a, a = ys.getD m0 0 := ⟨_, rfl⟩
    obtain ⟨b, hb⟩ : ∃ b, b = ys.getD m1 0 := ⟨_, rfl⟩
    rw [← hx] at ch0
    rw [← hy] at ch1
    rw [← ha] at cy0
    rw [← hb] at cy1
    have ha9 := hy9 a (by rw [ha]; exact getD_mem (by omega))
    have hb9 := hy9 b (by rw [hb]; exact getD_mem (by omega))
    rw [hm0, hm1, Int.toNat_natCast, Int.toNat_natCast, ← ha, ← hb]
    obtain ⟨S1, hS1⟩ : ∃ S, S = sumS vs ys (word.drop (t + 1)) (sw k u) h := ⟨_, rfl⟩
    obtain ⟨S2, hS2⟩ : ∃ S, S = sumS vs ys (word.drop (t + 1)) (sw k u) (sw k h) := ⟨_, rfl⟩
    obtain ⟨bb, hbb⟩ : ∃ bb, bb = decide (x < y) := ⟨_, rfl⟩
    have hasc : ascB k h = bb := by rw [hbb]; unfold ascB; rw [hx, hy]
    rw [← hS1, ← hS2, hasc]
    have HS1 := Lib.hid hS1
    have HS2 := Lib.hid hS2
    have Hbb := Lib.hid hbb
    have Hul := Lib.hid hul
    have Hhl := Lib.hid hh
    have Hpl := Lib.hid hu
    have Hat := Lib.hid hat
    have Hwl := Lib.hid hwl
    obtain ⟨N, hN⟩ : ∃ N, N = word.length := ⟨_, rfl⟩
    have HN := Lib.hid hN
    rw [← hN] at hw1 HW hlt ⊢
    have hN10 : N ≤ 10 := by rw [hN]; exact hwl
    have hati : (t : Int) < (N : Int) := by omega
    have hatne : ¬ t = N := by omega
    have hatne2 : ¬ (t : Int) = (N : Int) := by omega
    clear hwc huc hhc hyc hvc hwd hud hhd hyd hx hy ha hb hm0 hm1 hk hdr hS1 hS2 hbb hasc hul hh hu hat ih hvl hyl hy9 hwk hwl hN
    go_enter Tryz.func65, Tryz.ntmps65
    go_wp2_with fail
    refine (l1Swap_any _ u k (k + 1) _ HU.out (by rw [Hul.out]; omega) (by rw [Hul.out]; omega) (by rw [Hul.out]; omega)).mono ?_
    rintro e w1 ⟨u1, rfl, ho1, hb1⟩
    have HU1 := Lib.hid (show Ints w1 u1 (sw k u) from ho1.ints)
    obtain ⟨p1, c1, rfl, hc11, hc12⟩ := ho1.shape
    rw [swapL_length, Hul.out] at HU1 hc11 ⊢
    unfold maxLen at hc12
    have Hb1 := Lib.hid hb1
    clear ho1 hb1
    go_wp2_with fail
    refine (Ih.out (t + 1) (sw k u) h _ _ _ _ _ _ (by have := Hat.out; omega) (Hpl.out.sw hkn) Hhl.out (HV.out.below Hb1.out) (HW.out.below Hb1.out) HU1.out (HH.out.below Hb1.out) (HY.out.below Hb1.out)).mono ?_
    rintro e w2 ⟨rfl, hb2⟩
    rw [← HS1.out]
    have Hb2 := Lib.hid (Hb1.out.trans (hb2.mono Hb1.out.size))
    have HU2 := Lib.hid (HU1.out.below hb2)
    have d0 := cell_below Hb2.out ch0
    have d1 := cell_below Hb2.out ch1
    clear hb2
    obtain ⟨R1, hR1⟩ : ∃ R, R = wrap64 S1 := ⟨_, rfl⟩
    have HR1 := Lib.hid hR1
    rw [← hR1]
    clear hR1
    have hki : (k : Int) < (n : Int) := by omega
    have hki1 : (k : Int) + 1 < (n : Int) := by omega
    cases bb with
    | false =>
      have hxy : ¬ x < y := of_decide_eq_false Hbb.out.symm
      go_wp2_with fail
      go_quiet (fail)
      have HB2 := Lib.hid (Below.drewN Hb2.out nq)
      go_wp2_with fail
      go_ret
      refine ⟨ret_int ?_, HB2.out⟩
      rw [HR1.out]
    | true =>
      have hxy : x < y := of_decide_eq_true Hbb.out.symm
      go_wp2_with fail
      go_quiet (fail)
      have HB2 := Lib.hid (Below.drewN Hb2.out nq)
      have HU3 := Lib.hid (HU2.out.drewN nq)
      generalize w2.drewN nq = w3 at *
      have e0 := cell_below HB2.out cu0
      have e1 := cell_below HB2.out cu1
      have e2 := cell_below HB2.out cy0
      have e3 := cell_below HB2.out cy1
      have hm0i : (m0 : Int) < (n : Int) := by omega
      have hm1i : (m1 : Int) < (n : Int) := by omega
      have hk0 : (0 : Int) ≤ (k : Int) + 1 := by omega
      have hkn2 : ((k : Int) + 1).toNat = k + 1 := by omega
      obtain ⟨R2, hR2⟩ : ∃ R, R = wrap64 S2 := ⟨_, rfl⟩
      have HR2 := Lib.hid hR2
      have hBB : Below w.heap.size w w3.drew := HB2.out.drew
      have hw1 : IntKind.i64.wrap ((k : Int) + 1) = (k : Int) + 1 := k64 (by omega) (by omega)
      have hw2 : IntKind.i64.wrap ((t : Int) + 1) = (t : Int) + 1 := k64 (by omega) (by omega)
      have hw3 : IntKind.i64.wrap (b - a) = b - a := k64 (by omega) (by omega)
      clear cu0 cu1 cy0 cy1 ch0 ch1 d0 d1 cw0 hR2 ha9 hb9
      go_wp2_with fail
      go_region_held3 (fun w' => (w'.cell? ⟨bu, ou + k, none⟩ = some (.int .i64 (m0 : Int)) ∧ w'.cell? ⟨bu, ou + (k + 1), none⟩ = some (.int .i64 (m1 : Int)) ∧ w'.cell? ⟨by', oy + m0, none⟩ = some (.int .i64 a) ∧ w'.cell? ⟨by', oy + m1, none⟩ = some (.int .i64 b)) ∧ Below w.heap.size w w')
        (first | with_reducible assumption | exact ⟨⟨e0, e1, e2, e3⟩, hBB⟩ | exact keep4 hb4 (by assumption) | exact keep4 hb5 (by assumption))
        (first
          | (go_at_call 83; refine (l1Swap_any _ h k (k + 1) _ (held_ints HH.out (by assumption)) (by rw [Hhl.out]; omega) (by rw [Hhl.out]; omega) (by rw [Hhl.out]; omega)).mono ?_; rintro e w4 ⟨u4, rfl, ho4, hb4⟩; have HH4 := Lib.hid (show Ints w4 u4 (sw k h) from ho4.ints); have HU4 := Lib.hid ((HU3.out.below (Below.refl _ _).drew).below hb4))
          | (go_at_call 65; refine (Ih.out (t + 1) (sw k u) (sw k h) _ _ _ _ _ _ (by have := Hat.out; omega) (Hpl.out.sw hkn) (by rw [sw_length]; exact Hhl.out) (held_ints HV.out (by assumption)) (held_ints HW.out (by assumption)) HU4.out HH4.out (held_ints HY.out (by assumption))).mono ?_; rintro e w5 ⟨rfl, hb5⟩; rw [← HS2.out, ← HR2.out]))
      have hS : (w5.cell? ⟨bu, ou + k, none⟩ = some (.int .i64 (m0 : Int)) ∧ w5.cell? ⟨bu, ou + (k + 1), none⟩ = some (.int .i64 (m1 : Int)) ∧ w5.cell? ⟨by', oy + m0, none⟩ = some (.int .i64 a) ∧ w5.cell? ⟨by', oy + m1, none⟩ = some (.int .i64 b)) ∧ Below w.heap.size w w5 := by assumption
      have HS := Lib.hid hS.2
      clear hS hw1 hw2 hw3
      obtain ⟨R, hR⟩ : ∃ R, R = IntKind.i64.wrap (R1 + IntKind.i64.wrap ((b - a) * R2)) := ⟨_, rfl⟩
      have HR := Lib.hid hR
      rw [← hR]
      clear hR
      go_wp2_with fail
      go_ret
      refine ⟨ret_int ?_, HS.out⟩
      rw [HR.out, HR1.out, HR2.out]
      have e : ∀ z, IntKind.i64.wrap z = wrap64 z := fun z => IntWalk.i64_left z
      rw [e, e]
      refine wrap_eq ?_
      refine (wrap_cg _).add ((wrap_cg _).trans ?_)
      exact (Cg.refl _).mul (wrap_cg _)

set_option maxRecDepth 100000 in
set_option maxHeartbeats 2000000 in
theorem l8Local_any (n : Nat) (vs xs ys : List Int) (pv px py : Value) (w : World) (hp : P5 n xs) (h1 : 1 ≤ n) (hvl : vs.length = n) (hyl : ys.length = n) (hy9 : ∀ x ∈ ys, -9 ≤ x ∧ x ≤ 9) (hv : Ints w pv vs) (hx : Ints w px xs) (hy : Ints w py ys) :
    Calls Tryz.prog 49 #[pv, px, py] w fun e w' => e = .returned (.int .i64 (wrap64 (sumS vs ys (fstL xs) (idL n) (idL n)))) ∧ Below w.heap.size w w' := by
  have Hp := Lib.hid hp
  have HX := Lib.hid hx
  have HV := Lib.hid hv
  have HY := Lib.hid hy
  have Hvl := Lib.hid hvl
  have Hyl := Lib.hid hyl
  have Hy9 := Lib.hid hy9
  have Hxl := Lib.hid hp.len
  have h5 := hp.le
  obtain ⟨ppx, cx, rfl, ⟨hx1, hx2⟩, hxc⟩ := hx
  unfold maxLen at hx2
  rw [hp.len] at hx1 HX ⊢
  clear hxc hv hy hvl hyl hy9 hp
  go_enter Tryz.func49, Tryz.ntmps49
  go_wp2_with fail
  refine (l8First_any _ xs _ HX.out (by rw [Hxl.out]; exact Hp.out)).mono ?_
  rintro e w1 ⟨u1, rfl, ho1, hb1⟩
  have HF := Lib.hid ho1.ints
  obtain ⟨p1, c1, rfl, hc1, hc2⟩ := ho1.shape
  have Hb1 := Lib.hid hb1
  clear ho1 hb1
  go_wp2_with fail
  refine (specIdentity_any n _ h1 (by omega)).mono ?_
  rintro e w2 ⟨u2, rfl, ho2, hb2⟩
  have HI2 := Lib.hid ho2.ints
  obtain ⟨p2, c2, rfl, hc3, hc4⟩ := ho2.shape
  have Hb2 := Lib.hid (Hb1.out.trans (hb2.mono Hb1.out.size))
  have HF2 := Lib.hid (HF.out.below hb2)
  clear ho2 hb2
  go_wp2_with fail
  refine (specIdentity_any n _ h1 (by omega)).mono ?_
  rintro e w3 ⟨u3, rfl, ho3, hb3⟩
  have HI3 := Lib.hid ho3.ints
  obtain ⟨p3, c3, rfl, hc5, hc6⟩ := ho3.shape
  have Hb3 := Lib.hid (Hb2.out.trans (hb3.mono Hb2.out.size))
  have HF3 := Lib.hid (HF2.out.below hb3)
  have HI2b := Lib.hid (HI2.out.below hb3)
  clear ho3 hb3
  go_wp2_with fail
  have hw := wrd_at Hp.out
  refine (l8Sum_any n vs (fstL xs) ys h5 Hvl.out Hyl.out Hy9.out hw.2.1 hw.2.2.1 (fstL xs).length 0 (idL n) (idL n) _ _ _ _ _ _ (by omega) ⟨idL_length n, fun j hj => ⟨j, idL_getD hj, hj⟩⟩ (idL_length n) (HV.out.below Hb3.out) HF3.out HI2b.out HI3.out (HY.out.below Hb3.out)).mono ?_
  rintro e w4 ⟨rfl, hb4⟩
  have Hb4 := Lib.hid (Hb3.out.trans (hb4.mono Hb3.out.size))
  rw [List.drop_zero]
  obtain ⟨R, hR⟩ : ∃ R, R = wrap64 (sumS vs ys (fstL xs) (idL n) (idL n)) := ⟨_, rfl⟩
  have HR := Lib.hid hR
  rw [← hR]
  clear hw hb4 hR
  go_wp2_with fail
  go_ret
  exact ⟨ret_int HR.out, Hb4.out⟩

end Go.Proofs.YtlbflckoodjokaaGreat

namespace Go.Proofs.YtlbflckoodjokaaGreat
set_option linter.all false
set_option maxRecDepth 100000
open Go.RowKit Go.Maps Go.WideMaps Go.WideElems Go.MapKept Go.ChangeMaps Go.ChangeShapes

/-- how many factors there are ahead of row i -/
def topS (n : Nat) : Nat → Nat
  | 0 => 0
  | i + 1 => topS n i + (n - 1 - i)
theorem topS_le {n i j : Nat} (hn : n ≤ 5) (hi : i < n) (hj : j ≤ n - 1 - i) : topS n i + j ≤ 10 := by
  have h : ∀ n : Fin 6, ∀ i : Fin 6, (i : Nat) < n → topS n i + (n - 1 - i) ≤ 10 := by decide
  have := h ⟨n, by omega⟩ ⟨i, by omega⟩ hi
  simp only at this
  omega
theorem topS_end {n : Nat} (hn : n ≤ 5) : topS n n ≤ 10 := by
  have h : ∀ n : Fin 6, topS n n ≤ 10 := by decide
  exact h ⟨n, by omega⟩

set_option maxRecDepth 100000 in
set_option maxHeartbeats 4000000 in
theorem double_any (vw vy : Value) (xs ys : List Int) (w : World) (hw : Ints w vw xs) (hy : Ints w vy ys) (h1 : 1 ≤ xs.length) (h5 : xs.length ≤ 5) (hyl : ys.length = xs.length) (hb : ∀ x ∈ ys, -9 ≤ x ∧ x ≤ 9) (hok : lowOk 10 xs = true) :
    Calls Tryz.prog 54 #[vw, vy] w fun e w' => ∃ u', e = .returned u' ∧ PolV w' u' 10 10240000000000 (dblP xs ys) ∧ Below w.heap.size w w' := by
  have Hw := Lib.hid hw
  have Hy := Lib.hid hy
  obtain ⟨pw, cw, rfl, ⟨hw1, hw2⟩, hwc⟩ := hw
  obtain ⟨py, cy, rfl, ⟨hy1, hy2⟩, hyc⟩ := hy
  unfold maxLen at hw2 hy2
  have Hyc := Lib.hid hyc
  have hmm := @run_makeMap Tryz.prog
  have hbd := buildE
  have hkey : keyOf Tryz.prog 72 (.agg #[.int .i64 0, .int .i64 0, .int .i64 0, .int .i64 0, .int .i64 0, .int .i64 0, .int .i64 0]) = some (kl [0, 0, 0, 0, 0, 0, 0]) := keyOf_kv (e := [0, 0, 0, 0, 0, 0, 0]) (d := 0) ⟨rfl, by simp⟩ (by omega)
  have hown0 := World.ownsMap_made (H := Unit) w Tryz.prog 72 (plainElem Tryz.prog 3)
  clear hwc hyc
  go_enter Tryz.func54, Tryz.ntmps54
  go_wp2_with (first
    | (refine wpList_insert_own rfl _ _ _ rfl w.heap.size 0 _ rfl hown0 (by omega) _ _ 1 rfl rfl hkey (by decide) ?_; intro w0 hown1 hg0; go_frame)
    | fail)
  have hp0 : PolV w0 (.map (some w.heap.size)) 0 1 (topI xs.length ys 0) := ⟨_, _, rfl, hown1, by
    have := (PolM.empty 0).putNew (e := [0, 0, 0, 0, 0, 0, 0]) (c := 1) (by omega) ⟨rfl, by simp⟩ rfl
    exact this⟩
  have Hp0 := Lib.hid hp0
  have Hb0 := Lib.hid (show Below w.heap.size w w0 from ((Below.refl _ _).alloc (Nat.le_refl _) _).grown hg0 (by simp) (fun j hj => by cases hj; exact Nat.le_refl _))
  obtain ⟨n, hn⟩ : ∃ n, n = xs.length := ⟨_, rfl⟩
  have hn5 : n ≤ 5 := by omega
  have hn1 : 1 ≤ n := by omega
  obtain ⟨B, hB⟩ : ∃ B, B = w.heap.size := ⟨_, rfl⟩
  rw [hyl] at hy1 ⊢
  rw [← hn] at hyl hw1 hy1 Hp0 ⊢
  have hb0 := Lib.hid hb
  clear hown1 hp0 hg0 hown0 hkey hbd hmm hb
  have Hn := Lib.hid hn
  have HB := Lib.hid hB
  rw [← hB] at Hb0 Hp0 ⊢
  clear hn hB
  go_loopg [6, 7, 8, 15] n (fun g s6 s7 s8 s15 wr => ∃ (i b : Nat), i ≤ n ∧ g = n - i ∧ s15 = .int .i64 (i : Int) ∧ s6 = .map (some b) ∧ Hid (PolV wr (.map (some b)) (topS n i) (2 ^ topS n i) (topI n ys i)) ∧ Hid (Below B w wr))
  case atStart => exact ⟨0, B, Nat.zero_le _, rfl, rfl, rfl, Hp0, Hb0⟩
  case round =>
    obtain ⟨i, b, hi, rfl, rfl, rfl, hp, hb⟩ := hrel
    obtain ⟨wx, rfl⟩ : ∃ x : World, x = wr := ⟨_, rfl⟩
    by_cases hin : i < n
    · have hini : (i : Int) < (n : Int) := by omega
      have hbnd : (n : Int) - 1 - (i : Int) = ((n - 1 - i : Nat) : Int) := by omega
      have Hp := Lib.hid hp.out
      have Hb := Lib.hid hb.out
      clear hp hb
      go_wp2_with fail
      go_loopg [6, 8, 22] (n - 1 - i) (fun g s6 s8 s22 wr => ∃ (j b : Nat), j ≤ n - 1 - i ∧ g = n - 1 - i - j ∧ s22 = .int .i64 (j : Int) ∧ s6 = .map (some b) ∧ Hid (PolV wr (.map (some b)) (topS n i + j) (2 ^ (topS n i + j)) (topJ i ys j (topI n ys i))) ∧ Hid (Below B w wr))
      case atStart => exact ⟨0, b, Nat.zero_le _, rfl, rfl, rfl, Hp, Hb⟩
      case round =>
        obtain ⟨j, b2, hj, rfl, rfl, rfl, hp, hb⟩ := hrel
        obtain ⟨wy, rfl⟩ : ∃ x : World, x = wr := ⟨_, rfl⟩
        by_cases hjn : j < n - 1 - i
        · have hjni : (j : Int) < (n : Int) - 1 - (i : Int) := by omega
          have hjn2 : (j : Int) < (n : Int) := by omega
          obtain ⟨bY, oy, rfl, hcy⟩ := Hyc.out (by omega)
          have c0 := hcy j (by omega)
          unfold iv at c0
          obtain ⟨y, hyj⟩ : ∃ y, y = ys.getD j 0 := ⟨_, rfl⟩
          have hyb := hb0.out y (by rw [hyj]; exact getD_mem (by omega))
          rw [← hyj] at c0
          have c1 : wy.cell? ⟨bY, oy + j, none⟩ = some (.int .i64 y) := cell_below (HB.out ▸ hb.out) c0
          have Hyj := Lib.hid hyj
          have hs := topS_le hn5 hin (j := j + 1) (by omega)
          have hpow : 2 ^ (topS n i + j) ≤ 1024 := Nat.le_trans (Nat.pow_le_pow_right (by omega) (show topS n i + j ≤ 10 by omega)) (by decide)
          have hp2 := PolV.below (w' := wy.drew) hp.out (Below.refl _ _).drew
          obtain ⟨N, hN⟩ : ∃ N, N = 2 ^ (topS n i + j) := ⟨_, rfl⟩
          obtain ⟨d0, hd0⟩ : ∃ d0, d0 = topS n i + j := ⟨_, rfl⟩
          obtain ⟨T, hT⟩ : ∃ T, T = topJ i ys j (topI n ys i) := ⟨_, rfl⟩
          have hd10 : d0 + 1 ≤ 10 := by omega
          rw [← hN, ← hT, ← hd0] at hp2
          rw [← hN] at hpow
          have Hp2 := Lib.hid hp2
          have HN := Lib.hid hN
          have HT := Lib.hid hT
          have Hd0 := Lib.hid hd0
          have Hb2 := Lib.hid (show Below B w wy.drew from hb.out.drew)
          have hwn : IntKind.i64.wrap (-y) = -y := k64 (by omega) (by omega)
          have c1' : wy.drew.cell? ⟨bY, oy + j, none⟩ = some (.int .i64 y) := c1
          clear hcy c0 hyj hs hp2 hN hT hd0 hp hb
          go_wp2_with fail
          go_region_held3 (fun w' => w'.cell? ⟨bY, oy + j, none⟩ = some (.int .i64 y))
            (first | with_reducible assumption | (trace_state; fail))
            (first
              | (go_at_call 72; refine (raised_any _ i d0 N T _ Hp2.out (by omega) (by omega) (by omega)).mono ?_; rintro e w1 ⟨u1, rfl, hp1, hb1⟩; have Hp1 := Lib.hid hp1; obtain ⟨b1, D1, rfl, _, _⟩ := hp1; have c2 := cell_below hb1 c1'; have Hb1 := Lib.hid hb1)
              | (go_at_call 71; refine (plus_any _ _ (-y) (d0 + 1) N N (rsP i T) T _ Hp1.out ((Hp2.out.below Hb1.out).mono (Nat.le_succ _) (Nat.le_refl _)) (by omega) (by omega)).mono ?_; rintro e w2 ⟨u2, rfl, hp3, hb3⟩; have Hp3 := Lib.hid hp3; obtain ⟨b3, D3, rfl, _, _⟩ := hp3; have c3 := cell_below hb3 c2; have Hb3 := Lib.hid hb3))
          clear hwn
          go_wp2_with fail
          go_roundg (n - 1 - i - (j + 1))
          case measure => omega
          case rel =>
            refine ⟨j + 1, b3, by omega, rfl, by go_num, rfl, Lib.hid ?_, Lib.hid ((Hb2.out.trans (Hb1.out.mono (Nat.le_trans (Nat.le_of_eq HB.out) Hb2.out.size))).trans (Hb3.out.mono (Nat.le_trans (Nat.le_of_eq HB.out) (Nat.le_trans Hb2.out.size Hb1.out.size))))⟩
            have := Hp3.out
            rw [Hd0.out, HN.out, HT.out, Hyj.out] at this
            rw [topJ, ← Nat.add_assoc, Nat.pow_succ, Nat.mul_two]
            exact this
        · have hjni : ¬ (j : Int) < (n : Int) - 1 - (i : Int) := by omega
          obtain rfl : j = n - 1 - i := by omega
          go_wp2_with fail
          go_roundg (n - (i + 1))
          case measure => omega
          case rel => exact ⟨i + 1, b2, by omega, rfl, by go_num, rfl, hp, hb⟩
    · have hini : ¬ (i : Int) < (n : Int) := by omega
      have hie : n = i := by omega
      subst hie
      have h0 := topS_end hn5
      have hpow : 2 ^ topS n n ≤ 1024 := Nat.le_trans (Nat.pow_le_pow_right (by omega) h0) (by decide)
      have hp1 := hp.out.mono h0 hpow
      have Hp1 := Lib.hid hp1
      have Hb1 := Lib.hid hb.out
      have Hok := Lib.hid hok
      have Hw2 : Hid (Ints w (.slice pw n cw) xs) := by rw [Hn.out]; exact Hw
      clear hp hb hp1 hpow h0 hok
      go_wp2_with fail
      refine (lowered_any 10 (topI n ys n) (by omega) (by omega) 10 xs _ _ 1024 _ Hok.out h5 Hp1.out (by decide) (Hw2.out.below (HB.out ▸ Hb1.out))).mono ?_
      rintro e w1 ⟨u1, rfl, hp2, hb2⟩
      have Hp2 := Lib.hid hp2
      have Hb2 := Lib.hid (Hb1.out.trans (hb2.mono (Nat.le_trans (Nat.le_of_eq HB.out) Hb1.out.size)))
      obtain ⟨b1, D1, rfl, _, _⟩ := hp2
      clear hb2
      go_wp2_with fail
      go_ret
      refine ⟨_, rfl, ?_, HB.out ▸ Hb2.out⟩
      rw [dblP, ← Hn.out]
      exact Hp2.out

end Go.Proofs.YtlbflckoodjokaaGreat

namespace Go.Proofs.YtlbflckoodjokaaGreat
set_option linter.all false
open Go.RowKit

set_option maxRecDepth 100000 in
set_option maxHeartbeats 2000000 in
theorem shiftsOk_any (N : Int) (v : Value) (y : List Int) (w : World) (h : Ints w v y) :
    Calls Tryz.prog 42 #[v, .int .i64 N] w fun e w' => e = .returned (.bool (shiftB N y)) ∧ w = w' := by
  obtain ⟨p, cap, rfl, ⟨hx1, hx⟩, hxc⟩ := h
  unfold maxLen at hx
  go_enter Tryz.func42, Tryz.ntmps42
  go_wp2_with fail
  go_loopg [6, 9] y.length (fun g s6 s9 wr => ∃ k : Nat, k ≤ y.length ∧ g = y.length - k ∧ s9 = .int .i64 k ∧ w = wr ∧ Hid (∀ j, j < k → -9 ≤ y.getD j 0 ∧ y.getD j 0 ≤ 9))
  case atStart => exact ⟨0, Nat.zero_le _, rfl, rfl, rfl, Lib.hid fun j hj => absurd hj (Nat.not_lt_zero _)⟩
  case round =>
    obtain ⟨k, hk, rfl, rfl, rfl, hp⟩ := hrel
    by_cases hlt : k < y.length
    · obtain ⟨b, off, rfl, hc⟩ := hxc (by omega)
      obtain ⟨x, hx'⟩ : ∃ x, x = y.getD k 0 := ⟨_, rfl⟩
      have c1 := hc k hlt
      unfold iv at c1
      rw [← hx'] at c1
      have Hx := Lib.hid hx'
      have hk1 : (k : Int) < (y.length : Int) := by omega
      clear hx' hc hxc
      have bad : ¬ (-9 ≤ x ∧ x ≤ 9) → shiftB N y = false := fun hr => by
        unfold shiftB
        rw [decide_eq_false (show ¬ ∀ x ∈ y, -9 ≤ x ∧ x ≤ 9 from fun e => hr (by rw [Hx.out]; exact e _ (getD_mem hlt))), Bool.and_false]
      have Bad := Lib.hid bad
      clear bad
      by_cases h1 : x < -9
      · go_wp2_with fail
        go_ret
        exact ⟨ret_bool (Bad.out (by omega)).symm, rfl⟩
      by_cases h2 : 9 < x
      · go_wp2_with fail
        go_ret
        exact ⟨ret_bool (Bad.out (by omega)).symm, rfl⟩
      go_wp2_with fail
      go_roundg (y.length - (k + 1))
      case measure => omega
      case rel =>
        refine ⟨k + 1, by omega, rfl, by go_num, rfl, Lib.hid fun j hj => ?_⟩
        by_cases e : j = k
        · subst e; rw [← Hx.out]; omega
        · exact hp.out j (by omega)
    · have hk1 : ¬ (k : Int) < (y.length : Int) := by omega
      have ha : decide (∀ x ∈ y, -9 ≤ x ∧ x ≤ 9) = true := decide_eq_true (all_of_getD fun j hj => hp.out j (by omega))
      have Ha := Lib.hid ha
      clear ha
      by_cases hN : (y.length : Int) = N
      · go_wp2_with fail
        go_ret
        exact ⟨ret_bool (by unfold shiftB; rw [Ha.out, decide_eq_true hN]; rfl), rfl⟩
      · go_wp2_with fail
        go_ret
        exact ⟨ret_bool (by unfold shiftB; simp [hN]), rfl⟩

theorem nm_shift {N : Int} {y : List Int} (h1 : 1 ≤ N) (h2 : N ≤ 5) : nmOk N y = shiftB N y := by
  unfold nmOk shiftB
  rw [decide_eq_true h1, decide_eq_true h2]; simp

set_option maxRecDepth 100000 in
set_option maxHeartbeats 2000000 in
theorem weightsOk_any (N : Int) (v : Value) (y : List Int) (w : World) (h : Ints w v y) :
    Calls Tryz.prog 20 #[.int .i64 N, v] w fun e w' => e = .returned (.bool (apOk N y)) ∧ Qt w w' := by
  have Hh := Lib.hid h
  obtain ⟨p, cap, rfl, ⟨hx1, hx⟩, hxc⟩ := h
  unfold maxLen at hx
  go_enter Tryz.func20, Tryz.ntmps20
  by_cases hN1 : N < 1
  · go_wp2_with fail
    go_ret
    exact ⟨ret_bool (ap_no1 (nm_no1 (by omega))).symm, Qt.refl _⟩
  by_cases hN4 : 4 < N
  · go_wp2_with fail
    go_ret
    exact ⟨ret_bool (ap_no2 (by omega)).symm, Qt.refl _⟩
  go_wp2_with fail
  refine (shiftsOk_any N _ y _ Hh.out).mono ?_
  rintro e w1 ⟨rfl, rfl⟩
  cases hs : shiftB N y with
  | false =>
    go_wp2_with fail
    go_ret
    exact ⟨ret_bool (ap_no1 (by rw [nm_shift (by omega) (by omega), hs])).symm, Qt.refl _⟩
  | true =>
  have hn : nmOk N y = true := by rw [nm_shift (by omega) (by omega), hs]
  obtain ⟨n, rfl, hn1, hn5, hyl, _⟩ := nm_facts hn
  have Hn := Lib.hid hn
  have Hyl := Lib.hid hyl
  have hle : n ≤ cap := by omega
  rw [hyl] at Hh hxc ⊢
  clear hn hyl hs
  go_wp2_with fail
  go_loopg [5, 6, 21] n (fun g s5 s6 s21 wr => ∃ k : Nat, k ≤ n ∧ g = n - k ∧ s21 = .int .i64 k ∧ Qt w wr ∧ Hid (∀ j, j < k → ¬ y.getD j 0 ∈ y.take j))
  case atStart => exact ⟨0, Nat.zero_le _, rfl, rfl, Qt.refl _, Lib.hid fun j hj => absurd hj (Nat.not_lt_zero _)⟩
  case round =>
    obtain ⟨k, hk, rfl, rfl, hq, hp⟩ := hrel
    by_cases hlt : k < n
    · obtain ⟨b, off, rfl, hc⟩ := hxc (by omega)
      obtain ⟨x, hx'⟩ : ∃ x, x = y.getD k 0 := ⟨_, rfl⟩
      have c1 := hq.cell (hc k hlt)
      unfold iv at c1
      rw [← hx'] at c1
      have Hx := Lib.hid hx'
      have hk1 : (k : Int) < (n : Int) := by omega
      have hk2 : (k : Int) ≤ (cap : Int) := by omega
      have HI := Lib.hid (show Ints wr (.slice (some ⟨b, off, none⟩) k cap) (y.take k) by
        have := Hh.out
        rw [← Hyl.out] at this
        exact (ints_takeP2 this (by rw [Hyl.out]; omega)).qt hq)
      obtain ⟨bb, hbb⟩ : ∃ bb, bb = decide (x ∈ y.take k) := ⟨_, rfl⟩
      have Hbb := Lib.hid hbb
      clear hx' hc hxc hbb
      go_wp2_with fail
      refine (contains_any _ (y.take k) x _ HI.out).mono ?_
      rintro e w2 ⟨rfl, hq2⟩
      rw [← Hbb.out]
      have Hq2 := Lib.hid (hq.trans hq2)
      clear hq2 hq
      cases bb with
      | true =>
        go_wp2_with fail
        go_ret
        exact ⟨ret_bool (ap_no3 (k := k) (by rw [Hyl.out]; exact hlt) (by rw [← Hx.out]; exact of_decide_eq_true Hbb.out.symm)).symm, Hq2.out⟩
      | false =>
        go_wp2_with fail
        go_roundg (n - (k + 1))
        case measure => omega
        case rel =>
          refine ⟨k + 1, by omega, rfl, by go_num, Hq2.out, Lib.hid fun j hj => ?_⟩
          by_cases e : j = k
          · subst e; rw [← Hx.out]; exact of_decide_eq_false Hbb.out.symm
          · exact hp.out j (by omega)
    · have hk1 : ¬ (k : Int) < (n : Int) := by omega
      go_wp2_with fail
      go_ret
      exact ⟨ret_bool (ap_yes Hn.out (by omega) fun j hj => hp.out j (by have := Hyl.out; omega)).symm, hq⟩

end Go.Proofs.YtlbflckoodjokaaGreat

namespace Go.Proofs.YtlbflckoodjokaaGreat
set_option linter.all false
set_option maxRecDepth 100000
open Go.RowKit

def locOk (vs ws ys : List Int) : Bool := permOk vs && permOk ws && decide (vs.length = ws.length) && nmOk vs.length ys
/-- what Localize says -/
def locL (vs ws ys : List Int) : Int × Bool := if locOk vs ws ys then (wrap64 (Ev (dblP vs ys) (mono (pickL ws ys))), true) else (0, false)
def RetIB (w : World) (r : Int × Bool) (e : Ending) (w' : World) : Prop := e = .returned (.tuple #[.int .i64 r.1, .bool r.2]) ∧ Below w.heap.size w w'
theorem locL_no {vs ws ys : List Int} (h : locOk vs ws ys = false) : locL vs ws ys = (0, false) := by unfold locL; rw [h]; rfl
theorem locL_yes {vs ws ys : List Int} (h : locOk vs ws ys = true) : locL vs ws ys = (wrap64 (Ev (dblP vs ys) (mono (pickL ws ys))), true) := by unfold locL; rw [h]; rfl
structure LocIs (n : Nat) (vs ws ys : List Int) : Prop where
  v : P5 n vs
  w : P5 n ws
  y : ys.length = n
  one : 1 ≤ n
  y9 : ∀ x ∈ ys, -9 ≤ x ∧ x ≤ 9
theorem locIs_of {vs ws ys : List Int} (h1 : permOk vs = true) (h2 : permOk ws = true) (h3 : vs.length = ws.length) (h4 : nmOk vs.length ys = true) : LocIs vs.length vs ws ys := by
  obtain ⟨n, e, hn1, hn5, hyl, hy9⟩ := nm_facts h4
  have e := Int.ofNat.inj e
  rw [← e] at hn1 hn5 hyl
  exact ⟨⟨h1, rfl, hn5⟩, ⟨h2, h3.symm, hn5⟩, hyl, hn1, all_of_getD fun k hk => hy9 k (by omega)⟩
theorem ret_ib {a : Int} {b : Bool} {r : Int × Bool} (h : (a, b) = r) : Ending.returned (.tuple #[.int .i64 a, .bool b]) = .returned (.tuple #[.int .i64 r.1, .bool r.2]) := by rw [← h]

theorem nm_no {n : Nat} {ys : List Int} (h : ¬ n ≤ 5) : nmOk n ys = false := by unfold nmOk; rw [decide_eq_false (show ¬ (n : Int) ≤ 5 by omega)]; simp

end Go.Proofs.YtlbflckoodjokaaGreat

namespace Go.Proofs.YtlbflckoodjokaaGreat
set_option linter.all false
open Go.RowKit

theorem blk5 {w : World} {b : Nat} {x0 x1 x2 x3 x4 : Value} {T : TypeId} (h : w.heap[b]? = some (.cells #[x0, x1, x2, x3, x4] T (0, 0))) :
    w.cell? ⟨b, 0, none⟩ = some x0 ∧ w.cell? ⟨b, 1, none⟩ = some x1 ∧ w.cell? ⟨b, 2, none⟩ = some x2 ∧ w.cell? ⟨b, 3, none⟩ = some x3 ∧ w.cell? ⟨b, 4, none⟩ = some x4 ∧ (∀ j, w.frozen? ⟨b, j, none⟩ = false) ∧ b < w.heap.size :=
  ⟨cell_of_blk h rfl, cell_of_blk h rfl, cell_of_blk h rfl, cell_of_blk h rfl, cell_of_blk h rfl, free_of_blk h, blk_lt h⟩
theorem ints_nil (w : World) (p : Option Addr) : Ints w (.slice p 0 0) [] := ⟨p, 0, rfl, ⟨Nat.le_refl _, Nat.zero_le _⟩, fun h => absurd h (by simp)⟩
theorem own_nil (T : TypeId) (w : World) (lo hi : Nat) : OwnI T w lo hi (.slice none 0 0) [] := ⟨World.ownsRow_nil _ _ _ _, fun k hk => by simp [Value.ownBlock] at hk⟩

end Go.Proofs.YtlbflckoodjokaaGreat

namespace Go.Proofs.YtlbflckoodjokaaGreat
set_option linter.all false
open Go.RowKit

set_option maxRecDepth 100000 in
set_option maxHeartbeats 2000000 in
theorem implPerms_go (n : Nat) (hn : n ≤ 5) (f : Nat) : ∀ (ch : List Int) (v : Value) (lo hi : Nat) (w : World), OwnI 3 w lo hi v ch → hi ≤ w.heap.size → lo ≤ w.heap.size → ch.length + f = n →
    Calls Tryz.prog 75 #[.int .i64 n, v] w fun e w' => ∃ u, e = .returned u ∧ OwnII 22 3 w' lo w'.heap.size u (allL n f ch) ∧ Below w.heap.size w w' := by
  induction f with
  | zero =>
    intro ch v lo hi w h hhi hlo hf
    have H := Lib.hid h
    obtain ⟨p, k, rfl, _, _⟩ := h.shape
    clear h
    obtain rfl : n = ch.length := by omega
    clear hf
    go_enter Tryz.func75, Tryz.ntmps75
    go_wp2_with fail
    go_ret
    refine ⟨_, rfl, ⟨fun _ => .slice p ch.length k, ?_, fun i hi => ?_, fun i j hij hj => ?_⟩, below_alloc _ _⟩
    · refine ⟨[.slice p ch.length k], Own.of_rowIs (g := w.heap.size) (n := 1) (cap := 1) (F := fun _ => .slice p ch.length k) ⟨#[.slice p ch.length k], heap_alloc_top _ _, rfl, fun i hi => ?_⟩ hlo (by simp) (Nat.le_refl _) (by unfold maxLen; omega) rfl (fun j hj => ?_), fun j hj => ?_⟩
      · obtain rfl : i = 0 := by omega
        rfl
      · obtain rfl : j = 0 := by omega
        rfl
      · obtain rfl : j = 0 := by simpa [allL] using hj
        rfl
    · obtain rfl : i = 0 := by simpa [allL] using hi
      exact ((H.out.below (below_alloc _ _))).mono (Nat.le_refl _) (by simp; omega)
    · have : j = 0 := by simpa [allL] using hj
      omega
  | succ f ih =>
    intro ch v lo hi w h hhi hlo hf
    have H := Lib.hid h
    have Ih := Lib.hid ih
    obtain ⟨p, k, rfl, _, _⟩ := h.shape
    have hne : (((ch.length : Int)) == (n : Int)) = false := by simp; omega
    clear h ih
    go_enter Tryz.func75, Tryz.ntmps75
    go_wp2_with fail
    go_loopg [5, 15] n (fun g s5 i wr => ∃ (x : Nat) (rows : List (List Int)), x ≤ n ∧ g = n - x ∧ i = .int .i64 x ∧ Below w.heap.size w wr ∧
      Hid (rows = (List.range x).flatMap fun (y : Nat) => if (y : Int) ∈ ch then [] else allL n f (ch ++ [(y : Int)])) ∧ Hid (OwnII 22 3 wr w.heap.size wr.heap.size s5 rows))
    case atStart => exact ⟨0, [], Nat.zero_le _, rfl, rfl, below_alloc _ _, rfl, ⟨fun _ => undef, (OwnF.made0 w _ _).mono (Nat.le_refl _) (by simp), fun i hi => absurd hi (by simp), fun i j _ hj => absurd hj (by simp)⟩⟩
    case round =>
      obtain ⟨x, rows, hx, rfl, rfl, hb, hr, ho⟩ := hrel
      obtain ⟨wo, rfl⟩ : ∃ x : World, x = wr := ⟨_, rfl⟩
      obtain ⟨p3, k3, rfl, _, _⟩ := ho.out.shape
      by_cases hlt : x < n
      · have hci : Ints wo (.slice p ch.length k) ch := (H.out.below hb).ints
        go_wp2_with fail
        refine (contains_any _ ch x _ hci).mono ?_
        rintro e w1 ⟨rfl, hq⟩
        by_cases hc : (x : Int) ∈ ch
        · rw [decide_eq_true hc]
          have hr2 : rows = (List.range (x + 1)).flatMap fun (y : Nat) => if (y : Int) ∈ ch then [] else allL n f (ch ++ [(y : Int)]) := by
            rw [flatMap_snoc, if_pos hc, List.append_nil]
            exact hr.out
          have Hr2 := Lib.hid hr2
          have Ho2 := Lib.hid (ho.out.below (hq.below _))
          have hqs := hq.size
          have Hb2 := Lib.hid (hb.trans (hq.below _))
          clear hr2 hci hc hq hr ho
          go_wp2
          go_roundg (n - (x + 1))
          case measure => omega
          case rel => exact ⟨x + 1, rows, by omega, rfl, by go_num, Hb2.out, Hr2.out, by rw [hqs]; exact Ho2.out⟩
        · rw [decide_eq_false hc]
          have hr2 : rows ++ allL n f (ch ++ [(x : Int)]) = (List.range (x + 1)).flatMap fun (y : Nat) => if (y : Int) ∈ ch then [] else allL n f (ch ++ [(y : Int)]) := by
            rw [flatMap_snoc, if_neg hc, hr.out]
          have hpow : n ^ f ≤ 3125 := Nat.le_trans (Nat.pow_le_pow_left hn f) (Nat.pow_le_pow_right (by decide) (show f ≤ 5 by omega))
          have hrl : rows.length ≤ x * n ^ f := by
            rw [hr.out]
            refine flatMap_len _ _ (fun y => ?_) x
            split
            · simp
            · exact allL_len _ _ _
          have hrl2 : rows.length + (allL n f (ch ++ [(x : Int)])).length ≤ 18750 := by
            have h1 : x * n ^ f ≤ 5 * 3125 := Nat.mul_le_mul (by omega) hpow
            have h2 := allL_len n f (ch ++ [(x : Int)])
            omega
          have Hr2 := Lib.hid hr2
          have Hbnd := Lib.hid hrl2
          have Hq := Lib.hid hq
          have Hci := Lib.hid (hci.qt hq)
          have hqs := hq.size
          have hs1 := hb.size
          have hc5 : ch.length ≤ 5 := by omega
          have Hc1 := Lib.hid (show ch.length + 1 ≤ maxLen by unfold maxLen; omega)
          have Hc2 := Lib.hid (show (ch.length + 1) * 8 ≤ 140737488355328 by omega)
          have Hlen := Lib.hid (show (ch ++ [(x : Int)]).length + f = n by simp; omega)
          clear hr2 hrl2 hrl hpow hci hc hq hr
          go_wp2_with fail
          refine (clone_any _ ch _ Hci.out (by omega)).mono ?_
          rintro e w2 ⟨u, rfl, ho2, hb2⟩
          obtain ⟨p2, k2, rfl, _, _⟩ := ho2.shape
          have Ho2 := Lib.hid ho2
          have hs2 := hb2.size
          go_wp2_with (at_builtin; go_must (refine wpList_append_F rfl (.tmp 25) (.tmp 27) 22 rfl 3 (.int .i64 0) 8 Tryz.underlying22 info_int rfl w1.heap.size w2.heap.size _ ch.length (iv ch) rfl ((Ho2.out.below (below_alloc _ _)).fn) (by simp; omega) (by simp) _ _ _ rfl (rd_one _ _ _ rfl) (fun j _ => rfl) Hc1.out Hc2.out ?_; intro v' w3 ho3 hg3))
          have ho4 := OwnI.snoc1 ho3
          have hs3 := hg3.size
          simp only [size_alloc] at hs3
          have hb3 : Below wo.heap.size wo w3 := (Hq.out.below _).trans ((hb2.mono (by omega)).trans (((below_alloc w2 _).mono (by omega)).trans (grownBy_below hg3 Ho2.out.fn.blocks (by omega) (by simp; omega))))
          obtain ⟨p4, k4, rfl, _, _⟩ := ho4.shape
          refine (Ih.out (ch ++ [(x : Int)]) _ w1.heap.size w3.heap.size w3 ho4 (Nat.le_refl _) (by omega) Hlen.out).mono ?_
          rintro e w5 ⟨u5, rfl, ho5, hb5⟩
          generalize allL n f (ch ++ [(x : Int)]) = new at *
          have hb6 : Below wo.heap.size wo w5 := hb3.trans (hb5.mono (by omega))
          have hs5 := hb5.size
          obtain ⟨p5, k5, rfl, _, _⟩ := ho5.shape
          obtain ⟨F, g1, g2, g3⟩ := ho
          obtain ⟨G, j1, j2, j3⟩ := ho5
          have G1 := Lib.hid (g1.below hb6)
          have G2 := Lib.hid (fun i hi => (g2 i hi).below hb6)
          have G3 := Lib.hid g3
          have J1 := Lib.hid j1
          have J2 := Lib.hid j2
          have J3 := Lib.hid j3
          have hone : ∀ j, j < new.length → (G j).oneCell' = true := fun j hj => by
            obtain ⟨p, c, e, _⟩ := (j2 j hj).shape
            rw [e]; rfl
          have Hone := Lib.hid hone
          have hbnd := Hbnd.out
          have Hd1 := Lib.hid (show rows.length + new.length ≤ maxLen by unfold maxLen; omega)
          have Hd2 := Lib.hid (show (rows.length + new.length) * 24 ≤ 140737488355328 by omega)
          have Hb6 := Lib.hid hb6
          clear g1 g2 g3 j1 j2 j3 hone hb6 hb5 hb3 ho4 ho3 hg3 ho2 hb2 hbnd
          go_wp2_with (at_builtin; go_must (refine wpList_append_F rfl (.tmp 22) (.tmp 29) 42 rfl 22 (.slice none 0 0) 24 Tryz.underlying42 info_sl rfl w.heap.size wo.heap.size _ rows.length F rfl G1.out (by omega) (by omega) _ _ _ rfl J1.out.rd Hone.out Hd1.out Hd2.out ?_; intro v' w' ho' hg'))
          have hsw' := hg'.size
          have hblow : Below w.heap.size wo w' := (Hb6.out.mono hs1).trans (grownBy_below hg' G1.out.blocks (Nat.le_refl _) (by omega))
          go_roundg (n - (x + 1))
          case measure => omega
          case rel =>
            refine ⟨x + 1, rows ++ new, by omega, rfl, by go_num, hb.trans hblow, Hr2.out, ?_⟩
            exact OwnII.join G1.out G2.out G3.out (fun i hi => (J2.out i hi).mono (by omega) (Nat.le_refl _)) J3.out hs1 (by omega) (by decide) hg' (by omega) ho'
      · go_wp2_with fail
        go_ret
        obtain rfl : x = n := by omega
        have e : allL x (f + 1) ch = rows := by rw [hr.out]; rfl
        rw [e]
        exact ⟨_, rfl, ho.out.mono hlo (Nat.le_refl _), hb⟩

set_option maxRecDepth 100000 in
theorem implAllPerms_any (N : Int) (w : World) :
    Calls Tryz.prog 55 #[.int .i64 N] w (RetII w (allPermsL N)) := by
  by_cases h : 1 ≤ N ∧ N ≤ 5
  · obtain ⟨n, rfl⟩ := Int.eq_ofNat_of_zero_le (show (0 : Int) ≤ N by omega)
    have e : allPermsL n = allL n n [] := by rw [allL_perms n (by omega) (by omega)]; simp [allPermsL, h]
    rw [e]
    have H1 : decide ((n : Int) < 1) = false := by simp; omega
    have H2 : decide ((5 : Int) < n) = false := by simp; omega
    clear e
    go_enter Tryz.func55, Tryz.ntmps55
    go_wp2_with fail
    refine (implPerms_go n (by omega) n [] _ w.heap.size w.heap.size _ (own_nil _ _ _ _) (Nat.le_refl _) (Nat.le_refl _) (by simp)).mono ?_
    rintro e w2 ⟨u, rfl, ho, hb⟩
    go_wp2_with fail
    go_ret
    exact ⟨_, rfl, ho, hb⟩
  · have e : allPermsL N = [] := by simp [allPermsL, h]
    rw [e]
    clear e
    by_cases h1 : N < 1
    · clear h
      go_enter Tryz.func55, Tryz.ntmps55
      go_wp2_with fail
      go_ret
      exact ⟨_, rfl, ownII_nil _ _ _, Below.refl _ _⟩
    · have h2 : 5 < N := by omega
      clear h
      go_enter Tryz.func55, Tryz.ntmps55
      go_wp2_with fail
      go_ret
      exact ⟨_, rfl, ownII_nil _ _ _, Below.refl _ _⟩

end Go.Proofs.YtlbflckoodjokaaGreat
