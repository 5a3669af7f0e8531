/-
  The reference's words and its sums over subwords: the walks.
  The reference's sums over subwords: l8Sum, l8Local, Localize.
  Localize on both sides.
  The law FnLocal, walked.
-/
import Derived.Test.YtllmhicmikpfeaaJ14
import Derived.Test.YtllmhicmikpfeaaJ17
import Derived.Test.YtllmhicmikpfeaaJ9
import Derived.Test.YtllmhicmikpfeaaJ2
import Derived.Deep.RegionHeld3
import Derived.Test.YtllmhicmikpfeaaJ15
namespace Go.Proofs.Ytllmhicmikpfeaa
set_option linter.all false
set_option maxRecDepth 100000
open Go.RowKit

/-- a list that lies in no block that grows -/
def Apart (v u : Value) : Prop := ∀ b off l k, v = .slice (some ⟨b, off, none⟩) l k → u.ownBlock ≠ some b
theorem Ints.grown {w w' : World} {v u : Value} {xs : List Int} (h : Ints w v xs) (hg : w.grownBy w' u.ownBlock) (hn : Apart v u) : Ints w' v xs := by
  obtain ⟨p, cap, rfl, h1, hc⟩ := h
  refine ⟨p, cap, rfl, h1, fun h0 => ?_⟩
  obtain ⟨b, off, rfl, hc2⟩ := hc h0
  refine ⟨b, off, rfl, fun j hj => ?_⟩
  have hc0 := hc2 j hj
  rw [← hc0]
  exact World.cell?_of_block (hg.block b (World.block_lt_of_cell? _ _ hc0) (fun e => hn b off _ _ rfl e.symm))
theorem Ints.apart {w : World} {v u : Value} {xs : List Int} (h : Ints w v xs) (h0 : 0 < xs.length) {lo : Nat} (hlo : w.heap.size ≤ lo) (hu : ∀ k, u.ownBlock = some k → lo ≤ k) : Apart v u := by
  obtain ⟨p, cap, rfl, h1, hc⟩ := h
  obtain ⟨b, off, rfl, hc2⟩ := hc h0
  intro b' off' l k e hb
  injection e with e
  injection e with e
  injection e with e1
  subst e1
  have : b < w.heap.size := World.block_lt_of_cell? _ _ (hc2 0 h0)
  have := hu _ hb
  omega
theorem apart_own {T : TypeId} {w : World} {lo hi : Nat} {v u : Value} {xs : List Int} (h : OwnI T w lo hi v xs) (hu : ∀ k, u.ownBlock = some k → k < lo) : Apart v u := by
  intro b off l k e hb
  have h1 := hu _ hb
  have := h.fn.blocks b (by rw [e]; rfl)
  omega

set_option maxRecDepth 100000 in
set_option maxHeartbeats 4000000 in
theorem l8First_any (v : Value) (xs : List Int) (w : World) (h : Ints w v xs) (hp : P5 xs.length xs) :
    Calls Try.prog 59 #[v] w (RetI w (wz (fstL xs))) := by
  have Hh := Lib.hid h
  have Hp := Lib.hid hp
  obtain ⟨p, cap, rfl, ⟨hx1, hx2⟩, hxc⟩ := h
  unfold maxLen at hx2
  obtain ⟨n, hn⟩ : ∃ n, n = xs.length := ⟨_, rfl⟩
  have hn5 := hp.le
  have Hn := Lib.hid hn
  rw [← hn] at hx1 hn5 Hp Hh ⊢
  obtain ⟨W0, hW0⟩ : ∃ W, W = fstL xs := ⟨_, rfl⟩
  have HW := Lib.hid hW0
  have HWl := Lib.hid (wrd_at hp).2.2.1
  rw [← hW0] at HWl ⊢
  have Hp1 := Lib.hid (show 1 ≤ n from by have := hp.ok; simp only [permOk, decide_eq_true_eq] at this; rw [hn]; exact this.1)
  clear hxc hp hn hW0
  go_enter Try.func59, Try.ntmps59
  go_wp2_with fail
  go_loopg [0, 3] (lnN xs) (fun g s0 s3 wr => ∃ (c : List Int) (r : List Nat), P5 n c ∧ g = lnN c ∧ Hid (W0 = r ++ firL (lnN c) c) ∧ Hid (Ints wr s0 c) ∧ Hid (Below w.heap.size w wr) ∧ Hid (OwnI 3 wr w.heap.size wr.heap.size s3 (wz r)) ∧ Hid (Apart s0 s3))
  case atStart =>
    refine ⟨xs, [], Hp.out, rfl, Lib.hid ?_, Lib.hid (Hh.out.below (below_alloc w _)), below_alloc w _, ?_, Lib.hid (Hh.out.apart (by rw [← Hn.out]; exact Hp1.out) (Nat.le_refl _) fun k hk => by cases hk; exact Nat.le_refl _)⟩
    · rw [HW.out]; rfl
    · exact OwnF.ints ((OwnF.made0 w 3 (iv [])).mono (Nat.le_refl _) (by simp))
  case round =>
    obtain ⟨c, r, hc5, rfl, hW, hI, hb, ho, hap⟩ := hrel
    obtain ⟨wx, rfl⟩ : ∃ x : World, x = wr := ⟨_, rfl⟩
    have HI := Lib.hid hI.out
    have Hb := Lib.hid hb.out
    have HW2 := Lib.hid hW.out
    have Ho := Lib.hid ho.out
    have hcl := hc5.len
    have hsr := hb.out.size
    obtain ⟨pc, kc, rfl, ⟨hc1, hc2⟩, _⟩ := hI.out
    obtain ⟨p3, k3, rfl, hk3, hk4⟩ := ho.out.shape
    unfold maxLen at hc2
    rw [hcl] at HI hc1 hap ⊢
    have Hap := Lib.hid hap.out
    have Hcl := Lib.hid hcl
    clear hI hb hW ho hcl hap
    go_wp2_with fail
    refine (l1Length_any _ c _ HI.out (by rw [Hcl.out]; omega)).mono ?_
    rintro e w1 ⟨rfl, hb1⟩
    have Hb1 := Lib.hid hb1
    clear hb1
    obtain ⟨L, hL⟩ : ∃ L, L = lnN c := ⟨_, rfl⟩
    have HL := Lib.hid hL
    rw [← hL]
    clear hL
    by_cases h0 : L = 0
    · subst h0
      go_wp2_with fail
      go_ret
      refine ⟨_, rfl, ?_, Hb.out.trans (Hb1.out.mono hsr)⟩
      have := HW2.out
      rw [← HL.out] at this
      rw [this, firL, List.append_nil]
      exact (Ho.out.below Hb1.out).mono (Nat.le_refl _) Hb1.out.size
    · have hF := fir_at hc5 (by rw [← HL.out]; exact h0)
      have HF := Lib.hid hF
      obtain ⟨k, hk⟩ : ∃ k, k = frN c := ⟨_, rfl⟩
      have Hk := Lib.hid hk
      have hkn : k + 1 < n := by have := hF.lt; rw [Hcl.out] at this; omega
      have h0' : (0 : Int) < (L : Int) := by omega
      have Hc5 := Lib.hid hc5
      clear hF hk hc5
      go_wp2_with fail
      refine (specInverse_any _ c _ (HI.out.below Hb1.out) Hc5.out.ok).mono ?_
      rintro e w2 ⟨u2, rfl, ho2, hb2⟩
      have Ho2 := Lib.hid ho2
      have Hb2 := Lib.hid (Hb1.out.trans (hb2.mono Hb1.out.size))
      obtain ⟨p4, k4, rfl, hk5, hk6⟩ := ho2.shape
      unfold maxLen at hk6
      have hofn := ho2.fn
      rw [invL_length, Hcl.out] at hk5 hofn ⊢
      obtain ⟨g4, rfl, hg1, hg2, hg3⟩ := hofn.at_ (by omega)
      have Hofn := Lib.hid hofn
      clear ho2 hb2 hofn
      obtain ⟨B, hB⟩ : ∃ B, B = invL c := ⟨_, rfl⟩
      have HB := Lib.hid hB
      rw [← hB] at Hofn
      have hrk : ∀ j, j < n → ∃ m : Nat, B.getD j 0 = (m : Int) ∧ m < n := fun j hj => by rw [hB]; have := HF.out.rng j (by rw [Hcl.out]; exact hj); rw [Hcl.out] at this; exact this
      have Hrk := Lib.hid hrk
      have Hup := Lib.hid (show ∀ j, j < k → B.getD j 0 < B.getD (j + 1) 0 from fun j hj => by rw [hB]; exact of_decide_eq_true (HF.out.up j (by rw [← Hk.out]; exact hj)))
      have Hdn := Lib.hid (show B.getD (k + 1) 0 ≤ B.getD k 0 from by rw [hB, Hk.out]; exact Int.not_lt.1 (of_decide_eq_false HF.out.down))
      clear hB hrk
      go_wp2_with fail
      go_loopg [5] (k + 1) (fun g s5 wr => ∃ j : Nat, j ≤ k ∧ g = k + 1 - j ∧ s5 = .int .i64 (j : Int) ∧ Qt w2 wr)
      case atStart => exact ⟨0, Nat.zero_le _, rfl, rfl, Qt.refl _⟩
      case round =>
        obtain ⟨j, hj, rfl, rfl, hq⟩ := hrel
        obtain ⟨wy, rfl⟩ : ∃ x : World, x = wr := ⟨_, rfl⟩
        have c1 := hq.cell (Hofn.out.cell (show j < n by omega))
        have c2 := hq.cell (Hofn.out.cell (show j + 1 < n by omega))
        unfold iv at c1 c2
        obtain ⟨x, hx⟩ : ∃ x, x = B.getD j 0 := ⟨_, rfl⟩
        obtain ⟨y, hy⟩ : ∃ y, y = B.getD (j + 1) 0 := ⟨_, rfl⟩
        rw [← hx] at c1
        rw [← hy] at c2
        have Hx := Lib.hid hx
        have Hy := Lib.hid hy
        have HQ := Lib.hid hq
        have hj1 : (j : Int) < (n : Int) := by omega
        have hj2 : (j : Int) + 1 < (n : Int) := by omega
        clear hx hy hq
        by_cases hjk : j < k
        · have hxy : x < y := by rw [Hx.out, Hy.out]; exact Hup.out j hjk
          go_wp2_with fail
          go_quiet (fail)
          have HQ1 := Lib.hid (HQ.out.drewN nq)
          go_wp2_with fail
          go_roundg (k + 1 - (j + 1))
          case measure => omega
          case rel => exact ⟨j + 1, by omega, rfl, by go_num, HQ1.out⟩
        · have hjk2 : j = k := by omega
          have hxy : ¬ x < y := by rw [Hx.out, Hy.out, hjk2]; exact Int.not_lt.2 Hdn.out
          subst hjk2
          go_wp2_with fail
          go_quiet (fail)
          have HQ1 := Lib.hid (HQ.out.drewN nq)
          generalize wy.drewN nq = wv at *
          have Hrl := Lib.hid (show (wz r).length + 1 ≤ 1000 from by
            have := HWl.out
            have h2 := HW2.out
            rw [h2] at this
            rw [wz_length]
            rw [List.length_append] at this
            omega)
          have hBwv : Below wx.heap.size wx wv := (Hb2.out.trans ((HQ1.out.below _).mono Hb2.out.size))
          have HBwv := Lib.hid hBwv
          have Hsz := Lib.hid HQ1.out.size
          have hwv : w.heap.size ≤ wv.heap.size := Nat.le_trans hsr HBwv.out.size
          clear hBwv c1 c2
          go_wp2_with (at_builtin; go_must (refine wpList_append_F rfl (.tmp 25) (.tmp 27) 24 rfl 3 (.int .i64 0) 8 Try.underlying24 info_int rfl w.heap.size wv.heap.size _ (wz r).length (iv (wz r)) rfl (((Ho.out.below HBwv.out).mono (Nat.le_refl _) HBwv.out.size).fn.below (below_alloc wv _)) (by rw [size_alloc]; omega) (by rw [size_alloc]; omega) _ 1 _ rfl (rd_one _ _ _ rfl) (fun j _ => rfl) (by have := Hrl.out; unfold maxLen; omega) (by have := Hrl.out; omega) ?_; intro v3 w3 ho3 hg3))
          have hg3' : (wv.alloc (.cells #[.int .i64 (j : Int)] 3)).grownBy w3 (Value.slice p3 (wz r).length k3).ownBlock := hg3
          have HI3 := Lib.hid (((HI.out.below HBwv.out).below (below_alloc wv _)).grown hg3' Hap.out)
          have hblk := Ho.out.fn.blocks
          have hsx := Hb1.out.size
          have Hof3 := Lib.hid (((Hofn.out.below (HQ1.out.below _)).below (below_alloc wv _)).grown hg3' (fun k hk e => by
            have hk' : k = g4 := by injection hk with hk; exact hk.symm
            have := (hblk _ e).2
            omega))
          have hb3 : Below w.heap.size w w3 := ((Hb.out.trans (HBwv.out.mono hsr)).trans ((below_alloc wv _).mono hwv)).trans (grownBy_below hg3' hblk (Nat.le_refl _) (by rw [size_alloc]; omega))
          have Hb3 := Lib.hid hb3
          have Ho3 := Lib.hid (OwnI.snoc1 ho3)
          have hs3 : wv.heap.size + 1 ≤ w3.heap.size := by have := hg3'.size; rw [size_alloc] at this; exact this
          have hblk3 : ∀ k, v3.ownBlock = some k → k < w3.heap.size := fun k hk => (ho3.blocks k hk).2
          have Hblk3 := Lib.hid hblk3
          obtain ⟨pv, kv3, rfl, _, _⟩ := ho3.shape
          clear hg3 hg3' hb3 ho3 hblk hblk3
          refine (l1Ints_any _ c _ HI3.out (by rw [Hcl.out]; omega)).mono ?_
          rintro e w4 ⟨u5, rfl, ho5, hb5⟩
          have hofn5 := ho5.fn
          obtain ⟨p5, k5, rfl, hk51, hk52⟩ := ho5.shape
          rw [Hcl.out] at hk51 hofn5 ⊢
          unfold maxLen at hk52
          obtain ⟨g5, rfl, hg51, hg52, hg53⟩ := hofn5.at_ (by omega)
          obtain ⟨m1, hm1, hm1n⟩ := Hrk.out j (by omega)
          obtain ⟨m2, hm2, hm2n⟩ := Hrk.out (j + 1) (by omega)
          have c1 : w4.cell? ⟨g4, j, none⟩ = some (.int .i64 (m1 : Int)) := by rw [← hm1]; exact (Hof3.out.below hb5).cell (by omega)
          have c2 : w4.cell? ⟨g4, j + 1, none⟩ = some (.int .i64 (m2 : Int)) := by rw [← hm2]; exact (Hof3.out.below hb5).cell (by omega)
          have hgb : g5 ≠ g4 := by have := Hsz.out; omega
          have hbg : g4 ≠ g5 := fun e => hgb e.symm
          have f1 := hofn5.frozen m1
          have f2 := hofn5.frozen m2
          have d1 := hofn5.cell hm1n
          obtain ⟨z, d3⟩ : ∃ z, (w4.setCell ⟨g5, m1, none⟩ (.int .i64 ((j : Int) + 1))).cell? ⟨g5, m2, none⟩ = some z := ⟨_, (hofn5.set m1 (.int .i64 ((j : Int) + 1))).cell hm2n⟩
          have hm1i : (m1 : Int) < (n : Int) := by omega
          have hm2i : (m2 : Int) < (n : Int) := by omega
          have Ho5 := Lib.hid ho5
          have Hb5 := Lib.hid hb5
          have Hm1 := Lib.hid hm1
          have Hm2 := Lib.hid hm2
          clear hofn5 ho5 hb5 hm1 hm2
          go_wp2_with fail
          have hless := HF.out.less
          clear hwv
          go_roundg (lnN (frS c))
          case measure => omega
          case rel =>
            have hs3w : w.heap.size ≤ w3.heap.size := Hb3.out.size
            have hset : frS c = (c.set m1 ((j : Int) + 1)).set m2 (j : Int) := by
              unfold frS frV
              rw [← Hk.out, ← HB.out, Hm1.out, Hm2.out]
              simp
            have o5 := (Ho5.out.setG (by rw [Hcl.out]; exact hm1n) ((j : Int) + 1)).setG (t := m2) (by rw [List.length_set, Hcl.out]; exact hm2n) (j : Int)
            rw [← hset] at o5
            have hsz4 := Hb5.out.size
            refine ⟨frS c, r ++ [j], ⟨HF.out.ok, by rw [hset, List.length_set, List.length_set, Hcl.out], hn5⟩, rfl, Lib.hid ?_, Lib.hid ?_, Lib.hid ?_, Lib.hid ?_, Lib.hid ?_⟩
            · rw [HW2.out, ← hless, firL, ← Hk.out, List.append_assoc]; rfl
            · rw [Hcl.out] at o5; exact o5.ints
            · exact ((Hb3.out.trans (Hb5.out.mono hs3w)).setCell (p := ⟨g5, m1, none⟩) (show w.heap.size ≤ g5 by omega) _).setCell (p := ⟨g5, m2, none⟩) (show w.heap.size ≤ g5 by omega) _
            · rw [wz_snoc]
              exact (((Ho3.out.below Hb5.out).setCell (.inr hg51) _).setCell (.inr hg51) _).mono (Nat.le_refl _) (by rw [size_setCell, size_setCell]; exact hsz4)
            · rw [Hcl.out] at o5; exact apart_own o5 Hblk3.out

end Go.Proofs.Ytllmhicmikpfeaa

namespace Go.Proofs.Ytllmhicmikpfeaa
set_option linter.all false
set_option maxRecDepth 100000
open Go.RowKit

theorem wrap_cg (x : Int) : Cg (wrap64 x) x := ⟨(wrap64 x - x) / M64, by unfold wrap64 M64; omega⟩
theorem wrap_eq {x y : Int} (h : Cg x y) : wrap64 x = wrap64 y := by
  obtain ⟨m, rfl⟩ := h
  unfold wrap64 M64; omega
/-- numbers of a permutation, each a place -/
def PlcOk (n : Nat) (u : List Int) : Prop := u.length = n ∧ ∀ j, j < n → ∃ m : Nat, u.getD j 0 = (m : Int) ∧ m < n
theorem PlcOk.sw {n : Nat} {u : List Int} (h : PlcOk n u) {k : Nat} (hk : k + 1 < n) : PlcOk n (sw k u) := by
  refine ⟨by rw [sw_length]; exact h.1, fun j hj => ?_⟩
  rw [Go.Proofs.Ytllmhicmikpfeaa.sw, swapL_getD (by rw [h.1]; omega) (by rw [h.1]; omega)]
  split
  · exact h.2 k (by omega)
  · split
    · exact h.2 (k + 1) hk
    · exact h.2 j hj

set_option maxRecDepth 100000 in
set_option maxHeartbeats 8000000 in
theorem l8Sum_any (n : Nat) (vs : List Int) (word : List Nat) (ys : List Int) (hn5 : n ≤ 5) (hvl : vs.length = n) (hyl : ys.length = n) (hy9 : ∀ x ∈ ys, -9 ≤ x ∧ x ≤ 9) (hwk : ∀ k ∈ word, k + 1 < n) (hwl : word.length ≤ 10) :
    ∀ (m t : Nat) (u h : List Int) (pv pw pu ph py : Value) (w : World), t + m = word.length → PlcOk n u → h.length = n → Ints w pv vs → Ints w pw (wz word) → Ints w pu u → Ints w ph h → Ints w py ys →
    Calls Try.prog 58 #[pv, pw, .int .i64 (t : Int), pu, ph, py] w fun e w' => e = .returned (.int .i64 (wrap64 (sumS vs ys (word.drop t) u h))) ∧ Below w.heap.size w w' := by
  intro m
  induction m with
  | zero =>
    intro t u h pv pw pu ph py w hat hu hh Hv Hw Hu Hh Hy
    have HV := Lib.hid Hv
    have HH := Lib.hid Hh
    have HW := Lib.hid Hw
    obtain ⟨pw, cw, rfl, ⟨hw1, hw2⟩, _⟩ := Hw
    rw [wz_length] at hw1 ⊢
    have hat2 : word.length = t := by omega
    have hd : word.drop t = [] := List.drop_eq_nil_of_le (by omega)
    rw [hd, hat2]
    clear hd
    rw [hat2] at hw1
    obtain ⟨b, hb⟩ : ∃ b, b = decide (h = vs) := ⟨_, rfl⟩
    have Hb := Lib.hid hb
    have hs : sumS vs ys [] u h = if b = true then 1 else 0 := by rw [sumS, hb]; simp
    rw [hs]
    clear Hv Hu Hh Hy hs hb
    go_enter Try.func58, Try.ntmps58
    go_wp2_with fail
    refine (l1Same_any _ _ h vs _ HH.out HV.out).mono ?_
    rintro e w1 ⟨rfl, hq⟩
    rw [← Hb.out]
    have Hq := Lib.hid hq
    clear hq
    cases b with
    | true =>
      go_wp2_with fail
      go_ret
      exact ⟨ret_int (show (1 : Int) = wrap64 1 by decide +kernel), Hq.out.below _⟩
    | false =>
      go_wp2_with fail
      go_ret
      exact ⟨ret_int (show (0 : Int) = wrap64 0 by decide +kernel), Hq.out.below _⟩
  | succ m ih =>
    intro t u h pv pw pu ph py w hat hu hh Hv Hw Hu Hh Hy
    have HV := Lib.hid Hv
    have HH := Lib.hid Hh
    have HW := Lib.hid Hw
    have HU := Lib.hid Hu
    have HY := Lib.hid Hy
    have Ih := Lib.hid ih
    obtain ⟨pw, cw, rfl, ⟨hw1, hw2⟩, hwc⟩ := Hw
    obtain ⟨pu, cu, rfl, ⟨hu1, hu2⟩, huc⟩ := Hu
    obtain ⟨ph, ch, rfl, ⟨hh1, hh2⟩, hhc⟩ := Hh
    obtain ⟨py, cy, rfl, ⟨hy1, hy2⟩, hyc⟩ := Hy
    obtain ⟨pv, cv, rfl, ⟨hv1, hv2⟩, hvc⟩ := Hv
    unfold maxLen at hw2 hu2 hh2 hy2 hv2
    rw [wz_length] at hw1 hwc HW ⊢
    have hlt : t < word.length := by omega
    obtain ⟨bw, ow, rfl, hwd⟩ := hwc (by omega)
    have cw0 := hwd t hlt
    unfold iv at cw0
    rw [wz_getD hlt] at cw0
    obtain ⟨k, hk⟩ : ∃ k, k = word.getD t 0 := ⟨_, rfl⟩
    have hkn : k + 1 < n := hwk _ (by rw [hk, List.getD_eq_getElem?_getD, List.getElem?_eq_getElem hlt]; exact List.getElem_mem hlt)
    have hdr : word.drop t = k :: word.drop (t + 1) := by
      rw [List.drop_eq_getElem_cons hlt, hk, List.getD_eq_getElem?_getD, List.getElem?_eq_getElem hlt]; rfl
    rw [hdr, sumS]
    rw [← hk] at cw0
    have hul := hu.1
    rw [hul] at hu1 huc HU ⊢
    rw [hh] at hh1 hhc HH ⊢
    rw [hyl] at hy1 hyc HY ⊢
    rw [hvl] at hv1 hvc HV ⊢
    obtain ⟨bu, ou, rfl, hud⟩ := huc (by omega)
    obtain ⟨bh, oh, rfl, hhd⟩ := hhc (by omega)
    obtain ⟨by', oy, rfl, hyd⟩ := hyc (by omega)
    obtain ⟨m0, hm0, hm0n⟩ := hu.2 k (by omega)
    obtain ⟨m1, hm1, hm1n⟩ := hu.2 (k + 1) hkn
    have cu0 := hud k (by omega)
    have cu1 := hud (k + 1) hkn
    have ch0 := hhd k (by omega)
    have ch1 := hhd (k + 1) hkn
    have cy0 := hyd m0 hm0n
    have cy1 := hyd m1 hm1n
    unfold iv at cu0 cu1 ch0 ch1 cy0 cy1
    rw [hm0] at cu0
    rw [hm1] at cu1
    obtain ⟨x, hx⟩ : ∃ x, x = h.getD k 0 := ⟨_, rfl⟩
    obtain ⟨y, hy⟩ : ∃ y, y = h.getD (k + 1) 0 := ⟨_, rfl⟩
    obtain ⟨a, ha⟩ : ∃ a, a = ys.getD m0 0 := ⟨_, rfl⟩
    obtain ⟨b, hb⟩ : ∃ b, b = ys.getD m1 0 := ⟨_, rfl⟩
    rw [← hx] at ch0
    rw [← hy] at ch1
    rw [← ha] at cy0
    rw [← hb] at cy1
    have ha9 := hy9 a (by rw [ha]; exact getD_mem (by omega))
    have hb9 := hy9 b (by rw [hb]; exact getD_mem (by omega))
    rw [hm0, hm1, Int.toNat_natCast, Int.toNat_natCast, ← ha, ← hb]
    obtain ⟨S1, hS1⟩ : ∃ S, S = sumS vs ys (word.drop (t + 1)) (sw k u) h := ⟨_, rfl⟩
    obtain ⟨S2, hS2⟩ : ∃ S, S = sumS vs ys (word.drop (t + 1)) (sw k u) (sw k h) := ⟨_, rfl⟩
    obtain ⟨bb, hbb⟩ : ∃ bb, bb = decide (x < y) := ⟨_, rfl⟩
    have hasc : ascB k h = bb := by rw [hbb]; unfold ascB; rw [hx, hy]
    rw [← hS1, ← hS2, hasc]
    have HS1 := Lib.hid hS1
    have HS2 := Lib.hid hS2
    have Hbb := Lib.hid hbb
    have Hul := Lib.hid hul
    have Hhl := Lib.hid hh
    have Hpl := Lib.hid hu
    have Hat := Lib.hid hat
    have Hwl := Lib.hid hwl
    obtain ⟨N, hN⟩ : ∃ N, N = word.length := ⟨_, rfl⟩
    have HN := Lib.hid hN
    rw [← hN] at hw1 HW hlt ⊢
    have hN10 : N ≤ 10 := by rw [hN]; exact hwl
    have hati : (t : Int) < (N : Int) := by omega
    have hatne : ¬ t = N := by omega
    have hatne2 : ¬ (t : Int) = (N : Int) := by omega
    clear hwc huc hhc hyc hvc hwd hud hhd hyd hx hy ha hb hm0 hm1 hk hdr hS1 hS2 hbb hasc hul hh hu hat ih hvl hyl hy9 hwk hwl hN
    go_enter Try.func58, Try.ntmps58
    go_wp2_with fail
    refine (l1Swap_any _ u k (k + 1) _ HU.out (by rw [Hul.out]; omega) (by rw [Hul.out]; omega) (by rw [Hul.out]; omega)).mono ?_
    rintro e w1 ⟨u1, rfl, ho1, hb1⟩
    have HU1 := Lib.hid (show Ints w1 u1 (sw k u) from ho1.ints)
    obtain ⟨p1, c1, rfl, hc11, hc12⟩ := ho1.shape
    rw [swapL_length, Hul.out] at HU1 hc11 ⊢
    unfold maxLen at hc12
    have Hb1 := Lib.hid hb1
    clear ho1 hb1
    go_wp2_with fail
    refine (Ih.out (t + 1) (sw k u) h _ _ _ _ _ _ (by have := Hat.out; omega) (Hpl.out.sw hkn) Hhl.out (HV.out.below Hb1.out) (HW.out.below Hb1.out) HU1.out (HH.out.below Hb1.out) (HY.out.below Hb1.out)).mono ?_
    rintro e w2 ⟨rfl, hb2⟩
    rw [← HS1.out]
    have Hb2 := Lib.hid (Hb1.out.trans (hb2.mono Hb1.out.size))
    have HU2 := Lib.hid (HU1.out.below hb2)
    have d0 := cell_below Hb2.out ch0
    have d1 := cell_below Hb2.out ch1
    clear hb2
    obtain ⟨R1, hR1⟩ : ∃ R, R = wrap64 S1 := ⟨_, rfl⟩
    have HR1 := Lib.hid hR1
    rw [← hR1]
    clear hR1
    have hki : (k : Int) < (n : Int) := by omega
    have hki1 : (k : Int) + 1 < (n : Int) := by omega
    cases bb with
    | false =>
      have hxy : ¬ x < y := of_decide_eq_false Hbb.out.symm
      go_wp2_with fail
      go_quiet (fail)
      have HB2 := Lib.hid (Below.drewN Hb2.out nq)
      go_wp2_with fail
      go_ret
      refine ⟨ret_int ?_, HB2.out⟩
      rw [HR1.out]
    | true =>
      have hxy : x < y := of_decide_eq_true Hbb.out.symm
      go_wp2_with fail
      go_quiet (fail)
      have HB2 := Lib.hid (Below.drewN Hb2.out nq)
      have HU3 := Lib.hid (HU2.out.drewN nq)
      generalize w2.drewN nq = w3 at *
      have e0 := cell_below HB2.out cu0
      have e1 := cell_below HB2.out cu1
      have e2 := cell_below HB2.out cy0
      have e3 := cell_below HB2.out cy1
      have hm0i : (m0 : Int) < (n : Int) := by omega
      have hm1i : (m1 : Int) < (n : Int) := by omega
      have hk0 : (0 : Int) ≤ (k : Int) + 1 := by omega
      have hkn2 : ((k : Int) + 1).toNat = k + 1 := by omega
      obtain ⟨R2, hR2⟩ : ∃ R, R = wrap64 S2 := ⟨_, rfl⟩
      have HR2 := Lib.hid hR2
      have hBB : Below w.heap.size w w3.drew := HB2.out.drew
      have hw1 : IntKind.i64.wrap ((k : Int) + 1) = (k : Int) + 1 := k64 (by omega) (by omega)
      have hw2 : IntKind.i64.wrap ((t : Int) + 1) = (t : Int) + 1 := k64 (by omega) (by omega)
      have hw3 : IntKind.i64.wrap (b - a) = b - a := k64 (by omega) (by omega)
      clear cu0 cu1 cy0 cy1 ch0 ch1 d0 d1 cw0 hR2 ha9 hb9
      go_wp2_with fail
      go_region_held3 (fun w' => (w'.cell? ⟨bu, ou + k, none⟩ = some (.int .i64 (m0 : Int)) ∧ w'.cell? ⟨bu, ou + (k + 1), none⟩ = some (.int .i64 (m1 : Int)) ∧ w'.cell? ⟨by', oy + m0, none⟩ = some (.int .i64 a) ∧ w'.cell? ⟨by', oy + m1, none⟩ = some (.int .i64 b)) ∧ Below w.heap.size w w')
        (first | with_reducible assumption | exact ⟨⟨e0, e1, e2, e3⟩, hBB⟩ | exact keep4 hb4 (by assumption) | exact keep4 hb5 (by assumption))
        (first
          | (go_at_call 51; refine (l1Swap_any _ h k (k + 1) _ (held_ints HH.out (by assumption)) (by rw [Hhl.out]; omega) (by rw [Hhl.out]; omega) (by rw [Hhl.out]; omega)).mono ?_; rintro e w4 ⟨u4, rfl, ho4, hb4⟩; have HH4 := Lib.hid (show Ints w4 u4 (sw k h) from ho4.ints); have HU4 := Lib.hid ((HU3.out.below (Below.refl _ _).drew).below hb4))
          | (go_at_call 58; refine (Ih.out (t + 1) (sw k u) (sw k h) _ _ _ _ _ _ (by have := Hat.out; omega) (Hpl.out.sw hkn) (by rw [sw_length]; exact Hhl.out) (held_ints HV.out (by assumption)) (held_ints HW.out (by assumption)) HU4.out HH4.out (held_ints HY.out (by assumption))).mono ?_; rintro e w5 ⟨rfl, hb5⟩; rw [← HS2.out, ← HR2.out]))
      have hS : (w5.cell? ⟨bu, ou + k, none⟩ = some (.int .i64 (m0 : Int)) ∧ w5.cell? ⟨bu, ou + (k + 1), none⟩ = some (.int .i64 (m1 : Int)) ∧ w5.cell? ⟨by', oy + m0, none⟩ = some (.int .i64 a) ∧ w5.cell? ⟨by', oy + m1, none⟩ = some (.int .i64 b)) ∧ Below w.heap.size w w5 := by assumption
      have HS := Lib.hid hS.2
      clear hS hw1 hw2 hw3
      obtain ⟨R, hR⟩ : ∃ R, R = IntKind.i64.wrap (R1 + IntKind.i64.wrap ((b - a) * R2)) := ⟨_, rfl⟩
      have HR := Lib.hid hR
      rw [← hR]
      clear hR
      go_wp2_with fail
      go_ret
      refine ⟨ret_int ?_, HS.out⟩
      rw [HR.out, HR1.out, HR2.out]
      have e : ∀ z, IntKind.i64.wrap z = wrap64 z := fun z => IntWalk.i64_left z
      rw [e, e]
      refine wrap_eq ?_
      refine (wrap_cg _).add ((wrap_cg _).trans ?_)
      exact (Cg.refl _).mul (wrap_cg _)

set_option maxRecDepth 100000 in
set_option maxHeartbeats 2000000 in
theorem l8Local_any (n : Nat) (vs xs ys : List Int) (pv px py : Value) (w : World) (hp : P5 n xs) (h1 : 1 ≤ n) (hvl : vs.length = n) (hyl : ys.length = n) (hy9 : ∀ x ∈ ys, -9 ≤ x ∧ x ≤ 9) (hv : Ints w pv vs) (hx : Ints w px xs) (hy : Ints w py ys) :
    Calls Try.prog 35 #[pv, px, py] w fun e w' => e = .returned (.int .i64 (wrap64 (sumS vs ys (fstL xs) (idL n) (idL n)))) ∧ Below w.heap.size w w' := by
  have Hp := Lib.hid hp
  have HX := Lib.hid hx
  have HV := Lib.hid hv
  have HY := Lib.hid hy
  have Hvl := Lib.hid hvl
  have Hyl := Lib.hid hyl
  have Hy9 := Lib.hid hy9
  have Hxl := Lib.hid hp.len
  have h5 := hp.le
  obtain ⟨ppx, cx, rfl, ⟨hx1, hx2⟩, hxc⟩ := hx
  unfold maxLen at hx2
  rw [hp.len] at hx1 HX ⊢
  clear hxc hv hy hvl hyl hy9 hp
  go_enter Try.func35, Try.ntmps35
  go_wp2_with fail
  refine (l8First_any _ xs _ HX.out (by rw [Hxl.out]; exact Hp.out)).mono ?_
  rintro e w1 ⟨u1, rfl, ho1, hb1⟩
  have HF := Lib.hid ho1.ints
  obtain ⟨p1, c1, rfl, hc1, hc2⟩ := ho1.shape
  have Hb1 := Lib.hid hb1
  clear ho1 hb1
  go_wp2_with fail
  refine (specIdentity_any n _ h1 (by omega)).mono ?_
  rintro e w2 ⟨u2, rfl, ho2, hb2⟩
  have HI2 := Lib.hid ho2.ints
  obtain ⟨p2, c2, rfl, hc3, hc4⟩ := ho2.shape
  have Hb2 := Lib.hid (Hb1.out.trans (hb2.mono Hb1.out.size))
  have HF2 := Lib.hid (HF.out.below hb2)
  clear ho2 hb2
  go_wp2_with fail
  refine (specIdentity_any n _ h1 (by omega)).mono ?_
  rintro e w3 ⟨u3, rfl, ho3, hb3⟩
  have HI3 := Lib.hid ho3.ints
  obtain ⟨p3, c3, rfl, hc5, hc6⟩ := ho3.shape
  have Hb3 := Lib.hid (Hb2.out.trans (hb3.mono Hb2.out.size))
  have HF3 := Lib.hid (HF2.out.below hb3)
  have HI2b := Lib.hid (HI2.out.below hb3)
  clear ho3 hb3
  go_wp2_with fail
  have hw := wrd_at Hp.out
  refine (l8Sum_any n vs (fstL xs) ys h5 Hvl.out Hyl.out Hy9.out hw.2.1 hw.2.2.1 (fstL xs).length 0 (idL n) (idL n) _ _ _ _ _ _ (by omega) ⟨idL_length n, fun j hj => ⟨j, idL_getD hj, hj⟩⟩ (idL_length n) (HV.out.below Hb3.out) HF3.out HI2b.out HI3.out (HY.out.below Hb3.out)).mono ?_
  rintro e w4 ⟨rfl, hb4⟩
  have Hb4 := Lib.hid (Hb3.out.trans (hb4.mono Hb3.out.size))
  rw [List.drop_zero]
  obtain ⟨R, hR⟩ : ∃ R, R = wrap64 (sumS vs ys (fstL xs) (idL n) (idL n)) := ⟨_, rfl⟩
  have HR := Lib.hid hR
  rw [← hR]
  clear hw hb4 hR
  go_wp2_with fail
  go_ret
  exact ⟨ret_int HR.out, Hb4.out⟩

end Go.Proofs.Ytllmhicmikpfeaa

namespace Go.Proofs.Ytllmhicmikpfeaa
set_option linter.all false
set_option maxRecDepth 100000
open Go.RowKit

def locOk (vs ws ys : List Int) : Bool := permOk vs && permOk ws && decide (vs.length = ws.length) && nmOk vs.length ys
/-- what Localize says -/
def locL (vs ws ys : List Int) : Int × Bool := if locOk vs ws ys then (wrap64 (Ev (dblP vs ys) (mono (pickL ws ys))), true) else (0, false)
def RetIB (w : World) (r : Int × Bool) (e : Ending) (w' : World) : Prop := e = .returned (.tuple #[.int .i64 r.1, .bool r.2]) ∧ Below w.heap.size w w'
theorem locL_no {vs ws ys : List Int} (h : locOk vs ws ys = false) : locL vs ws ys = (0, false) := by unfold locL; rw [h]; rfl
theorem locL_yes {vs ws ys : List Int} (h : locOk vs ws ys = true) : locL vs ws ys = (wrap64 (Ev (dblP vs ys) (mono (pickL ws ys))), true) := by unfold locL; rw [h]; rfl
structure LocIs (n : Nat) (vs ws ys : List Int) : Prop where
  v : P5 n vs
  w : P5 n ws
  y : ys.length = n
  one : 1 ≤ n
  y9 : ∀ x ∈ ys, -9 ≤ x ∧ x ≤ 9
theorem locIs_of {vs ws ys : List Int} (h1 : permOk vs = true) (h2 : permOk ws = true) (h3 : vs.length = ws.length) (h4 : nmOk vs.length ys = true) : LocIs vs.length vs ws ys := by
  obtain ⟨n, e, hn1, hn5, hyl, hy9⟩ := nm_facts h4
  have e := Int.ofNat.inj e
  rw [← e] at hn1 hn5 hyl
  exact ⟨⟨h1, rfl, hn5⟩, ⟨h2, h3.symm, hn5⟩, hyl, hn1, all_of_getD fun k hk => hy9 k (by omega)⟩
theorem ret_ib {a : Int} {b : Bool} {r : Int × Bool} (h : (a, b) = r) : Ending.returned (.tuple #[.int .i64 a, .bool b]) = .returned (.tuple #[.int .i64 r.1, .bool r.2]) := by rw [← h]

set_option maxRecDepth 100000 in
set_option maxHeartbeats 4000000 in
theorem specLocalize_any (pv pw py : Value) (vs ws ys : List Int) (w : World) (hv : Ints w pv vs) (hw : Ints w pw ws) (hy : Ints w py ys) :
    Calls Try.prog 8 #[pv, pw, py] w (RetIB w (locL vs ws ys)) := by
  have HV := Lib.hid hv
  have HW := Lib.hid hw
  have HY := Lib.hid hy
  obtain ⟨av, cv, rfl, ⟨hv1, hv2⟩, _⟩ := hv
  obtain ⟨aw, cw, rfl, ⟨hw1, hw2⟩, _⟩ := hw
  obtain ⟨ay, cy, rfl, ⟨hy1, hy2⟩, _⟩ := hy
  unfold maxLen at hv2 hw2 hy2
  have no : ∀ w', locOk vs ws ys = false → Below w.heap.size w w' → RetIB w (locL vs ws ys) (.returned (.tuple #[.int .i64 0, .bool false])) w' := fun w' h hb => ⟨ret_ib (locL_no h).symm, hb⟩
  have No := Lib.hid no
  clear no
  go_enter Try.func8, Try.ntmps8
  cases h1 : permOk vs with
  | false =>
    have H1 := Lib.hid h1
    clear h1
    go_wp2_with fail
    refine (specIsPerm_b _ vs false H1.out _ HV.out).mono ?_
    rintro e w1 ⟨rfl, hq⟩
    have hb := hq.below w.heap.size
    go_wp2_with fail
    go_ret2
    exact No.out _ (by unfold locOk; rw [H1.out]; rfl) hb
  | true =>
  cases h2 : permOk ws with
  | false =>
    have H1 := Lib.hid h1
    have H2 := Lib.hid h2
    clear h1 h2
    go_wp2_with fail
    refine (specIsPerm_b _ vs true H1.out _ HV.out).mono ?_
    rintro e w1 ⟨rfl, hq⟩
    have HW1 := Lib.hid (HW.out.qt hq)
    go_wp2_with fail
    refine (specIsPerm_b _ ws false H2.out _ HW1.out).mono ?_
    rintro e w2 ⟨rfl, hq2⟩
    have hb := (hq.trans hq2).below w.heap.size
    go_wp2_with fail
    go_ret2
    exact No.out _ (by unfold locOk; rw [H2.out]; simp) hb
  | true =>
  have H1 := Lib.hid h1
  have H2 := Lib.hid h2
  clear h1 h2
  by_cases h3 : vs.length = ws.length
  · have H3 := Lib.hid h3
    rw [← h3] at hw1 HW ⊢
    cases h4 : nmOk vs.length ys with
    | false =>
      have H4 := Lib.hid h4
      clear h3 h4
      go_wp2_with fail
      refine (specIsPerm_b _ vs true H1.out _ HV.out).mono ?_
      rintro e w1 ⟨rfl, hq⟩
      have HW1 := Lib.hid (HW.out.qt hq)
      go_wp2_with fail
      refine (specIsPerm_b _ ws true H2.out _ HW1.out).mono ?_
      rintro e w2 ⟨rfl, hq2⟩
      have HQ := Lib.hid (hq.trans hq2)
      clear hq hq2
      go_wp2_with fail
      refine (l8Numbers_any _ _ ys _ (HY.out.qt HQ.out)).mono ?_
      rintro e w3 ⟨rfl, rfl⟩
      rw [H4.out]
      have hb := HQ.out.below w.heap.size
      go_wp2_with fail
      go_ret2
      exact No.out _ (by unfold locOk; rw [H4.out]; simp) hb
    | true =>
      have H4 := Lib.hid h4
      have HL := Lib.hid (locIs_of H1.out H2.out H3.out H4.out)
      obtain ⟨n, hn⟩ : ∃ n, n = vs.length := ⟨_, rfl⟩
      have Hn := Lib.hid hn
      rw [← hn] at hv1 hw1 HV HW HL H4 ⊢
      clear h3 h4 hn
      go_wp2_with fail
      refine (specIsPerm_b _ vs true H1.out _ HV.out).mono ?_
      rintro e w1 ⟨rfl, hq⟩
      have HW1 := Lib.hid (HW.out.qt hq)
      go_wp2_with fail
      refine (specIsPerm_b _ ws true H2.out _ HW1.out).mono ?_
      rintro e w2 ⟨rfl, hq2⟩
      have HQ := Lib.hid (hq.trans hq2)
      clear hq hq2
      go_wp2_with fail
      refine (l8Numbers_any _ _ ys _ (HY.out.qt HQ.out)).mono ?_
      rintro e w3 ⟨rfl, rfl⟩
      rw [H4.out]
      have HQ3 := HQ
      go_wp2_with fail
      refine (l8Local_any n vs ws ys _ _ _ _ HL.out.w HL.out.one HL.out.v.len HL.out.y HL.out.y9 (HV.out.qt HQ3.out) (HW.out.qt HQ3.out) (HY.out.qt HQ3.out)).mono ?_
      rintro e w4 ⟨rfl, hb4⟩
      have Hb4 := Lib.hid ((HQ3.out.below w.heap.size).trans (hb4.mono (Nat.le_of_eq HQ3.out.size.symm)))
      obtain ⟨R, hR⟩ : ∃ R, R = wrap64 (sumS vs ys (fstL ws) (idL n) (idL n)) := ⟨_, rfl⟩
      have HR := Lib.hid hR
      rw [← hR]
      clear hb4 hR
      go_wp2_with fail
      go_ret2
      refine ⟨ret_ib ?_, Hb4.out⟩
      rw [locL_yes (by unfold locOk; rw [H1.out, H2.out, decide_eq_true H3.out, ← Hn.out, H4.out]; rfl), loc_law HL.out.v HL.out.w HL.out.y HL.out.one, HR.out]
  · have H3 := Lib.hid h3
    have h3i : ¬ (vs.length : Int) = (ws.length : Int) := by omega
    clear h3
    go_wp2_with fail
    refine (specIsPerm_b _ vs true H1.out _ HV.out).mono ?_
    rintro e w1 ⟨rfl, hq⟩
    have HW1 := Lib.hid (HW.out.qt hq)
    go_wp2_with fail
    refine (specIsPerm_b _ ws true H2.out _ HW1.out).mono ?_
    rintro e w2 ⟨rfl, hq2⟩
    have hb := (hq.trans hq2).below w.heap.size
    go_wp2_with fail
    go_ret2
    exact No.out _ (by unfold locOk; rw [decide_eq_false H3.out]; simp) hb

theorem nm_no {n : Nat} {ys : List Int} (h : ¬ n ≤ 5) : nmOk n ys = false := by unfold nmOk; rw [decide_eq_false (show ¬ (n : Int) ≤ 5 by omega)]; simp

set_option maxRecDepth 100000 in
set_option maxHeartbeats 4000000 in
theorem implLocalize_any (pv pw py : Value) (vs ws ys : List Int) (w : World) (hv : Ints w pv vs) (hw : Ints w pw ws) (hy : Ints w py ys) :
    Calls Try.prog 7 #[pv, pw, py] w (RetIB w (locL vs ws ys)) := by
  have HV := Lib.hid hv
  have HW := Lib.hid hw
  have HY := Lib.hid hy
  obtain ⟨av, cv, rfl, ⟨hv1, hv2⟩, _⟩ := hv
  obtain ⟨aw, cw, rfl, ⟨hw1, hw2⟩, _⟩ := hw
  obtain ⟨ay, cy, rfl, ⟨hy1, hy2⟩, _⟩ := hy
  unfold maxLen at hv2 hw2 hy2
  have no : ∀ w', locOk vs ws ys = false → Below w.heap.size w w' → RetIB w (locL vs ws ys) (.returned (.tuple #[.int .i64 0, .bool false])) w' := fun w' h hb => ⟨ret_ib (locL_no h).symm, hb⟩
  have No := Lib.hid no
  clear no
  go_enter Try.func7, Try.ntmps7
  cases h1 : permOk vs with
  | false =>
    have H1 := Lib.hid h1
    clear h1
    go_wp2_with fail
    refine (implIsPerm_b _ vs false H1.out _ HV.out).mono ?_
    rintro e w1 ⟨rfl, hb⟩
    go_wp2_with fail
    go_ret2
    exact No.out _ (by unfold locOk; rw [H1.out]; rfl) hb
  | true =>
  cases h2 : permOk ws with
  | false =>
    have H1 := Lib.hid h1
    have H2 := Lib.hid h2
    clear h1 h2
    go_wp2_with fail
    refine (implIsPerm_b _ vs true H1.out _ HV.out).mono ?_
    rintro e w1 ⟨rfl, hb⟩
    have HW1 := Lib.hid (HW.out.below hb)
    go_wp2_with fail
    refine (implIsPerm_b _ ws false H2.out _ HW1.out).mono ?_
    rintro e w2 ⟨rfl, hb2⟩
    have hb3 := below_trans hb hb2
    go_wp2_with fail
    go_ret2
    exact No.out _ (by unfold locOk; rw [H2.out]; simp) hb3
  | true =>
  have H1 := Lib.hid h1
  have H2 := Lib.hid h2
  clear h1 h2
  by_cases h3 : vs.length = ws.length
  · have H3 := Lib.hid h3
    rw [← h3] at hw1 HW ⊢
    clear h3
    by_cases h5 : vs.length ≤ 5
    · have h5i : ¬ (5 : Int) < (vs.length : Int) := by omega
      have hone : 1 ≤ vs.length := by have := H1.out; simp only [permOk, decide_eq_true_eq] at this; exact this.1
      have hns := Lib.hid (nm_shift (N := (vs.length : Int)) (y := ys) (by omega) (by omega))
      cases h4 : shiftB vs.length ys with
      | false =>
        have H4 := Lib.hid h4
        clear h4
        go_wp2_with fail
        refine (implIsPerm_b _ vs true H1.out _ HV.out).mono ?_
        rintro e w1 ⟨rfl, hb⟩
        have HW1 := Lib.hid (HW.out.below hb)
        go_wp2_with fail
        refine (implIsPerm_b _ ws true H2.out _ HW1.out).mono ?_
        rintro e w2 ⟨rfl, hb2⟩
        have HB := Lib.hid (below_trans hb hb2)
        clear hb hb2
        go_wp2_with fail
        refine (shiftsOk_any _ _ ys _ (HY.out.below HB.out)).mono ?_
        rintro e w3 ⟨rfl, rfl⟩
        rw [H4.out]
        go_wp2_with fail
        go_ret2
        exact No.out _ (by unfold locOk; rw [hns.out, H4.out]; simp) HB.out
      | true =>
        have H4 := Lib.hid h4
        have H5 := Lib.hid (show nmOk vs.length ys = true by rw [hns.out]; exact h4)
        have HL := Lib.hid (locIs_of H1.out H2.out H3.out H5.out)
        obtain ⟨n, hn⟩ : ∃ n, n = vs.length := ⟨_, rfl⟩
        have Hn := Lib.hid hn
        rw [← hn] at hv1 hw1 HV HW HL H4 H5 h5 h5i hone ⊢
        clear h4 hn hns
        go_wp2_with fail
        refine (implIsPerm_b _ vs true H1.out _ HV.out).mono ?_
        rintro e w1 ⟨rfl, hb⟩
        have HW1 := Lib.hid (HW.out.below hb)
        go_wp2_with fail
        refine (implIsPerm_b _ ws true H2.out _ HW1.out).mono ?_
        rintro e w2 ⟨rfl, hb2⟩
        have HB := Lib.hid (below_trans hb hb2)
        clear hb hb2
        go_wp2_with fail
        refine (shiftsOk_any _ _ ys _ (HY.out.below HB.out)).mono ?_
        rintro e w3 ⟨rfl, rfl⟩
        rw [H4.out]
        go_wp2_with fail
        refine (double_any _ _ vs ys _ (HV.out.below HB.out) (HY.out.below HB.out) (by rw [HL.out.v.len]; exact hone) (by rw [HL.out.v.len]; exact h5) (by rw [HL.out.v.len]; exact HL.out.y) HL.out.y9 HL.out.v.low).mono ?_
        rintro e w4 ⟨u4, rfl, hp4, hb4⟩
        have HP := Lib.hid hp4
        obtain ⟨b4, D4, rfl, _, _⟩ := hp4
        have HB4 := Lib.hid (HB.out.trans (hb4.mono HB.out.size))
        clear hb4
        go_wp2_with fail
        refine (valueAt_any _ _ _ 10 _ (dblP vs ys) ws ys _ HP.out (by omega) (HW.out.below HB4.out) (HY.out.below HB4.out) (by rw [HL.out.w.len]; omega) (fun i hi => by rw [HL.out.w.len] at hi; rw [HL.out.y]; exact HL.out.w.rng hi)).mono ?_
        rintro e w5 ⟨rfl, hb5⟩
        have HB5 := Lib.hid (HB4.out.trans (hb5.mono HB4.out.size))
        obtain ⟨R, hR⟩ : ∃ R, R = wrap64 (Ev (dblP vs ys) (mono (pickL ws ys))) := ⟨_, rfl⟩
        have HR := Lib.hid hR
        rw [← hR]
        clear hb5 hR
        go_wp2_with fail
        go_ret2
        refine ⟨ret_ib ?_, HB5.out⟩
        rw [locL_yes (by unfold locOk; rw [H1.out, H2.out, decide_eq_true H3.out, ← Hn.out, H5.out]; rfl), HR.out]
    · have h5i : (5 : Int) < (vs.length : Int) := by omega
      have H5 := Lib.hid (nm_no (ys := ys) h5)
      go_wp2_with fail
      refine (implIsPerm_b _ vs true H1.out _ HV.out).mono ?_
      rintro e w1 ⟨rfl, hb⟩
      have HW1 := Lib.hid (HW.out.below hb)
      go_wp2_with fail
      refine (implIsPerm_b _ ws true H2.out _ HW1.out).mono ?_
      rintro e w2 ⟨rfl, hb2⟩
      have hb3 := below_trans hb hb2
      go_wp2_with fail
      go_ret2
      exact No.out _ (by unfold locOk; rw [H5.out]; simp) hb3
  · have H3 := Lib.hid h3
    have h3i : ¬ (vs.length : Int) = (ws.length : Int) := by omega
    clear h3
    go_wp2_with fail
    refine (implIsPerm_b _ vs true H1.out _ HV.out).mono ?_
    rintro e w1 ⟨rfl, hb⟩
    have HW1 := Lib.hid (HW.out.below hb)
    go_wp2_with fail
    refine (implIsPerm_b _ ws true H2.out _ HW1.out).mono ?_
    rintro e w2 ⟨rfl, hb2⟩
    have hb3 := below_trans hb hb2
    go_wp2_with fail
    go_ret2
    exact No.out _ (by unfold locOk; rw [decide_eq_false H3.out]; simp) hb3

end Go.Proofs.Ytllmhicmikpfeaa

namespace Go.Proofs.Ytllmhicmikpfeaa
set_option linter.all false
set_option maxRecDepth 100000
open Go.RowKit

theorem lawResidue_any (X : Int) (w : World) (h : -6131066257801 ≤ X ∧ X ≤ 6131066257801) :
    Calls Try.prog 11 #[.int .i64 X] w fun e w' => e = .returned (.int .i64 (X % 32003)) ∧ w' = w := by
  obtain ⟨h1, h2, h3⟩ := res_eq X
  obtain ⟨r, hr⟩ : ∃ r, r = X.tmod 32003 := ⟨_, rfl⟩
  obtain ⟨s, hs⟩ : ∃ s, s = X % 32003 := ⟨_, rfl⟩
  rw [← hr] at h1 h2 h3
  rw [← hs] at h1 ⊢
  have f1 : X.tmod 32003 = r := hr.symm
  have f2 : IntKind.i64.wrap (r + 32003) = r + 32003 := k64 (by omega) (by omega)
  clear hr hs
  go_enter Try.func11, Try.ntmps11
  go_wp2_with fail
  go_ret
  exact ⟨rfl, rfl⟩

theorem locL_cases {zs xs ys : List Int} {n : Nat} (hx : P5 n xs) (h1 : 1 ≤ n) (hy : ys.length = n) (hy9 : ∀ x ∈ ys, -9 ≤ x ∧ x ≤ 9) :
    locL zs xs ys = (0, false) ∨ (P5 n zs ∧ locL zs xs ys = (Ev (dblP zs ys) (mono (pickL xs ys)), true)) := by
  cases hok : locOk zs xs ys with
  | false => exact .inl (locL_no hok)
  | true =>
    right
    unfold locOk at hok
    simp only [Bool.and_eq_true, decide_eq_true_eq] at hok
    obtain ⟨⟨⟨q1, q2⟩, q3⟩, q4⟩ := hok
    have hz : P5 n zs := ⟨q1, by rw [q3]; exact hx.len, hx.le⟩
    refine ⟨hz, ?_⟩
    rw [locL_yes (by unfold locOk; rw [q1, q2, decide_eq_true q3, q4]; rfl)]
    have hs := dbl_small hz hx hy (nine_of hy9) h1
    have : wrap64 (Ev (dblP zs ys) (mono (pickL xs ys))) = Ev (dblP zs ys) (mono (pickL xs ys)) := w64 (by omega) (by omega)
    rw [this]

set_option maxHeartbeats 4000000 in
theorem lawFnLocal (p : Option Addr) (l cap : Nat) (w : World) (hl : l ≤ maxLen) (h : Byts w (.slice p l cap) l) :
    Calls Try.prog 3 #[.slice p l cap] w fun e w' => e = .returned (.bool true) ∧ Below w.heap.size w w' := by
  have Hl := Lib.hid hl
  have Hh := Lib.hid h
  clear hl h
  go_enter Try.func3, Try.ntmps3
  go_wp2_with fail
  refine (big_any p l cap _ Hl.out).mono ?_
  rintro e w' ⟨rfl, rfl⟩
  by_cases hb : 1048576 < l
  · have e1 : decide (1048576 < l) = true := by simp [hb]
    rw [e1]
    go_wp2_with fail
    go_ret
    exact ⟨rfl, Below.refl _ _⟩
  have e1 : decide (1048576 < l) = false := by simp [hb]
  rw [e1]
  clear e1 hb
  go_wp2_with fail
  refine (DrawLocalize_any _ l _ Hh.out).mono ?_
  rintro e w1 ⟨u1, u2, u3, zs, xs, ys, n, rfl, ⟨hz, hx, hy, hp, h1, hyl, hy9⟩, hb1⟩
  have HZ := Lib.hid hz
  have HX := Lib.hid hx
  have HY := Lib.hid hy
  have Hp := Lib.hid hp
  have Hyl := Lib.hid hyl
  have Hy9 := Lib.hid hy9
  have HB1 := Lib.hid hb1
  have h5 := hp.le
  have HLc := Lib.hid (locL_cases (zs := zs) hp h1 hyl hy9)
  obtain ⟨az, cz, rfl, _, _⟩ := hz
  obtain ⟨ax, cx, rfl, _, hxc⟩ := hx
  obtain ⟨ay, cy, rfl, _, hyc⟩ := hy
  obtain ⟨zl, hzl⟩ : ∃ z, z = zs.length := ⟨_, rfl⟩
  rw [← hzl] at HZ ⊢
  rw [hp.len] at HX hxc ⊢
  rw [hyl] at HY hyc ⊢
  have Hxc := Lib.hid hxc
  have Hyc := Lib.hid hyc
  have HI := Lib.hid (fun W (h : Below w1.heap.size w1 W) => implLocalize_any (.slice az zl cz) (.slice ax n cx) (.slice ay n cy) zs xs ys W (HZ.out.below h) (HX.out.below h) (HY.out.below h))
  have HS := Lib.hid (fun W (h : Below w1.heap.size w1 W) => specLocalize_any (.slice az zl cz) (.slice ax n cx) (.slice ay n cy) zs xs ys W (HZ.out.below h) (HX.out.below h) (HY.out.below h))
  have HZl := Lib.hid hzl
  clear hp hyl hy9 hb1 hxc hyc hzl
  rcases HLc.out with hno | ⟨hpz, hyes⟩
  · have Hno := Lib.hid hno
    clear hno
    go_wp2_with fail
    refine (HI.out w1 (Below.refl _ _)).mono ?_
    rintro e w2 ⟨rfl, hb2⟩
    rw [Hno.out]
    have HB2 := Lib.hid hb2
    clear hb2
    go_wp2_with fail
    refine (HS.out w2 HB2.out).mono ?_
    rintro e w3 ⟨rfl, hb3⟩
    rw [Hno.out]
    have HB3 := Lib.hid (HB2.out.trans (hb3.mono HB2.out.size))
    clear hb3
    go_wp2_with fail
    go_ret
    exact ⟨rfl, HB1.out.trans (HB3.out.mono HB1.out.size)⟩
  · have Hyes := Lib.hid hyes
    have hzn : zl = n := by rw [HZl.out]; exact hpz.len
    subst hzn
    have hsm := dbl_small hpz Hp.out Hyl.out (nine_of Hy9.out) h1
    obtain ⟨X, hX⟩ : ∃ X, X = Ev (dblP zs ys) (mono (pickL xs ys)) := ⟨_, rfl⟩
    rw [← hX] at hsm Hyes
    have HXv := Lib.hid hX
    have HR := Lib.hid (fun W => lawResidue_any X W hsm)
    have HDi := Lib.hid (fun W (h : Below w1.heap.size w1 W) => implDouble_yn zl (.slice az zl cz) (.slice ay zl cy) zs ys W (HZ.out.below h) (HY.out.below h) hpz Hyl.out Hy9.out)
    have HDs := Lib.hid (fun W (h : Below w1.heap.size w1 W) => specDouble_any zl (.slice az zl cz) (.slice ay zl cy) zs ys W (HZ.out.below h) (HY.out.below h) hpz h1 Hyl.out Hy9.out)
    clear hyes hpz hX hsm HLc HZl
    go_wp2_with fail
    refine (HI.out w1 (Below.refl _ _)).mono ?_
    rintro e w2 ⟨rfl, hb2⟩
    rw [Hyes.out]
    have HB2 := Lib.hid hb2
    clear hb2
    go_wp2_with fail
    refine (HS.out w2 HB2.out).mono ?_
    rintro e w3 ⟨rfl, hb3⟩
    rw [Hyes.out]
    have HB3 := Lib.hid (HB2.out.trans (hb3.mono HB2.out.size))
    clear hb3
    go_wp2_with fail
    refine (HDi.out w3 HB3.out).mono ?_
    rintro e w4 ⟨r, b, rfl, hyb, hnb, ⟨pr, nr, kr, rfl⟩, hb4⟩
    have HYb := Lib.hid hyb
    have HNb := Lib.hid hnb
    have HB4 := Lib.hid (HB3.out.trans (hb4.mono HB3.out.size))
    clear hyb hnb hb4
    cases b with
    | false =>
      go_wp2_with fail
      refine (HDs.out w4 HB4.out).mono ?_
      rintro e w5 ⟨r5, b5, rfl, hsm5, hb5⟩
      have hb5f : b5 = false := by
        cases b5 with
        | false => rfl
        | true =>
          obtain ⟨e, he⟩ := HNb.out (by first | rfl | trivial)
          exact absurd (hsm5 (by first | rfl | trivial) e) he
      subst hb5f
      have HB5 := Lib.hid (HB4.out.trans (hb5.mono HB4.out.size))
      clear hsm5 hb5
      go_wp2_with fail
      go_ret
      exact ⟨rfl, HB1.out.trans (HB5.out.mono HB1.out.size)⟩
    | true =>
      obtain ⟨ts, ht1, ht2, ht3⟩ := HYb.out (by first | rfl | trivial)
      have HT1 := Lib.hid ht1.rd
      have HT2 := Lib.hid ht2
      have HT3 := Lib.hid ht3
      have hs4 := HB4.out.size
      have Hm0 := Lib.hid (OwnF.ints (xs := []) ((OwnF.made0 w4 3 (iv [])).mono (Nat.le_refl _) (by simp)) : OwnI 3 (w4.alloc (.cells #[] 3)) w4.heap.size (w4.alloc (.cells #[] 3)).heap.size _ [])
      clear ht1 ht2 ht3 HYb HNb
      go_wp2_with fail
      go_loopg [14, 15] zl (fun g s14 s15 wr => ∃ i : Nat, i ≤ zl ∧ g = zl - i ∧ s15 = .int .i64 (i : Int) ∧ Hid (OwnI 3 wr w4.heap.size wr.heap.size s14 (pkL (xs.take i) ys)) ∧ Hid (Below w4.heap.size w4 wr))
      case atStart => exact ⟨0, Nat.zero_le _, rfl, rfl, Hm0.out, below_alloc _ _⟩
      case round =>
        obtain ⟨i, hi, rfl, rfl, ho, hbr⟩ := hrel
        obtain ⟨wo, rfl⟩ : ∃ x : World, x = wr := ⟨_, rfl⟩
        have hszo := hbr.out.size
        by_cases hil : i < zl
        · have hii : (i : Int) < (zl : Int) := by omega
          obtain ⟨bx, ox, rfl, hcx⟩ := Hxc.out (by omega)
          obtain ⟨by', oy, rfl, hcy⟩ := Hyc.out (by omega)
          have hxm := (of_decide_eq_true Hp.out.ok).2.2.1 (xs.getD i 0) (getD_mem (by rw [Hp.out.len]; exact hil))
          rw [Hp.out.len] at hxm
          obtain ⟨m, hm⟩ : ∃ m : Nat, xs.getD i 0 = (m : Int) := ⟨(xs.getD i 0).toNat, by omega⟩
          rw [hm] at hxm
          have hmz : m < zl := by omega
          have hb14 := HB4.out.trans (hbr.out.mono hs4)
          have c1 := cell_below hb14 (hcx i hil)
          have c2 := cell_below hb14 (hcy m hmz)
          unfold iv at c1 c2
          rw [hm] at c1
          have hsn := pkL_snoc (ws := xs) (ys := ys) (i := i) (by rw [Hp.out.len]; exact hil)
          rw [hm, Int.toNat_natCast] at hsn
          obtain ⟨y, hyv⟩ : ∃ y, y = ys.getD m 0 := ⟨_, rfl⟩
          rw [← hyv] at c2 hsn
          have Hsn := Lib.hid hsn
          have hmi : (m : Int) < (zl : Int) := by omega
          have hlen : (pkL (xs.take i) ys).length = i := by rw [pkL_length, List.length_take, Hp.out.len]; omega
          obtain ⟨p14, k14, rfl, _, _⟩ := ho.out.shape
          have hofn := ho.out.fn
          rw [hlen] at hofn ⊢
          have Hofn := Lib.hid hofn
          have Hlen := Lib.hid hlen
          have Hc1 := Lib.hid (show i + 1 ≤ maxLen by unfold maxLen; omega)
          have Hc2 := Lib.hid (show (i + 1) * 8 ≤ 140737488355328 by omega)
          clear hcx hcy hxm hm hb14 hsn hyv hlen hofn ho
          go_wp2_with (at_builtin; go_must (refine wpList_append_F rfl (.tmp 68) (.tmp 76) 24 rfl 3 (.int .i64 0) 8 Try.underlying24 info_int rfl w4.heap.size wo.heap.size _ i (iv (pkL (xs.take i) ys)) rfl (Hofn.out.below (below_alloc _ _)) (by rw [size_alloc]; omega) (by rw [size_alloc]; omega) _ 1 _ rfl (rd_one _ _ _ rfl) (fun j _ => rfl) Hc1.out Hc2.out ?_; intro v2 w6 ho2 hg2))
          go_roundg (zl - (i + 1))
          case measure => omega
          case rel =>
            have hbx : Below w4.heap.size wo w6 := ((below_alloc wo _).mono hszo).trans (grownBy_below hg2 Hofn.out.blocks (Nat.le_refl _) (by rw [size_alloc]; omega))
            refine ⟨i + 1, by omega, rfl, by go_num, ?_, hbr.out.trans hbx⟩
            show OwnI _ _ _ _ _ _
            rw [Hsn.out]
            exact OwnI.snoc1 (by rw [Hlen.out]; exact ho2)
        · have hin : ¬ ((i : Int) < (zl : Int)) := by omega
          have ho2 := ho.out
          rw [List.take_of_length_le (by rw [Hp.out.len]; omega)] at ho2
          have hpl : (pkL xs ys).length = zl := by rw [pkL_length]; exact Hp.out.len
          obtain ⟨p14, k14, rfl, _, _⟩ := ho2.shape
          have HI14 := Lib.hid ho2.ints
          rw [hpl] at HI14 ⊢
          have HFl := Lib.hid (filled_any (.slice p14 zl k14) (pkL xs ys) wo HI14.out (by rw [hpl]; omega))
          have HTr := Lib.hid (HT1.out.below hbr.out)
          have HB5 := Lib.hid (HB4.out.trans (hbr.out.mono hs4))
          have Hpx := Lib.hid (pkL_fill (ws := xs) (ys := ys) (by rw [Hp.out.len]; omega))
          clear ho2 hpl ho
          go_wp2_with fail
          refine (HR.out wo).mono ?_
          rintro e w5 ⟨rfl, rfl⟩
          go_wp2_with fail
          refine HFl.out.mono ?_
          rintro e w6 ⟨u6, rfl, ho6, hb6⟩
          rw [Hpx.out] at ho6
          have HB6 := Lib.hid (HB5.out.trans (hb6.mono HB5.out.size))
          have HI6 := Lib.hid ho6.ints
          have HTe := Lib.hid (Evaluate_any (.slice pr nr kr) u6 ts (pickL xs ys) w6 (HTr.out.below hb6) HT2.out HI6.out (pickL_length xs ys))
          obtain ⟨p6, k6, rfl, _, _⟩ := ho6.shape
          obtain ⟨z6, hz6⟩ : ∃ z, z = (pickL xs ys).length := ⟨_, rfl⟩
          rw [← hz6] at HTe ⊢
          have hev : Ev ts (mono (pickL xs ys)) % 32003 = X % 32003 := by rw [HT3.out, HXv.out]
          rw [hev] at HTe
          obtain ⟨Z, hZ⟩ : ∃ Z, Z = X % 32003 := ⟨_, rfl⟩
          rw [← hZ] at HTe ⊢
          clear ho6 hb6 hz6 hev hZ HR
          go_wp2_with fail
          refine HTe.out.mono ?_
          rintro e w7 ⟨rfl, hb7⟩
          have HB7 := Lib.hid (HB6.out.trans (hb7.mono HB6.out.size))
          clear hb7
          go_wp2_with fail
          go_ret
          exact ⟨by first | rfl | simp, HB1.out.trans (HB7.out.mono HB1.out.size)⟩

end Go.Proofs.Ytllmhicmikpfeaa
