/-
  The program's allPerms and AllPerms.
  LocalTable: the values at all permutations, on both sides.
  LocalTable, whole, on both sides.
  The law FnExactLocalTable, walked call by call: it returns true, and nothing that was there has changed. (Printed by gen_lawtab.py.)
-/
import Derived.Test.YtfpjenmehoemcaaJ6
import Derived.Test.YtfpjenmehoemcaaJ9
import Derived.Test.YtfpjenmehoemcaaJ4
namespace Go.Proofs.Ytfpjenmehoemcaa
set_option linter.all false
open Go.RowKit

set_option maxRecDepth 100000 in
set_option maxHeartbeats 2000000 in
theorem implPerms_go (n : Nat) (hn : n ≤ 5) (f : Nat) : ∀ (ch : List Int) (v : Value) (lo hi : Nat) (w : World), OwnI 3 w lo hi v ch → hi ≤ w.heap.size → lo ≤ w.heap.size → ch.length + f = n →
    Calls Try.prog 43 #[.int .i64 n, v] w fun e w' => ∃ u, e = .returned u ∧ OwnII 22 3 w' lo w'.heap.size u (allL n f ch) ∧ Below w.heap.size w w' := by
  induction f with
  | zero =>
    intro ch v lo hi w h hhi hlo hf
    have H := Lib.hid h
    obtain ⟨p, k, rfl, _, _⟩ := h.shape
    clear h
    obtain rfl : n = ch.length := by omega
    clear hf
    go_enter Try.func43, Try.ntmps43
    go_wp2_with fail
    go_ret
    refine ⟨_, rfl, ⟨fun _ => .slice p ch.length k, ?_, fun i hi => ?_, fun i j hij hj => ?_⟩, below_alloc _ _⟩
    · refine ⟨[.slice p ch.length k], Own.of_rowIs (g := w.heap.size) (n := 1) (cap := 1) (F := fun _ => .slice p ch.length k) ⟨#[.slice p ch.length k], heap_alloc_top _ _, rfl, fun i hi => ?_⟩ hlo (by simp) (Nat.le_refl _) (by unfold maxLen; omega) rfl (fun j hj => ?_), fun j hj => ?_⟩
      · obtain rfl : i = 0 := by omega
        rfl
      · obtain rfl : j = 0 := by omega
        rfl
      · obtain rfl : j = 0 := by simpa [allL] using hj
        rfl
    · obtain rfl : i = 0 := by simpa [allL] using hi
      exact ((H.out.below (below_alloc _ _))).mono (Nat.le_refl _) (by simp; omega)
    · have : j = 0 := by simpa [allL] using hj
      omega
  | succ f ih =>
    intro ch v lo hi w h hhi hlo hf
    have H := Lib.hid h
    have Ih := Lib.hid ih
    obtain ⟨p, k, rfl, _, _⟩ := h.shape
    have hne : (((ch.length : Int)) == (n : Int)) = false := by simp; omega
    clear h ih
    go_enter Try.func43, Try.ntmps43
    go_wp2_with fail
    go_loopg [5, 15] n (fun g s5 i wr => ∃ (x : Nat) (rows : List (List Int)), x ≤ n ∧ g = n - x ∧ i = .int .i64 x ∧ Below w.heap.size w wr ∧
      Hid (rows = (List.range x).flatMap fun (y : Nat) => if (y : Int) ∈ ch then [] else allL n f (ch ++ [(y : Int)])) ∧ Hid (OwnII 22 3 wr w.heap.size wr.heap.size s5 rows))
    case atStart => exact ⟨0, [], Nat.zero_le _, rfl, rfl, below_alloc _ _, rfl, ⟨fun _ => undef, (OwnF.made0 w _ _).mono (Nat.le_refl _) (by simp), fun i hi => absurd hi (by simp), fun i j _ hj => absurd hj (by simp)⟩⟩
    case round =>
      obtain ⟨x, rows, hx, rfl, rfl, hb, hr, ho⟩ := hrel
      obtain ⟨wo, rfl⟩ : ∃ x : World, x = wr := ⟨_, rfl⟩
      obtain ⟨p3, k3, rfl, _, _⟩ := ho.out.shape
      by_cases hlt : x < n
      · have hci : Ints wo (.slice p ch.length k) ch := (H.out.below hb).ints
        go_wp2_with fail
        refine (contains_any _ ch x _ hci).mono ?_
        rintro e w1 ⟨rfl, hq⟩
        by_cases hc : (x : Int) ∈ ch
        · rw [decide_eq_true hc]
          have hr2 : rows = (List.range (x + 1)).flatMap fun (y : Nat) => if (y : Int) ∈ ch then [] else allL n f (ch ++ [(y : Int)]) := by
            rw [flatMap_snoc, if_pos hc, List.append_nil]
            exact hr.out
          have Hr2 := Lib.hid hr2
          have Ho2 := Lib.hid (ho.out.below (hq.below _))
          have hqs := hq.size
          have Hb2 := Lib.hid (hb.trans (hq.below _))
          clear hr2 hci hc hq hr ho
          go_wp2
          go_roundg (n - (x + 1))
          case measure => omega
          case rel => exact ⟨x + 1, rows, by omega, rfl, by go_num, Hb2.out, Hr2.out, by rw [hqs]; exact Ho2.out⟩
        · rw [decide_eq_false hc]
          have hr2 : rows ++ allL n f (ch ++ [(x : Int)]) = (List.range (x + 1)).flatMap fun (y : Nat) => if (y : Int) ∈ ch then [] else allL n f (ch ++ [(y : Int)]) := by
            rw [flatMap_snoc, if_neg hc, hr.out]
          have hpow : n ^ f ≤ 3125 := Nat.le_trans (Nat.pow_le_pow_left hn f) (Nat.pow_le_pow_right (by decide) (show f ≤ 5 by omega))
          have hrl : rows.length ≤ x * n ^ f := by
            rw [hr.out]
            refine flatMap_len _ _ (fun y => ?_) x
            split
            · simp
            · exact allL_len _ _ _
          have hrl2 : rows.length + (allL n f (ch ++ [(x : Int)])).length ≤ 18750 := by
            have h1 : x * n ^ f ≤ 5 * 3125 := Nat.mul_le_mul (by omega) hpow
            have h2 := allL_len n f (ch ++ [(x : Int)])
            omega
          have Hr2 := Lib.hid hr2
          have Hbnd := Lib.hid hrl2
          have Hq := Lib.hid hq
          have Hci := Lib.hid (hci.qt hq)
          have hqs := hq.size
          have hs1 := hb.size
          have hc5 : ch.length ≤ 5 := by omega
          have Hc1 := Lib.hid (show ch.length + 1 ≤ maxLen by unfold maxLen; omega)
          have Hc2 := Lib.hid (show (ch.length + 1) * 8 ≤ 140737488355328 by omega)
          have Hlen := Lib.hid (show (ch ++ [(x : Int)]).length + f = n by simp; omega)
          clear hr2 hrl2 hrl hpow hci hc hq hr
          go_wp2_with fail
          refine (clone_any _ ch _ Hci.out (by omega)).mono ?_
          rintro e w2 ⟨u, rfl, ho2, hb2⟩
          obtain ⟨p2, k2, rfl, _, _⟩ := ho2.shape
          have Ho2 := Lib.hid ho2
          have hs2 := hb2.size
          go_wp2_with (at_builtin; go_must (refine wpList_append_F rfl (.tmp 25) (.tmp 27) 22 rfl 3 (.int .i64 0) 8 Try.underlying22 info_int rfl w1.heap.size w2.heap.size _ ch.length (iv ch) rfl ((Ho2.out.below (below_alloc _ _)).fn) (by simp; omega) (by simp) _ _ _ rfl (rd_one _ _ _ rfl) (fun j _ => rfl) Hc1.out Hc2.out ?_; intro v' w3 ho3 hg3))
          have ho4 := OwnI.snoc1 ho3
          have hs3 := hg3.size
          simp only [size_alloc] at hs3
          have hb3 : Below wo.heap.size wo w3 := (Hq.out.below _).trans ((hb2.mono (by omega)).trans (((below_alloc w2 _).mono (by omega)).trans (grownBy_below hg3 Ho2.out.fn.blocks (by omega) (by simp; omega))))
          obtain ⟨p4, k4, rfl, _, _⟩ := ho4.shape
          refine (Ih.out (ch ++ [(x : Int)]) _ w1.heap.size w3.heap.size w3 ho4 (Nat.le_refl _) (by omega) Hlen.out).mono ?_
          rintro e w5 ⟨u5, rfl, ho5, hb5⟩
          generalize allL n f (ch ++ [(x : Int)]) = new at *
          have hb6 : Below wo.heap.size wo w5 := hb3.trans (hb5.mono (by omega))
          have hs5 := hb5.size
          obtain ⟨p5, k5, rfl, _, _⟩ := ho5.shape
          obtain ⟨F, g1, g2, g3⟩ := ho
          obtain ⟨G, j1, j2, j3⟩ := ho5
          have G1 := Lib.hid (g1.below hb6)
          have G2 := Lib.hid (fun i hi => (g2 i hi).below hb6)
          have G3 := Lib.hid g3
          have J1 := Lib.hid j1
          have J2 := Lib.hid j2
          have J3 := Lib.hid j3
          have hone : ∀ j, j < new.length → (G j).oneCell' = true := fun j hj => by
            obtain ⟨p, c, e, _⟩ := (j2 j hj).shape
            rw [e]; rfl
          have Hone := Lib.hid hone
          have hbnd := Hbnd.out
          have Hd1 := Lib.hid (show rows.length + new.length ≤ maxLen by unfold maxLen; omega)
          have Hd2 := Lib.hid (show (rows.length + new.length) * 24 ≤ 140737488355328 by omega)
          have Hb6 := Lib.hid hb6
          clear g1 g2 g3 j1 j2 j3 hone hb6 hb5 hb3 ho4 ho3 hg3 ho2 hb2 hbnd
          go_wp2_with (at_builtin; go_must (refine wpList_append_F rfl (.tmp 22) (.tmp 29) 44 rfl 22 (.slice none 0 0) 24 Try.underlying44 info_sl rfl w.heap.size wo.heap.size _ rows.length F rfl G1.out (by omega) (by omega) _ _ _ rfl J1.out.rd Hone.out Hd1.out Hd2.out ?_; intro v' w' ho' hg'))
          have hsw' := hg'.size
          have hblow : Below w.heap.size wo w' := (Hb6.out.mono hs1).trans (grownBy_below hg' G1.out.blocks (Nat.le_refl _) (by omega))
          go_roundg (n - (x + 1))
          case measure => omega
          case rel =>
            refine ⟨x + 1, rows ++ new, by omega, rfl, by go_num, hb.trans hblow, Hr2.out, ?_⟩
            exact OwnII.join G1.out G2.out G3.out (fun i hi => (J2.out i hi).mono (by omega) (Nat.le_refl _)) J3.out hs1 (by omega) (by decide) hg' (by omega) ho'
      · go_wp2_with fail
        go_ret
        obtain rfl : x = n := by omega
        have e : allL x (f + 1) ch = rows := by rw [hr.out]; rfl
        rw [e]
        exact ⟨_, rfl, ho.out.mono hlo (Nat.le_refl _), hb⟩

set_option maxRecDepth 100000 in
theorem implAllPerms_any (N : Int) (w : World) :
    Calls Try.prog 25 #[.int .i64 N] w (RetII w (allPermsL N)) := by
  by_cases h : 1 ≤ N ∧ N ≤ 5
  · obtain ⟨n, rfl⟩ := Int.eq_ofNat_of_zero_le (show (0 : Int) ≤ N by omega)
    have e : allPermsL n = allL n n [] := by rw [allL_perms n (by omega) (by omega)]; simp [allPermsL, h]
    rw [e]
    have H1 : decide ((n : Int) < 1) = false := by simp; omega
    have H2 : decide ((5 : Int) < n) = false := by simp; omega
    clear e
    go_enter Try.func25, Try.ntmps25
    go_wp2_with fail
    refine (implPerms_go n (by omega) n [] _ w.heap.size w.heap.size _ (own_nil _ _ _ _) (Nat.le_refl _) (Nat.le_refl _) (by simp)).mono ?_
    rintro e w2 ⟨u, rfl, ho, hb⟩
    go_wp2_with fail
    go_ret
    exact ⟨_, rfl, ho, hb⟩
  · have e : allPermsL N = [] := by simp [allPermsL, h]
    rw [e]
    clear e
    by_cases h1 : N < 1
    · clear h
      go_enter Try.func25, Try.ntmps25
      go_wp2_with fail
      go_ret
      exact ⟨_, rfl, ownII_nil _ _ _, Below.refl _ _⟩
    · have h2 : 5 < N := by omega
      clear h
      go_enter Try.func25, Try.ntmps25
      go_wp2_with fail
      go_ret
      exact ⟨_, rfl, ownII_nil _ _ _, Below.refl _ _⟩

end Go.Proofs.Ytfpjenmehoemcaa

namespace Go.Proofs.Ytfpjenmehoemcaa
set_option linter.all false
open Go.RowKit

/-- the value at one permutation -/
def tabV (vs ys ws : List Int) : Int := wrap64 (Ev (dblP vs ys) (mono (pickL ws ys)))
def tabL (vs ys : List Int) : List Int := (permsL vs.length).map (tabV vs ys)
theorem tabL_length (vs ys : List Int) : (tabL vs ys).length = fact vs.length := by simp [tabL, permsL]
theorem permsL_length (n : Nat) : (permsL n).length = fact n := by simp [permsL]
def prmB (n : Nat) : Bool := (permsL n).all fun w => permOk w && decide (w.length = n)
set_option maxRecDepth 100000 in
theorem prm_all : ∀ n : Fin 6, 1 ≤ (n : Nat) → prmB n = true := by decide +kernel
theorem prm_p5 {n : Nat} (h1 : 1 ≤ n) (h5 : n ≤ 5) {x : Nat} (hx : x < fact n) : P5 n ((permsL n).getD x []) := by
  have := prm_all ⟨n, by omega⟩ h1
  unfold prmB at this
  rw [List.all_eq_true] at this
  have hm : (permsL n).getD x [] ∈ permsL n := by
    rw [List.getD_eq_getElem?_getD, List.getElem?_eq_getElem (by rw [permsL_length]; exact hx)]
    exact List.getElem_mem _
  have := this _ hm
  rw [Bool.and_eq_true, decide_eq_true_eq] at this
  exact ⟨this.1, this.2, h5⟩
theorem tab_getD {vs ys : List Int} {n x : Nat} (hn : vs.length = n) (hx : x < fact n) : (tabL vs ys).getD x 0 = tabV vs ys ((permsL n).getD x []) := by
  unfold tabL
  rw [hn, List.getD_eq_getElem?_getD, List.getElem?_map, List.getD_eq_getElem?_getD, List.getElem?_eq_getElem (by rw [permsL_length]; exact hx)]
  rfl
theorem tab_take {vs ys : List Int} {n x : Nat} (hn : vs.length = n) (hx : x < fact n) : (tabL vs ys).take (x + 1) = (tabL vs ys).take x ++ [tabV vs ys ((permsL n).getD x [])] := by
  have hl : x < (tabL vs ys).length := by rw [tabL_length, hn]; exact hx
  rw [← tab_getD hn hx, getD_lt hl, List.take_append_getElem]
theorem fact4 {n : Nat} (h1 : 1 ≤ n) (h5 : n ≤ 5) : 1 ≤ fact n ∧ fact n ≤ 120 := by
  have : ∀ n : Fin 6, 1 ≤ fact n ∧ fact n ≤ 120 := by decide
  exact this ⟨n, by omega⟩

set_option maxRecDepth 100000 in
set_option maxHeartbeats 4000000 in
theorem l8Table_any (n : Nat) (vs ys : List Int) (pv py : Value) (w : World) (hp : P5 n vs) (h1 : 1 ≤ n) (hyl : ys.length = n) (hy9 : ∀ x ∈ ys, -9 ≤ x ∧ x ≤ 9) (hv : Ints w pv vs) (hy : Ints w py ys) :
    Calls Try.prog 24 #[pv, py] w (RetI w (tabL vs ys)) := by
  have HV := Lib.hid hv
  have HY := Lib.hid hy
  have Hp := Lib.hid hp
  have Hvl := Lib.hid hp.len
  have Hyl := Lib.hid hyl
  have Hy9 := Lib.hid hy9
  have h5 := hp.le
  obtain ⟨F, hF⟩ : ∃ F, F = fact n := ⟨_, rfl⟩
  have hf := fact4 h1 h5
  rw [← hF] at hf
  have HF := Lib.hid hF
  obtain ⟨T, hT⟩ : ∃ T, T = tabL vs ys := ⟨_, rfl⟩
  have HT := Lib.hid hT
  have HTl := Lib.hid (show T.length = F by rw [hT, tabL_length, hp.len, hF])
  rw [← hT]
  obtain ⟨av, cv, rfl, ⟨hv1, hv2⟩, _⟩ := hv
  obtain ⟨ay, cy, rfl, ⟨hy1, hy2⟩, _⟩ := hy
  unfold maxLen at hv2 hy2
  rw [Hvl.out] at HV hv1 ⊢
  rw [hyl] at HY hy1 ⊢
  clear hp hyl hy9 hF hT
  obtain ⟨B0, hB0⟩ : ∃ B, B = w.heap.size := ⟨_, rfl⟩
  have HB0 := Lib.hid hB0
  clear hB0
  go_enter Try.func24, Try.ntmps24
  go_wp2_with fail
  refine (specPerms_any n h1 h5 _).mono ?_
  rintro e w2 ⟨u2, rfl, ho2, hb2⟩
  have hRl : (permsL n).length = F := by rw [permsL_length, HF.out]
  have HRl := Lib.hid hRl
  have e1 : (w.alloc (.cells #[] 3)).heap.size = B0 + 1 := by rw [size_alloc, HB0.out]
  obtain ⟨p2, k2, rfl, hk2, hk22⟩ := ho2.shape
  rw [hRl] at hk2 ⊢
  unfold maxLen at hk22
  have hs2 : B0 + 1 ≤ w2.heap.size := by rw [← e1]; exact hb2.size
  rw [e1] at ho2
  rw [hRl] at ho2
  have Hrows := Lib.hid ho2
  have Hb2 := Lib.hid (show Below B0 w w2 from by rw [HB0.out]; exact (below_alloc w _).trans (hb2.mono (by simp)))
  have Ho0 := Lib.hid (show OwnI 3 w2 B0 w2.heap.size (.slice (some ⟨w.heap.size, 0, none⟩) 0 0) (T.take 0) from by
    rw [List.take_zero]
    have := (OwnF.ints (xs := []) (OwnF.made0 w 3 (iv []))).below hb2
    rw [← HB0.out] at this ⊢
    exact this.mono (Nat.le_refl _) (by omega))
  clear hRl ho2 hb2 e1
  obtain ⟨M, hM⟩ : ∃ M, M = w2.heap.size := ⟨_, rfl⟩
  rw [← hM] at hs2
  have HM := Lib.hid hM
  clear hM
  go_wp2_with fail
  go_loopg [5, 7] F (fun g s5 s7 wr => ∃ k : Nat, k ≤ F ∧ g = F - k ∧ s7 = .int .i64 (k : Int) ∧ Hid (Below B0 w wr) ∧ Hid (M ≤ wr.heap.size) ∧ Hid (OwnII 22 3 wr (B0 + 1) M (.slice p2 F k2) (permsL n)) ∧ Hid (OwnI 3 wr B0 wr.heap.size s5 (T.take k)) ∧ Hid (∀ b, s5.ownBlock = some b → b = B0 ∨ M ≤ b))
  case atStart =>
    refine ⟨0, Nat.zero_le _, rfl, rfl, Hb2, Lib.hid (Nat.le_of_eq HM.out), by rw [HM.out]; exact Hrows, Ho0, Lib.hid fun b hb => .inl ?_⟩
    rw [HB0.out]; cases hb; rfl
  case round =>
    obtain ⟨k, hk, rfl, rfl, hb, hM2, hrows, ho, hbk⟩ := hrel
    obtain ⟨wx, rfl⟩ : ∃ x : World, x = wr := ⟨_, rfl⟩
    have Hb := Lib.hid hb.out
    have Hrw := Lib.hid hrows.out
    have Ho := Lib.hid ho.out
    have Hbk := Lib.hid hbk.out
    have hMx := hM2.out
    have htl : (T.take k).length = k := by rw [List.length_take, HTl.out]; omega
    obtain ⟨p5, k5, rfl, hk5, hk55⟩ := ho.out.shape
    rw [htl] at hk5 ⊢
    have Htl := Lib.hid htl
    clear hb hrows ho hbk hM2 htl
    by_cases hlt : k < F
    · have hki : (k : Int) < (F : Int) := by omega
      have HI : Hid (P5 n ((permsL n).getD k [])) := prm_p5 h1 h5 (by rw [← HF.out]; exact hlt)
      obtain ⟨f, hf1, hf2⟩ := Hrw.out.rd
      rw [HRl.out] at hf1 hf2
      have hr := hf2 k hlt
      have hr' := hr
      obtain ⟨pr, kr, er, ⟨hkr, hkr2⟩, _⟩ := hr'
      obtain ⟨row, hrow⟩ : ∃ row, row = (permsL n).getD k [] := ⟨_, rfl⟩
      rw [← hrow] at hr HI er
      rw [HI.out.len] at er
      rw [er] at hr
      have Hr := Lib.hid hr
      have Hrow := Lib.hid hrow
      obtain ⟨_, _, e0, _, hlc0⟩ := hf1
      injection e0 with e1 e2 e3
      subst e1 e3
      obtain ⟨bl, ol, rfl, hlc⟩ := hlc0 (by omega)
      have d0 := hlc k hlt
      rw [er] at d0
      clear hf2 hr er hrow hlc0 hlc e2 hkr hkr2
      have Htk := Lib.hid (tab_take (ys := ys) Hvl.out (show k < fact n by rw [← HF.out]; exact hlt))
      go_wp2_with fail
      refine (l8Local_any n vs row ys _ _ _ _ HI.out h1 Hvl.out Hyl.out Hy9.out (HV.out.below (HB0.out ▸ Hb.out)) Hr.out (HY.out.below (HB0.out ▸ Hb.out))).mono ?_
      rintro e w4 ⟨rfl, hb4⟩
      obtain ⟨R, hR⟩ : ∃ R, R = wrap64 (sumS vs ys (fstL row) (idL n) (idL n)) := ⟨_, rfl⟩
      have HR := Lib.hid hR
      rw [← hR]
      have Hb4 := Lib.hid hb4
      have hs4 := hb4.size
      have h0x : B0 ≤ wx.heap.size := by omega
      have Ho4 := Lib.hid (Ho.out.below hb4)
      have Hrw4 := Lib.hid (Hrw.out.below hb4)
      have hbd1 : k + 1 ≤ maxLen := by unfold maxLen; omega
      have hbd2 : (k + 1) * 8 ≤ 140737488355328 := by omega
      clear hb4 hR
      have hofn := Ho4.out.fn
      rw [Htl.out] at hofn
      go_wp2_with (at_builtin; go_must (refine wpList_append_G rfl (.tmp 18) (.tmp 26) 22 rfl 3 (.int .i64 0) 8 Try.underlying22 info_int rfl B0 wx.heap.size _ k (iv (T.take k)) rfl (hofn.below (below_alloc w4 _)) (by rw [size_alloc]; omega) (by rw [size_alloc]; omega) _ 1 _ rfl (rd_one _ _ _ rfl) (fun j _ => rfl) hbd1 hbd2 ?_; intro v5 w5 ho5 hg5 hw5))
      have hg6 : (w4.alloc (.cells #[.int .i64 R] 3)).grownBy w5 (Value.slice p5 k k5).ownBlock := hg5
      have hw6 : ∀ b, v5.ownBlock = some b → (Value.slice p5 k k5).ownBlock = some b ∨ w4.heap.size + 1 ≤ b := fun b hb => by have := hw5 b hb; rw [size_alloc] at this; exact this
      have hbk0 := Hbk.out
      rw [Htl.out] at hbk0
      have hs5 : w4.heap.size + 1 ≤ w5.heap.size := by have := hg6.size; rw [size_alloc] at this; exact this
      clear hg5 hw5
      go_wp2_with fail
      go_roundg (F - (k + 1))
      case measure => omega
      case rel =>
        refine ⟨k + 1, hlt, rfl, by go_num, Lib.hid ?_, Lib.hid (by omega), Lib.hid ?_, Lib.hid ?_, Lib.hid fun b hb => ?_⟩
        · exact ((Hb.out.trans (Hb4.out.mono h0x)).trans ((below_alloc w4 _).mono (by omega))).trans (grownBy_below hg6 hofn.blocks (Nat.le_refl _) (by rw [size_alloc]; omega))
        · exact (Hrw4.out.below (below_alloc w4 _)).grown hg6 fun b hb => by rcases hbk0 b hb with h | h <;> omega
        · have e : T.take (k + 1) = T.take k ++ [R] := by
            rw [HT.out, Htk.out, HR.out, ← loc_law Hp.out HI.out Hyl.out h1, ← Hrow.out]; rfl
          rw [e]
          exact OwnI.snoc1 (by rw [Htl.out]; exact ho5)
        · rcases hw6 b hb with h | h
          · exact hbk0 b h
          · exact .inr (by omega)
    · obtain rfl : k = F := by omega
      have hki : ¬ (k : Int) < (k : Int) := by omega
      have hof : OwnI 3 wx B0 wx.heap.size (.slice p5 k k5) T := by
        have := Ho.out
        rwa [Htl.out, List.take_of_length_le (by rw [HTl.out]; exact Nat.le_refl _)] at this
      have Hof := Lib.hid hof
      clear hof
      go_wp2_with fail
      go_ret
      exact ⟨_, rfl, HB0.out ▸ Hof.out, HB0.out ▸ Hb.out⟩

set_option maxRecDepth 100000 in
set_option maxHeartbeats 8000000 in
/-- the loop of the program's LocalTable -/
theorem implTable_any (n : Nat) (vs ys : List Int) (pv py : Value) (w : World) (hp : P5 n vs) (h1 : 1 ≤ n) (h4 : n ≤ 4) (hyl : ys.length = n) (hy9 : ∀ x ∈ ys, -9 ≤ x ∧ x ≤ 9) (hv : Ints w pv vs) (hy : Ints w py ys) :
    Calls Try.prog 11 #[pv, py] w fun e w' => ∃ u, e = .returned (.tuple #[u, .bool true]) ∧ OwnI 3 w' w.heap.size w'.heap.size u (tabL vs ys) ∧ Below w.heap.size w w' := by
  have HV := Lib.hid hv
  have HY := Lib.hid hy
  have Hp := Lib.hid hp
  have Hvl := Lib.hid hp.len
  have Hyl := Lib.hid hyl
  have Hy9 := Lib.hid hy9
  have h5 := hp.le
  obtain ⟨F, hF⟩ : ∃ F, F = fact n := ⟨_, rfl⟩
  have hf := fact4 h1 h5
  rw [← hF] at hf
  have HF := Lib.hid hF
  obtain ⟨T, hT⟩ : ∃ T, T = tabL vs ys := ⟨_, rfl⟩
  have HT := Lib.hid hT
  have HTl := Lib.hid (show T.length = F by rw [hT, tabL_length, hp.len, hF])
  rw [← hT]
  have Hsh := Lib.hid (show shiftB (n : Int) ys = true by
    unfold shiftB
    rw [hyl, decide_eq_true rfl, decide_eq_true hy9]; rfl)
  obtain ⟨av, cv, rfl, ⟨hv1, hv2⟩, _⟩ := hv
  obtain ⟨ay, cy, rfl, ⟨hy1, hy2⟩, _⟩ := hy
  unfold maxLen at hv2 hy2
  rw [Hvl.out] at HV hv1 ⊢
  rw [hyl] at HY hy1 ⊢
  clear hp hyl hy9 hF hT
  have hni : ¬ (4 : Int) < (n : Int) := by omega
  go_enter Try.func11, Try.ntmps11
  go_wp2_with fail
  refine (implIsPerm_b _ vs true Hp.out.ok _ HV.out).mono ?_
  rintro e w1 ⟨rfl, hb⟩
  have HB1 := Lib.hid hb
  clear hb
  go_wp2_with fail
  refine (shiftsOk_any _ _ ys _ (HY.out.below HB1.out)).mono ?_
  rintro e w1' ⟨rfl, rfl⟩
  rw [Hsh.out]
  go_wp2_with fail
  refine (double_any _ _ vs ys _ (HV.out.below HB1.out) (HY.out.below HB1.out) (by rw [Hvl.out]; exact h1) (by rw [Hvl.out]; exact h5) (by rw [Hvl.out]; exact Hyl.out) Hy9.out Hp.out.low).mono ?_
  rintro e w3 ⟨u3, rfl, hp3, hb3⟩
  have HP := Lib.hid hp3
  obtain ⟨bf, Df, rfl, _, _⟩ := hp3
  have HB3 := Lib.hid (HB1.out.trans (hb3.mono HB1.out.size))
  have hs13 := HB3.out.size
  clear hb3
  obtain ⟨B0, hB0⟩ : ∃ B, B = w3.heap.size := ⟨_, rfl⟩
  have HB0 := Lib.hid hB0
  rw [← hB0] at hs13
  clear hB0
  go_wp2_with fail
  refine (implAllPerms_any (n : Int) _).mono ?_
  have hap : allPermsL (n : Int) = permsL n := by unfold allPermsL; rw [if_pos (by omega), Int.toNat_natCast]
  rw [hap]
  clear hap
  rintro e w2 ⟨u2, rfl, ho2, hb2⟩
  have hRl : (permsL n).length = F := by rw [permsL_length, HF.out]
  have HRl := Lib.hid hRl
  have e1 : (w3.alloc (.cells #[] 3)).heap.size = B0 + 1 := by rw [size_alloc, HB0.out]
  obtain ⟨p2, k2, rfl, hk2, hk22⟩ := ho2.shape
  rw [hRl] at hk2 ⊢
  unfold maxLen at hk22
  have hs2 : B0 + 1 ≤ w2.heap.size := by rw [← e1]; exact hb2.size
  rw [e1] at ho2
  rw [hRl] at ho2
  have Hrows := Lib.hid ho2
  have Hb2 := Lib.hid (show Below B0 w3 w2 from by rw [HB0.out]; exact (below_alloc w3 _).trans (hb2.mono (by simp)))
  have Ho0 := Lib.hid (show OwnI 3 w2 B0 w2.heap.size (.slice (some ⟨w3.heap.size, 0, none⟩) 0 0) (T.take 0) from by
    rw [List.take_zero]
    have := (OwnF.ints (xs := []) (OwnF.made0 w3 3 (iv []))).below hb2
    rw [← HB0.out] at this ⊢
    exact this.mono (Nat.le_refl _) (by omega))
  clear hRl ho2 hb2 e1
  obtain ⟨M, hM⟩ : ∃ M, M = w2.heap.size := ⟨_, rfl⟩
  rw [← hM] at hs2
  have HM := Lib.hid hM
  clear hM
  go_wp2_with fail
  go_loopg [7, 33] F (fun g s7 s33 wr => ∃ k : Nat, k ≤ F ∧ g = F - k ∧ s33 = .int .i64 (k : Int) ∧ Hid (Below B0 w3 wr) ∧ Hid (M ≤ wr.heap.size) ∧ Hid (OwnII 22 3 wr (B0 + 1) M (.slice p2 F k2) (permsL n)) ∧ Hid (OwnI 3 wr B0 wr.heap.size s7 (T.take k)) ∧ Hid (∀ b, s7.ownBlock = some b → b = B0 ∨ M ≤ b))
  case atStart =>
    refine ⟨0, Nat.zero_le _, rfl, rfl, Hb2, Lib.hid (Nat.le_of_eq HM.out), by rw [HM.out]; exact Hrows, Ho0, Lib.hid fun b hb => .inl ?_⟩
    rw [HB0.out]; cases hb; rfl
  case round =>
    obtain ⟨k, hk, rfl, rfl, hb, hM2, hrows, ho, hbk⟩ := hrel
    obtain ⟨wx, rfl⟩ : ∃ x : World, x = wr := ⟨_, rfl⟩
    have Hb := Lib.hid hb.out
    have Hrw := Lib.hid hrows.out
    have Ho := Lib.hid ho.out
    have Hbk := Lib.hid hbk.out
    have hMx := hM2.out
    have htl : (T.take k).length = k := by rw [List.length_take, HTl.out]; omega
    obtain ⟨p5, k5, rfl, hk5, hk55⟩ := ho.out.shape
    rw [htl] at hk5 ⊢
    have Htl := Lib.hid htl
    have Hbw := Lib.hid (HB3.out.trans (Hb.out.mono hs13))
    clear hb hrows ho hbk hM2 htl
    by_cases hlt : k < F
    · have hki : (k : Int) < (F : Int) := by omega
      have HI : Hid (P5 n ((permsL n).getD k [])) := prm_p5 h1 h5 (by rw [← HF.out]; exact hlt)
      obtain ⟨f, hf1, hf2⟩ := Hrw.out.rd
      rw [HRl.out] at hf1 hf2
      have hr := hf2 k hlt
      have hr' := hr
      obtain ⟨pr, kr, er, ⟨hkr, hkr2⟩, _⟩ := hr'
      obtain ⟨row, hrow⟩ : ∃ row, row = (permsL n).getD k [] := ⟨_, rfl⟩
      rw [← hrow] at hr HI er
      rw [HI.out.len] at er
      rw [er] at hr
      have Hr := Lib.hid hr
      have Hrow := Lib.hid hrow
      obtain ⟨_, _, e0, _, hlc0⟩ := hf1
      injection e0 with e1 e2 e3
      subst e1 e3
      obtain ⟨bl, ol, rfl, hlc⟩ := hlc0 (by omega)
      have d0 := hlc k hlt
      rw [er] at d0
      clear hf2 hr er hrow hlc0 hlc e2 hkr hkr2
      have Htk := Lib.hid (tab_take (ys := ys) Hvl.out (show k < fact n by rw [← HF.out]; exact hlt))
      go_wp2_with fail
      refine (valueAt_any _ _ _ 10 _ (dblP vs ys) row ys _ (HP.out.below (HB0.out ▸ Hb.out)) (by omega) Hr.out (HY.out.below Hbw.out) (by rw [HI.out.len]; omega) (fun i hi => by rw [HI.out.len] at hi; rw [Hyl.out]; exact HI.out.rng hi)).mono ?_
      rintro e w4 ⟨rfl, hb4⟩
      obtain ⟨R, hR⟩ : ∃ R, R = wrap64 (Ev (dblP vs ys) (mono (pickL row ys))) := ⟨_, rfl⟩
      have HR := Lib.hid hR
      rw [← hR]
      have Hb4 := Lib.hid hb4
      have hs4 := hb4.size
      have h0x : B0 ≤ wx.heap.size := by omega
      have Ho4 := Lib.hid (Ho.out.below hb4)
      have Hrw4 := Lib.hid (Hrw.out.below hb4)
      have hbd1 : k + 1 ≤ maxLen := by unfold maxLen; omega
      have hbd2 : (k + 1) * 8 ≤ 140737488355328 := by omega
      clear hb4 hR
      have hofn := Ho4.out.fn
      rw [Htl.out] at hofn
      go_wp2_with (at_builtin; go_must (refine wpList_append_G rfl (.tmp 37) (.tmp 42) 22 rfl 3 (.int .i64 0) 8 Try.underlying22 info_int rfl B0 wx.heap.size _ k (iv (T.take k)) rfl (hofn.below (below_alloc w4 _)) (by rw [size_alloc]; omega) (by rw [size_alloc]; omega) _ 1 _ rfl (rd_one _ _ _ rfl) (fun j _ => rfl) hbd1 hbd2 ?_; intro v5 w5 ho5 hg5 hw5))
      have hg6 : (w4.alloc (.cells #[.int .i64 R] 3)).grownBy w5 (Value.slice p5 k k5).ownBlock := hg5
      have hw6 : ∀ b, v5.ownBlock = some b → (Value.slice p5 k k5).ownBlock = some b ∨ w4.heap.size + 1 ≤ b := fun b hb => by have := hw5 b hb; rw [size_alloc] at this; exact this
      have hbk0 := Hbk.out
      rw [Htl.out] at hbk0
      have hs5 : w4.heap.size + 1 ≤ w5.heap.size := by have := hg6.size; rw [size_alloc] at this; exact this
      clear hg5 hw5
      go_wp2_with fail
      go_roundg (F - (k + 1))
      case measure => omega
      case rel =>
        refine ⟨k + 1, hlt, rfl, by go_num, Lib.hid ?_, Lib.hid (by omega), Lib.hid ?_, Lib.hid ?_, Lib.hid fun b hb => ?_⟩
        · exact ((Hb.out.trans (Hb4.out.mono h0x)).trans ((below_alloc w4 _).mono (by omega))).trans (grownBy_below hg6 hofn.blocks (Nat.le_refl _) (by rw [size_alloc]; omega))
        · exact (Hrw4.out.below (below_alloc w4 _)).grown hg6 fun b hb => by rcases hbk0 b hb with h | h <;> omega
        · have e : T.take (k + 1) = T.take k ++ [R] := by
            rw [HT.out, Htk.out, HR.out, ← Hrow.out]; rfl
          rw [e]
          exact OwnI.snoc1 (by rw [Htl.out]; exact ho5)
        · rcases hw6 b hb with h | h
          · exact hbk0 b h
          · exact .inr (by omega)
    · obtain rfl : k = F := by omega
      have hki : ¬ (k : Int) < (k : Int) := by omega
      have hof : OwnI 3 wx B0 wx.heap.size (.slice p5 k k5) T := by
        have := Ho.out
        rwa [Htl.out, List.take_of_length_le (by rw [HTl.out]; exact Nat.le_refl _)] at this
      have Hof := Lib.hid (hof.mono hs13 (Nat.le_refl _))
      clear hof
      go_wp2_with fail
      go_ret2
      exact ⟨_, rfl, Hof.out, Hbw.out⟩

end Go.Proofs.Ytfpjenmehoemcaa

namespace Go.Proofs.Ytfpjenmehoemcaa
set_option linter.all false
open Go.RowKit

def tblOk (vs ys : List Int) : Bool := permOk vs && nmOk vs.length ys && decide (vs.length ≤ 4)
def tblL (vs ys : List Int) : List Int × Bool := if tblOk vs ys then (tabL vs ys, true) else ([], false)
def RetLB (w : World) (r : List Int × Bool) (e : Ending) (w' : World) : Prop := ∃ u, e = .returned (.tuple #[u, .bool r.2]) ∧ OwnI 3 w' w.heap.size w'.heap.size u r.1 ∧ Below w.heap.size w w'
theorem tblL_no {vs ys : List Int} (h : tblOk vs ys = false) : tblL vs ys = ([], false) := by unfold tblL; rw [h]; rfl
theorem tblL_yes {vs ys : List Int} (h : tblOk vs ys = true) : tblL vs ys = (tabL vs ys, true) := by unfold tblL; rw [h]; rfl
theorem tblL_len (vs ys : List Int) : (tblL vs ys).1.length ≤ 120 := by
  unfold tblL
  split
  · rename_i h
    unfold tblOk at h
    simp only [Bool.and_eq_true, decide_eq_true_eq] at h
    have h1 := h.1.1
    simp only [permOk, decide_eq_true_eq] at h1
    show (tabL vs ys).length ≤ 120
    rw [tabL_length]
    exact (fact4 h1.1 (by omega)).2
  · simp
theorem retLB_no {w w' : World} {vs ys : List Int} (h : tblOk vs ys = false) (hb : Below w.heap.size w w') : RetLB w (tblL vs ys) (.returned (.tuple #[.slice none 0 0, .bool false])) w' := by
  rw [tblL_no h]
  exact ⟨_, rfl, own_nil _ _ _ _, hb⟩

set_option maxRecDepth 100000 in
set_option maxHeartbeats 4000000 in
theorem specLocalTable_any (pv py : Value) (vs ys : List Int) (w : World) (hv : Ints w pv vs) (hy : Ints w py ys) :
    Calls Try.prog 10 #[pv, py] w (RetLB w (tblL vs ys)) := by
  have HV := Lib.hid hv
  have HY := Lib.hid hy
  obtain ⟨av, cv, rfl, ⟨hv1, hv2⟩, _⟩ := hv
  obtain ⟨ay, cy, rfl, ⟨hy1, hy2⟩, _⟩ := hy
  unfold maxLen at hv2 hy2
  have No := Lib.hid fun w' (h : tblOk vs ys = false) (hb : Below w.heap.size w w') => retLB_no h hb
  go_enter Try.func10, Try.ntmps10
  cases h1 : permOk vs with
  | false =>
    have H1 := Lib.hid h1
    clear h1
    go_wp2_with fail
    refine (specIsPerm_b _ vs false H1.out _ HV.out).mono ?_
    rintro e w1 ⟨rfl, hq⟩
    have hb := hq.below w.heap.size
    go_wp2_with fail
    go_ret2
    exact No.out _ (by unfold tblOk; rw [H1.out]; rfl) hb
  | true =>
  have H1 := Lib.hid h1
  clear h1
  cases h4 : nmOk vs.length ys with
  | false =>
    have H4 := Lib.hid h4
    clear h4
    go_wp2_with fail
    refine (specIsPerm_b _ vs true H1.out _ HV.out).mono ?_
    rintro e w1 ⟨rfl, hq⟩
    have HQ := Lib.hid hq
    clear hq
    go_wp2_with fail
    refine (l8Numbers_any _ _ ys _ (HY.out.qt HQ.out)).mono ?_
    rintro e w3 ⟨rfl, rfl⟩
    rw [H4.out]
    have hb := HQ.out.below w.heap.size
    go_wp2_with fail
    go_ret2
    exact No.out _ (by unfold tblOk; rw [H4.out]; simp) hb
  | true =>
  have H4 := Lib.hid h4
  clear h4
  by_cases h5 : vs.length ≤ 4
  · have h5i : ¬ (4 : Int) < (vs.length : Int) := by omega
    have HL := Lib.hid (locIs_of H1.out H1.out rfl H4.out)
    have Hy := Lib.hid (tblL_yes (vs := vs) (ys := ys) (by unfold tblOk; rw [H1.out, H4.out, decide_eq_true h5]; rfl))
    go_wp2_with fail
    refine (specIsPerm_b _ vs true H1.out _ HV.out).mono ?_
    rintro e w1 ⟨rfl, hq⟩
    have HQ := Lib.hid hq
    clear hq
    go_wp2_with fail
    refine (l8Numbers_any _ _ ys _ (HY.out.qt HQ.out)).mono ?_
    rintro e w3 ⟨rfl, rfl⟩
    rw [H4.out]
    go_wp2_with fail
    refine (l8Table_any vs.length vs ys _ _ _ HL.out.v HL.out.one HL.out.y HL.out.y9 (HV.out.qt HQ.out) (HY.out.qt HQ.out)).mono ?_
    rintro e w4 ⟨u4, rfl, ho4, hb4⟩
    have Ho4 := Lib.hid ho4
    have Hb4 := Lib.hid ((HQ.out.below w.heap.size).trans (hb4.mono (Nat.le_of_eq HQ.out.size.symm)))
    have Hsz := Lib.hid HQ.out.size
    clear ho4 hb4
    go_wp2_with fail
    go_ret2
    rw [Hy.out]
    exact ⟨_, rfl, Ho4.out.mono (Nat.le_of_eq Hsz.out.symm) (Nat.le_refl _), Hb4.out⟩
  · have h5i : (4 : Int) < (vs.length : Int) := by omega
    have H5 := Lib.hid h5
    clear h5
    go_wp2_with fail
    refine (specIsPerm_b _ vs true H1.out _ HV.out).mono ?_
    rintro e w1 ⟨rfl, hq⟩
    have HQ := Lib.hid hq
    clear hq
    go_wp2_with fail
    refine (l8Numbers_any _ _ ys _ (HY.out.qt HQ.out)).mono ?_
    rintro e w3 ⟨rfl, rfl⟩
    rw [H4.out]
    have hb := HQ.out.below w.heap.size
    go_wp2_with fail
    go_ret2
    exact No.out _ (by unfold tblOk; rw [decide_eq_false H5.out]; simp) hb

set_option maxRecDepth 100000 in
set_option maxHeartbeats 4000000 in
theorem implLocalTable_any (pv py : Value) (vs ys : List Int) (w : World) (hv : Ints w pv vs) (hy : Ints w py ys) :
    Calls Try.prog 11 #[pv, py] w (RetLB w (tblL vs ys)) := by
  cases hok : tblOk vs ys with
  | true =>
    have hp := hok
    unfold tblOk at hp
    simp only [Bool.and_eq_true, decide_eq_true_eq] at hp
    have HL := locIs_of hp.1.1 hp.1.1 rfl hp.1.2
    rw [tblL_yes hok]
    exact implTable_any vs.length vs ys pv py w HL.v HL.one hp.2 HL.y HL.y9 hv hy
  | false =>
  have HV := Lib.hid hv
  have HY := Lib.hid hy
  obtain ⟨av, cv, rfl, ⟨hv1, hv2⟩, _⟩ := hv
  obtain ⟨ay, cy, rfl, ⟨hy1, hy2⟩, _⟩ := hy
  unfold maxLen at hv2 hy2
  have No := Lib.hid fun w' (hb : Below w.heap.size w w') => retLB_no hok hb
  have Hok := Lib.hid hok
  clear hok
  go_enter Try.func11, Try.ntmps11
  cases h1 : permOk vs with
  | false =>
    have H1 := Lib.hid h1
    clear h1
    go_wp2_with fail
    refine (implIsPerm_b _ vs false H1.out _ HV.out).mono ?_
    rintro e w1 ⟨rfl, hb⟩
    go_wp2_with fail
    go_ret2
    exact No.out _ hb
  | true =>
  have H1 := Lib.hid h1
  clear h1
  by_cases h5 : vs.length ≤ 4
  · have h5i : ¬ (4 : Int) < (vs.length : Int) := by omega
    have hone : 1 ≤ vs.length := by have := H1.out; simp only [permOk, decide_eq_true_eq] at this; exact this.1
    have hsh : shiftB (vs.length : Int) ys = false := by
      have := Hok.out
      unfold tblOk at this
      rw [H1.out, decide_eq_true h5, nm_shift (by omega) (by omega)] at this
      simpa using this
    have Hsh := Lib.hid hsh
    clear hsh hone
    go_wp2_with fail
    refine (implIsPerm_b _ vs true H1.out _ HV.out).mono ?_
    rintro e w1 ⟨rfl, hb⟩
    have HB := Lib.hid hb
    clear hb
    go_wp2_with fail
    refine (shiftsOk_any _ _ ys _ (HY.out.below HB.out)).mono ?_
    rintro e w3 ⟨rfl, rfl⟩
    rw [Hsh.out]
    go_wp2_with fail
    go_ret2
    exact No.out _ HB.out
  · have h5i : (4 : Int) < (vs.length : Int) := by omega
    clear h5
    go_wp2_with fail
    refine (implIsPerm_b _ vs true H1.out _ HV.out).mono ?_
    rintro e w1 ⟨rfl, hb⟩
    go_wp2_with fail
    go_ret2
    exact No.out _ hb

end Go.Proofs.Ytfpjenmehoemcaa

namespace Go.Proofs.Ytfpjenmehoemcaa
set_option linter.all false
open Go.RowKit

set_option maxRecDepth 100000 in
set_option maxHeartbeats 8000000 in
theorem lawLocalTable (v1 : Value) (xs : List Int) (v2 : Value) (ys : List Int) (w0 : World) (h1 : Ints w0 v1 xs) (h2 : Ints w0 v2 ys) :
    Calls Try.prog 4 #[v1, v2] w0 fun e w' => e = .returned (.bool true) ∧ Below w0.heap.size w0 w' := by
  have S := fun pv py w hv hy => specLocalTable_any pv py xs ys w hv hy
  have I := fun pv py w hv hy => implLocalTable_any pv py xs ys w hv hy
  have hlen := tblL_len xs ys
  obtain ⟨⟨ms, b⟩, hr⟩ : ∃ r, r = tblL xs ys := ⟨_, rfl⟩
  rw [← hr] at S I hlen
  unfold RetLB at S I
  dsimp only at S I hlen
  have S := Lib.hid S
  have I := Lib.hid I
  have Hx := Lib.hid h1
  have Hy := Lib.hid h2
  have B0 := Lib.hid (Below.refl w0.heap.size w0)
  obtain ⟨q1, cap1, rfl, ⟨hc1, hc2⟩, _⟩ := h1
  obtain ⟨q2, cap2, rfl, ⟨hd1, hd2⟩, _⟩ := h2
  unfold maxLen at hc2 hd2
  clear hr
  have hbb : (b != b) = false := by simp
  go_enter Try.func4, Try.ntmps4
  by_cases hbx : 1048576 < xs.length
  · have hbx2 : (1048576 : Int) < (xs.length : Int) := by omega
    go_wp2_with fail
    go_ret
    exact ⟨rfl, Below.refl _ _⟩
  by_cases hby : 1048576 < ys.length
  · have hbx2 : ¬ (1048576 : Int) < (xs.length : Int) := by omega
    have hby2 : (1048576 : Int) < (ys.length : Int) := by omega
    go_wp2_with fail
    go_ret
    exact ⟨rfl, Below.refl _ _⟩
  · have hbx2 : ¬ (1048576 : Int) < (xs.length : Int) := by omega
    have hby2 : ¬ (1048576 : Int) < (ys.length : Int) := by omega
    have Smx := Lib.hid (show xs.length ≤ 1048576 by omega)
    have Smy := Lib.hid (show ys.length ≤ 1048576 by omega)
    go_wp2_with fail
    refine (toIntS_any _ xs _ (Hx.out.below B0.out) Smx.out).mono ?_
    rintro e w1 ⟨u, rfl, ho, hb⟩
    have sz1 : w0.heap.size ≤ w1.heap.size := hb.size
    have B1 := Lib.hid (B0.out.trans (hb.mono B0.out.size))
    clear B0 hb
    obtain ⟨pax, kax, rfl, lax, max⟩ := ho.shape
    have Hax_1 := Lib.hid ho
    clear ho
    go_wp2_with fail
    refine (toIntS_any _ ys _ (Hy.out.below B1.out) Smy.out).mono ?_
    rintro e w2 ⟨u, rfl, ho, hb⟩
    have sz2 : w1.heap.size ≤ w2.heap.size := hb.size
    have B2 := Lib.hid (B1.out.trans (hb.mono B1.out.size))
    have Hax_2 := Lib.hid (Hax_1.out.below hb)
    clear Hax_1 B1 hb
    obtain ⟨pay, kay, rfl, lay, may⟩ := ho.shape
    have Hay_2 := Lib.hid ho
    clear ho
    go_wp2_with fail
    refine (S.out _ _ _ Hax_2.out.ints Hay_2.out.ints).mono ?_
    rintro e w3 ⟨u, rfl, ho, hb⟩
    have sz3 : w2.heap.size ≤ w3.heap.size := hb.size
    have B3 := Lib.hid (B2.out.trans (hb.mono B2.out.size))
    have Hax_3 := Lib.hid (Hax_2.out.below hb)
    have Hay_3 := Lib.hid (Hay_2.out.below hb)
    clear Hax_2 Hay_2 B2 hb
    obtain ⟨pW, kW, rfl, lW, mW⟩ := ho.shape
    have HW_3 := Lib.hid ho
    clear ho
    go_wp2_with fail
    refine (toIntS_any _ xs _ (Hx.out.below B3.out) Smx.out).mono ?_
    rintro e w4 ⟨u, rfl, ho, hb⟩
    have sz4 : w3.heap.size ≤ w4.heap.size := hb.size
    have B4 := Lib.hid (B3.out.trans (hb.mono B3.out.size))
    have HW_4 := Lib.hid (HW_3.out.below hb)
    clear HW_3 B3 hb
    obtain ⟨pbx, kbx, rfl, lbx, mbx⟩ := ho.shape
    have Hbx_4 := Lib.hid ho
    clear ho
    go_wp2_with fail
    refine (toIntS_any _ ys _ (Hy.out.below B4.out) Smy.out).mono ?_
    rintro e w5 ⟨u, rfl, ho, hb⟩
    have sz5 : w4.heap.size ≤ w5.heap.size := hb.size
    have B5 := Lib.hid (B4.out.trans (hb.mono B4.out.size))
    have HW_5 := Lib.hid (HW_4.out.below hb)
    have Hbx_5 := Lib.hid (Hbx_4.out.below hb)
    clear HW_4 Hbx_4 B4 hb
    obtain ⟨pby, kby, rfl, lby, mby⟩ := ho.shape
    have Hby_5 := Lib.hid ho
    clear ho
    go_wp2_with fail
    refine (I.out _ _ _ Hbx_5.out.ints Hby_5.out.ints).mono ?_
    rintro e w6 ⟨u, rfl, ho, hb⟩
    have sz6 : w5.heap.size ≤ w6.heap.size := hb.size
    have B6 := Lib.hid (B5.out.trans (hb.mono B5.out.size))
    have HW_6 := Lib.hid (HW_5.out.below hb)
    have Hbx_6 := Lib.hid (Hbx_5.out.below hb)
    have Hby_6 := Lib.hid (Hby_5.out.below hb)
    clear HW_5 Hbx_5 Hby_5 B5 hb
    obtain ⟨pG, kG, rfl, lG, mG⟩ := ho.shape
    have HG_6 := Lib.hid ho
    clear ho
    go_wp2_with fail
    refine (eqIntS_same _ _ ms _ HG_6.out.ints HW_6.out.ints).mono ?_
    rintro e w7 ⟨rfl, hb⟩
    have sz7 : w6.heap.size ≤ w7.heap.size := hb.size
    have B7 := Lib.hid (B6.out.trans (hb.mono B6.out.size))
    have HW_7 := Lib.hid (HW_6.out.below hb)
    have Hbx_7 := Lib.hid (Hbx_6.out.below hb)
    have Hby_7 := Lib.hid (Hby_6.out.below hb)
    have HG_7 := Lib.hid (HG_6.out.below hb)
    clear HW_6 Hbx_6 Hby_6 HG_6 B6 hb
    go_wp2_with fail
    refine (toIntS_any _ xs _ (Hx.out.below B7.out) Smx.out).mono ?_
    rintro e w8 ⟨u, rfl, ho, hb⟩
    have sz8 : w7.heap.size ≤ w8.heap.size := hb.size
    have B8 := Lib.hid (B7.out.trans (hb.mono B7.out.size))
    have HW_8 := Lib.hid (HW_7.out.below hb)
    have Hbx_8 := Lib.hid (Hbx_7.out.below hb)
    have Hby_8 := Lib.hid (Hby_7.out.below hb)
    have HG_8 := Lib.hid (HG_7.out.below hb)
    clear HW_7 Hbx_7 Hby_7 HG_7 B7 hb
    obtain ⟨pc, kc, rfl, lc, mc⟩ := ho.shape
    have Hc_8 := Lib.hid ho
    clear ho
    go_wp2_with fail
    refine (eqIntS_same _ _ xs _ Hbx_8.out.ints Hc_8.out.ints).mono ?_
    rintro e w9 ⟨rfl, hb⟩
    have sz9 : w8.heap.size ≤ w9.heap.size := hb.size
    have B9 := Lib.hid (B8.out.trans (hb.mono B8.out.size))
    have HW_9 := Lib.hid (HW_8.out.below hb)
    have Hbx_9 := Lib.hid (Hbx_8.out.below hb)
    have Hby_9 := Lib.hid (Hby_8.out.below hb)
    have HG_9 := Lib.hid (HG_8.out.below hb)
    have Hc_9 := Lib.hid (Hc_8.out.below hb)
    clear HW_8 Hbx_8 Hby_8 HG_8 Hc_8 B8 hb
    go_wp2_with fail
    refine (toIntS_any _ ys _ (Hy.out.below B9.out) Smy.out).mono ?_
    rintro e w10 ⟨u, rfl, ho, hb⟩
    have sz10 : w9.heap.size ≤ w10.heap.size := hb.size
    have B10 := Lib.hid (B9.out.trans (hb.mono B9.out.size))
    have HW_10 := Lib.hid (HW_9.out.below hb)
    have Hbx_10 := Lib.hid (Hbx_9.out.below hb)
    have Hby_10 := Lib.hid (Hby_9.out.below hb)
    have HG_10 := Lib.hid (HG_9.out.below hb)
    clear HW_9 Hbx_9 Hby_9 HG_9 B9 hb
    obtain ⟨pc, kc, rfl, lc, mc⟩ := ho.shape
    have Hc_10 := Lib.hid ho
    clear ho
    go_wp2_with fail
    refine (eqIntS_same _ _ ys _ Hby_10.out.ints Hc_10.out.ints).mono ?_
    rintro e w11 ⟨rfl, hb⟩
    have sz11 : w10.heap.size ≤ w11.heap.size := hb.size
    have B11 := Lib.hid (B10.out.trans (hb.mono B10.out.size))
    have HW_11 := Lib.hid (HW_10.out.below hb)
    have Hbx_11 := Lib.hid (Hbx_10.out.below hb)
    have Hby_11 := Lib.hid (Hby_10.out.below hb)
    have HG_11 := Lib.hid (HG_10.out.below hb)
    have Hc_11 := Lib.hid (Hc_10.out.below hb)
    clear HW_10 Hbx_10 Hby_10 HG_10 Hc_10 B10 hb
    go_wp2_with fail
    refine (markIntS_any _ xs _ _ 1 _ Hbx_11.out (by omega) (by omega)).mono ?_
    rintro e w12 ⟨rfl, ho, hf⟩
    have sz12 : w11.heap.size ≤ w12.heap.size := hf.size
    have B12 := Lib.hid (B11.out.trans (hf.below (by omega) B11.out.size))
    have HW_12 := Lib.hid (HW_11.out.frm hf (by omega))
    have Hby_12 := Lib.hid (Hby_11.out.frm hf (by omega))
    have HG_12 := Lib.hid (HG_11.out.frm hf (by omega))
    have Hbx_12 := Lib.hid ho
    clear HW_11 Hby_11 HG_11 Hbx_11 B11 hf ho
    go_wp2_with fail
    refine (markIntS_any _ ys _ _ (1 + (xs.length : Int)) _ Hby_12.out (by omega) (by omega)).mono ?_
    rintro e w13 ⟨rfl, ho, hf⟩
    have sz13 : w12.heap.size ≤ w13.heap.size := hf.size
    have B13 := Lib.hid (B12.out.trans (hf.below (by omega) B12.out.size))
    have HW_13 := Lib.hid (HW_12.out.frm hf (by omega))
    have Hbx_13 := Lib.hid (Hbx_12.out.frm hf (by omega))
    have HG_13 := Lib.hid (HG_12.out.frm hf (by omega))
    have Hby_13 := Lib.hid ho
    clear HW_12 Hbx_12 HG_12 Hby_12 B12 hf ho
    have hk1 : ¬ (1 : Int) + (xs.length : Int) + (ys.length : Int) < 0 := by omega
    go_wp2_with fail
    refine (eqIntS_same _ _ ms _ HG_13.out.ints HW_13.out.ints).mono ?_
    rintro e w14 ⟨rfl, hb⟩
    have sz14 : w13.heap.size ≤ w14.heap.size := hb.size
    have B14 := Lib.hid (B13.out.trans (hb.mono B13.out.size))
    have HW_14 := Lib.hid (HW_13.out.below hb)
    have Hbx_14 := Lib.hid (Hbx_13.out.below hb)
    have Hby_14 := Lib.hid (Hby_13.out.below hb)
    have HG_14 := Lib.hid (HG_13.out.below hb)
    clear HW_13 Hbx_13 Hby_13 HG_13 B13 hb
    go_wp2_with fail
    refine (markIntS_any _ ms _ _ 1 _ HG_14.out (by omega) (by omega)).mono ?_
    rintro e w15 ⟨rfl, ho, hf⟩
    have sz15 : w14.heap.size ≤ w15.heap.size := hf.size
    have B15 := Lib.hid (B14.out.trans (hf.below (by omega) B14.out.size))
    have HW_15 := Lib.hid (HW_14.out.frm hf (by omega))
    have HG_15 := Lib.hid ho
    clear HW_14 HG_14 B14 hf ho
    have hk2 : ¬ (1 : Int) + (ms.length : Int) < 0 := by omega
    go_wp2_with fail
    refine (heldIntS_runs _ ms.length 1 _ HG_15.out.ints (by omega) (by omega)).mono ?_
    rintro e w16 ⟨rfl, hb⟩
    have sz16 : w15.heap.size ≤ w16.heap.size := hb.size
    have B16 := Lib.hid (B15.out.trans (hb.mono B15.out.size))
    have HW_16 := Lib.hid (HW_15.out.below hb)
    have HG_16 := Lib.hid (HG_15.out.below hb)
    clear HW_15 HG_15 B15 hb
    go_wp2_with fail
    refine (toIntS_any _ xs _ (Hx.out.below B16.out) Smx.out).mono ?_
    rintro e w17 ⟨u, rfl, ho, hb⟩
    have sz17 : w16.heap.size ≤ w17.heap.size := hb.size
    have B17 := Lib.hid (B16.out.trans (hb.mono B16.out.size))
    have HW_17 := Lib.hid (HW_16.out.below hb)
    have HG_17 := Lib.hid (HG_16.out.below hb)
    clear HW_16 HG_16 B16 hb
    obtain ⟨pdx, kdx, rfl, ldx, mdx⟩ := ho.shape
    have Hdx_17 := Lib.hid ho
    clear ho
    go_wp2_with fail
    refine (toIntS_any _ ys _ (Hy.out.below B17.out) Smy.out).mono ?_
    rintro e w18 ⟨u, rfl, ho, hb⟩
    have sz18 : w17.heap.size ≤ w18.heap.size := hb.size
    have B18 := Lib.hid (B17.out.trans (hb.mono B17.out.size))
    have HW_18 := Lib.hid (HW_17.out.below hb)
    have HG_18 := Lib.hid (HG_17.out.below hb)
    have Hdx_18 := Lib.hid (Hdx_17.out.below hb)
    clear HW_17 HG_17 Hdx_17 B17 hb
    obtain ⟨pdy, kdy, rfl, ldy, mdy⟩ := ho.shape
    have Hdy_18 := Lib.hid ho
    clear ho
    go_wp2_with fail
    refine (I.out _ _ _ Hdx_18.out.ints Hdy_18.out.ints).mono ?_
    rintro e w19 ⟨u, rfl, ho, hb⟩
    have sz19 : w18.heap.size ≤ w19.heap.size := hb.size
    have B19 := Lib.hid (B18.out.trans (hb.mono B18.out.size))
    have HW_19 := Lib.hid (HW_18.out.below hb)
    have HG_19 := Lib.hid (HG_18.out.below hb)
    have Hdx_19 := Lib.hid (Hdx_18.out.below hb)
    have Hdy_19 := Lib.hid (Hdy_18.out.below hb)
    clear HW_18 HG_18 Hdx_18 Hdy_18 B18 hb
    obtain ⟨pK, kK, rfl, lK, mK⟩ := ho.shape
    have HK_19 := Lib.hid ho
    clear ho
    go_wp2_with fail
    refine (eqIntS_same _ _ ms _ HK_19.out.ints HW_19.out.ints).mono ?_
    rintro e w20 ⟨rfl, hb⟩
    have sz20 : w19.heap.size ≤ w20.heap.size := hb.size
    have B20 := Lib.hid (B19.out.trans (hb.mono B19.out.size))
    have HW_20 := Lib.hid (HW_19.out.below hb)
    have HG_20 := Lib.hid (HG_19.out.below hb)
    have HK_20 := Lib.hid (HK_19.out.below hb)
    clear HW_19 HG_19 HK_19 B19 hb
    go_wp2_with fail
    refine (heldIntS_runs _ ms.length 1 _ HG_20.out.ints (by omega) (by omega)).mono ?_
    rintro e w21 ⟨rfl, hb⟩
    have sz21 : w20.heap.size ≤ w21.heap.size := hb.size
    have B21 := Lib.hid (B20.out.trans (hb.mono B20.out.size))
    have HW_21 := Lib.hid (HW_20.out.below hb)
    have HG_21 := Lib.hid (HG_20.out.below hb)
    have HK_21 := Lib.hid (HK_20.out.below hb)
    clear HW_20 HG_20 HK_20 B20 hb
    go_wp2_with fail
    go_ret
    exact ⟨rfl, B21.out⟩

end Go.Proofs.Ytfpjenmehoemcaa
