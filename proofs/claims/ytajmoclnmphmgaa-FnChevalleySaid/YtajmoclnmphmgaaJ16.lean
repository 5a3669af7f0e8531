/-
  The reference's putting of a class into an ascending list.
  IsGkm of the reference.
-/
import Derived.Test.YtajmoclnmphmgaaJ12
import Derived.Test.YtajmoclnmphmgaaJ14
import Derived.Test.YtajmoclnmphmgaaJ6
import Derived.Test.YtajmoclnmphmgaaJ9
import Derived.Deep.RegionLaw
import Derived.Test.YtajmoclnmphmgaaJ7
namespace Go.Proofs.Ytajmoclnmphmgaa
set_option linter.all false
set_option maxRecDepth 100000
open Go.RowKit

def posC (c : Cls) : List Cls → Nat
  | [] => 0
  | x :: l => if ltB x.1 c.1 then posC c l + 1 else 0
theorem posC_le (c : Cls) : ∀ l, posC c l ≤ l.length
  | [] => Nat.le_refl _
  | x :: l => by
    rw [posC]
    split
    · have := posC_le c l; simp; omega
    · exact Nat.zero_le _
theorem insC_eq (c : Cls) : ∀ l, insC c l = l.take (posC c l) ++ c :: l.drop (posC c l)
  | [] => rfl
  | x :: l => by
    rw [insC, posC]
    split
    · rw [insC_eq c l, List.take_succ_cons, List.drop_succ_cons]; rfl
    · rfl
theorem posC_lt (c : Cls) : ∀ (l : List Cls) (i : Nat), i < posC c l → ltB (l.getD i clD).1 c.1 = true
  | [], i, h => absurd h (Nat.not_lt_zero _)
  | x :: l, i, h => by
    rw [posC] at h
    by_cases e : ltB x.1 c.1 = true
    · rw [if_pos e] at h
      cases i with
      | zero => exact e
      | succ i => exact posC_lt c l i (by omega)
    · rw [if_neg e] at h
      exact absurd h (Nat.not_lt_zero _)
theorem posC_at (c : Cls) : ∀ (l : List Cls), posC c l < l.length → ltB (l.getD (posC c l) clD).1 c.1 = false
  | [], h => absurd h (Nat.not_lt_zero _)
  | x :: l, h => by
    by_cases e : ltB x.1 c.1 = true
    · have e1 : posC c (x :: l) = posC c l + 1 := by rw [posC, if_pos e]
      rw [e1] at h ⊢
      exact posC_at c l (by simpa using h)
    · have e1 : posC c (x :: l) = 0 := by rw [posC, if_neg e]
      rw [e1]
      simpa using e
theorem take_snocC {cs : List Cls} {i : Nat} (h : i < cs.length) : cs.take (i + 1) = cs.take i ++ [cs.getD i clD] := by
  rw [List.take_add_one, List.getElem?_eq_getElem h, List.getD_eq_getElem?_getD, List.getElem?_eq_getElem h]; rfl
theorem insC_take0 (c : Cls) (cs : List Cls) : (insC c cs).take (posC c cs + 1) = cs.take (posC c cs) ++ [c] := by
  have h := posC_le c cs
  rw [insC_eq, List.take_append, List.take_of_length_le (by rw [List.length_take]; omega), List.length_take, Nat.min_eq_left h, show posC c cs + 1 - posC c cs = 1 by omega]; rfl
theorem insC_take {c : Cls} {cs : List Cls} {i : Nat} (h1 : posC c cs ≤ i) (h : i < cs.length) : (insC c cs).take (i + 2) = (insC c cs).take (i + 1) ++ [cs.getD i clD] := by
  have hl : (insC c cs).length = cs.length + 1 := by rw [(insC_perm c cs).length_eq]; rfl
  have hi : i + 1 < (insC c cs).length := by omega
  rw [List.take_add_one, List.getElem?_eq_getElem hi]
  congr 1
  have hp := posC_le c cs
  have : (insC c cs)[i + 1]? = some (cs.getD i clD) := by
    rw [insC_eq, List.getElem?_append_right (by rw [List.length_take]; omega), List.length_take, Nat.min_eq_left hp, show i + 1 - posC c cs = (i - posC c cs) + 1 by omega, List.getElem?_cons_succ, List.getElem?_drop, show posC c cs + (i - posC c cs) = i by omega, List.getElem?_eq_getElem h, List.getD_eq_getElem?_getD, List.getElem?_eq_getElem h]; rfl
  rw [List.getElem?_eq_getElem hi] at this
  rw [this]; rfl

/-- classes whose row lies from lo1 on, the permutations from lo0 on -/
def OwnCe (w : World) (lo1 lo0 hi : Nat) (v : Value) (cs : List Cls) : Prop :=
  ∃ g, OwnS w lo1 hi 41 2 v cs.length (clF cs g) ∧ ∀ i, i < cs.length → OwnI 3 w lo0 hi (g i) (cs.getD i clD).1
theorem OwnCe.below {w w' : World} {lo1 lo0 hi : Nat} {v : Value} {cs : List Cls} (h : OwnCe w lo1 lo0 hi v cs) (hb : Below w.heap.size w w') : OwnCe w' lo1 lo0 hi v cs := by
  obtain ⟨g, h1, h2⟩ := h
  exact ⟨g, h1.below hb, fun i hi => (h2 i hi).below hb⟩
theorem OwnCe.cl {w : World} {lo1 lo0 hi : Nat} {v : Value} {cs : List Cls} (h : OwnCe w lo1 lo0 hi v cs) (hl : lo0 ≤ lo1) : OwnCl w lo0 hi v cs := by
  obtain ⟨g, h1, h2⟩ := h
  exact ⟨g, h1.mono hl (Nat.le_refl _), h2⟩
theorem OwnCe.snoc {w w' : World} {lo1 lo0 mid : Nat} {v v' x : Value} {cs : List Cls} {m : Cls} {f : Nat → Value} {n : Nat} (hn : n = cs.length) (g1 : OwnS w lo1 mid 41 2 v n (clF cs f)) (g2 : ∀ i, i < cs.length → OwnI 3 w lo0 mid (f i) (cs.getD i clD).1)
    (hx : OwnI 3 w lo0 mid x m.1) (hg : w.grownBy w' v.ownBlock) (hsz : mid ≤ w'.heap.size)
    (hv : OwnS w' lo1 w'.heap.size 41 2 v' (n + 1) (fun i => if i < n then clF cs f i else fun j => match j with | 0 => x | _ => .int .i64 m.2)) : OwnCe w' lo1 lo0 w'.heap.size v' (cs ++ [m]) := by
  subst hn
  have hrow : ∀ (y : Value) (ys : List Int) (lo1 hi1 : Nat), OwnI 3 w lo1 hi1 y ys → OwnI 3 w' lo1 hi1 y ys := fun y ys lo1 hi1 hy =>
    ⟨ownsRow_of_block hy.1 fun k hk => hg.block k (Own.block hy hk).2.2 fun e => ne_of_kinds (g1.kind k e.symm) (OwnI.kind hy k hk) (by decide), hy.2⟩
  refine ⟨fun i => if i < cs.length then f i else x, by
    rw [List.length_append]
    refine hv.congr fun i hi j hj => ?_
    by_cases h : i < cs.length
    · rw [if_pos h]
      unfold clF
      rw [OwnCd.getD_snoc, if_pos h]
      have : j = 0 ∨ j = 1 := by omega
      rcases this with rfl | rfl
      · show f i = if i < cs.length then f i else x
        rw [if_pos h]
      · rfl
    · have e : i = cs.length := by omega
      rw [if_neg h]
      unfold clF
      rw [OwnCd.getD_snoc, if_neg h, if_pos e]
      have : j = 0 ∨ j = 1 := by omega
      rcases this with rfl | rfl
      · show x = if i < cs.length then f i else x
        rw [if_neg h]
      · rfl, fun i hi => ?_⟩
  rw [List.length_append] at hi
  simp only [List.length_singleton] at hi
  rw [OwnCd.getD_snoc]
  by_cases h : i < cs.length
  · simp only [h, if_true]
    exact (hrow _ _ _ _ (g2 i h)).mono (Nat.le_refl _) hsz
  · have : i = cs.length := by omega
    simp only [h, if_false]
    rw [if_pos this]
    exact (hrow _ _ _ _ hx).mono (Nat.le_refl _) hsz

set_option maxHeartbeats 16000000 in
theorem l3Add_any (v : Value) (cs : List Cls) (u : Value) (xs : List Int) (c : Int) (w : World) (h : RdCl w v cs) (hu : Ints w u xs) (hc : ¬ c = 0) (hne : ∀ x ∈ cs, x.1 ≠ trimL xs) (hn : cs.length ≤ 1000) (hx : xs.length ≤ 1000)
    (hl : ∀ i, i < cs.length → (cs.getD i clD).1.length ≤ 1000) :
    Calls Try.prog 66 #[v, u, .int .i64 c] w fun e w' => ∃ r, e = .returned r ∧ OwnCl w' w.heap.size w'.heap.size r (insC (trimL xs, c) cs) ∧ Below w.heap.size w w' := by
  have Hlt := Lib.hid (l1Trim_any u xs w hu (by omega))
  obtain ⟨fl, hrd, hfl⟩ := h
  have Hrd := Lib.hid hrd
  have Hfl := Lib.hid hfl
  obtain ⟨pl, kl, rfl, ⟨hl1, hl2⟩, _⟩ := hrd
  obtain ⟨pu, ku, rfl, _, _⟩ := hu
  unfold maxLen at hl2
  obtain ⟨n, hnn⟩ : ∃ n, n = cs.length := ⟨_, rfl⟩
  have Hn := Lib.hid hnn
  obtain ⟨tl, htl⟩ : ∃ tl, tl = trimL xs := ⟨_, rfl⟩
  rw [← htl] at hne Hlt ⊢
  have Hne := Lib.hid hne
  have Hl := Lib.hid hl
  have htn : tl.length ≤ 1000 := by rw [htl, trimL_length]; have := trimN_le xs xs.length; omega
  obtain ⟨P, hP⟩ : ∃ P, P = posC (tl, c) cs := ⟨_, rfl⟩
  have hPn : P ≤ n := by rw [hP, hnn]; exact posC_le _ _
  have HP := Lib.hid hP
  have d0 : (c == 0) = false := by simp [hc]
  rw [← hnn] at hl1 hn ⊢
  obtain ⟨B0, hB0⟩ : ∃ B, B = w.heap.size := ⟨_, rfl⟩
  have HB0 := Lib.hid hB0
  clear hnn htl hne hl hP hB0 hfl hc
  go_enter Try.func66, Try.ntmps66
  go_wp2_with fail
  refine Hlt.out.mono ?_
  rintro e w1 ⟨ut, rfl, hot, hbt⟩
  rw [← HB0.out] at hot hbt
  obtain ⟨pt, kt, rfl, hkt, hkt2⟩ := hot.shape
  obtain ⟨B1, hB1⟩ : ∃ B, B = w1.heap.size := ⟨_, rfl⟩
  have hsz1 := hbt.size
  rw [← HB0.out, ← hB1] at hsz1
  rw [← hB1] at hot
  obtain ⟨nt, hnt⟩ : ∃ nt, nt = tl.length := ⟨_, rfl⟩
  rw [← hnt] at hkt hot ⊢
  have Hnt := Lib.hid hnt
  have Hot := Lib.hid hot
  have Hbt := Lib.hid hbt
  have HB1 := Lib.hid hB1
  clear hot hbt hB1 hnt Hlt
  go_wp2_with fail
  go_loopg [8, 9, 10] n (fun g s8 s9 s10 wr => ∃ (i : Nat) (b : Bool) (o : List Cls), i ≤ n ∧ g = n - i ∧ s10 = .int .i64 (i : Int) ∧ s9 = .bool b ∧ Hid (Below B1 w1 wr) ∧ Hid (B1 ≤ wr.heap.size) ∧ Hid (OwnCe wr B1 B0 wr.heap.size s8 o) ∧
    Hid ((b = false ∧ i ≤ P ∧ o = cs.take i) ∨ (b = true ∧ P < i ∧ o = (insC (tl, c) cs).take (i + 1))))
  case atStart =>
    refine ⟨0, false, [], Nat.zero_le _, rfl, rfl, rfl, Lib.hid ?_, Lib.hid ?_, Lib.hid ?_, Lib.hid (.inl ⟨rfl, Nat.zero_le _, rfl⟩)⟩
    · have := below_alloc w1 (.cells #[] 41); rw [← HB1.out] at this; exact this
    · rw [size_alloc, ← HB1.out]; omega
    · refine ⟨fun _ => undef, ?_, fun i hi => absurd hi (Nat.not_lt_zero _)⟩
      have := OwnS.made0 w1 41 2 (clF [] fun _ => undef)
      rw [← HB1.out] at this ⊢
      exact this.mono (Nat.le_refl _) (by rw [size_alloc, ← HB1.out]; exact Nat.le_refl _)
  case round =>
    obtain ⟨i, b, o, hi, rfl, rfl, rfl, hb, hs, ho, hbo⟩ := hrel
    obtain ⟨wx, rfl⟩ : ∃ x : World, x = wr := ⟨_, rfl⟩
    have HBW := Lib.hid hb.out
    have Hs0 := Lib.hid hs.out
    obtain ⟨fo, g1, g2⟩ := ho.out
    have hno : o.length ≤ n + 1 := by
      rcases hbo.out with ⟨_, h1, rfl⟩ | ⟨_, h1, rfl⟩
      · rw [List.length_take]; omega
      · rw [List.length_take]; omega
    obtain ⟨po, ko, rfl, hko, hko2, _⟩ := g1.shape
    unfold maxLen at hko2
    obtain ⟨no, hnoo⟩ : ∃ no, no = o.length := ⟨_, rfl⟩
    have Hno := Lib.hid hnoo
    have G1 := Lib.hid g1
    have G2 := Lib.hid g2
    rw [← hnoo] at hno hko G1 ⊢
    have hbw1 : Below w.heap.size w wx := by rw [← HB0.out]; exact Hbt.out.trans (HBW.out.mono hsz1)
    have Hbw1 := Lib.hid hbw1
    clear hbw1
    have Hbo := Lib.hid hbo.out
    have Hix := Lib.hid (show Ints wx (.slice pt nt kt) tl by have := Hot.out.ints; rw [Hnt.out] at this ⊢; exact this.below (by rw [← HB1.out]; exact HBW.out))
    clear hb hs ho hbo g1 g2 hnoo
    by_cases hlt : i < n
    · have hlt2 : (i : Int) < (n : Int) := by omega
      obtain ⟨pl', kl', ell, _, hxc⟩ := Hrd.out.two
      rw [← Hn.out] at ell hxc
      injection ell with ell1 ell2 ell3
      obtain ⟨bl, hbl, hcl⟩ := hxc (by omega)
      rw [← ell1] at hbl
      subst hbl
      obtain ⟨d1, d2⟩ := hcl i hlt
      obtain ⟨vi, hvi⟩ : ∃ z, z = fl i := ⟨_, rfl⟩
      obtain ⟨ys, hys⟩ : ∃ z, z = (cs.getD i clD).1 := ⟨_, rfl⟩
      obtain ⟨ci, hci⟩ : ∃ z, z = (cs.getD i clD).2 := ⟨_, rfl⟩
      have cA := cell_below Hbw1.out d1
      have cB := cell_below Hbw1.out d2
      rw [← hvi] at cA
      rw [← hci] at cB
      have HiW := Lib.hid (show Ints wx vi ys by rw [hvi, hys]; exact (Hfl.out i (by rw [← Hn.out]; exact hlt)).below Hbw1.out)
      have Hyl := Lib.hid (show ys.length ≤ 1000 by rw [hys]; exact Hl.out i (by rw [← Hn.out]; exact hlt))
      obtain ⟨ny, hny⟩ : ∃ ny, ny = ys.length := ⟨_, rfl⟩
      have Hyn := Lib.hid hny
      have Hys := Lib.hid (show (ys, ci) = cs.getD i clD by rw [hys, hci])
      have Hn1 := Lib.hid (show no + 1 ≤ maxLen by unfold maxLen; omega)
      have Hn2 := Lib.hid (show (no + 1) * 32 ≤ 140737488355328 by omega)
      have hlti : ys = (cs.getD i clD).1 := hys
      have Hlti := Lib.hid hlti
      have Hd1 := Lib.hid (show w.cell? ⟨bl, i * 2, none⟩ = some vi by rw [hvi]; exact d1)
      have Hd2 := Lib.hid (show w.cell? ⟨bl, i * 2 + 1, none⟩ = some (.int .i64 ci) by rw [hci]; exact d2)
      have HiW0 := Lib.hid (show Ints w vi ys by rw [hvi, hys]; exact Hfl.out i (by rw [← Hn.out]; exact hlt))
      clear d1 d2 hvi hys hci hny hxc hcl ell1 ell2 ell3 hlti
      rcases Hbo.out with ⟨rfl, hiP, ho⟩ | ⟨rfl, hiP, ho⟩
      · by_cases hiP2 : i < P
        · have hle : ltB ys tl = true := by rw [Hlti.out]; have := HP.out; exact posC_lt (tl, c) cs i (by omega)
          have HO := Lib.hid ho
          have HL := Lib.hid hle
          clear ho hle
          go_wp2_with fail
          refine (l1Less_any _ _ ys tl _ HiW.out Hix.out).mono ?_
          rintro e wq ⟨rfl, q, rfl⟩
          rw [HL.out]
          go_wp2_with fail
          obtain ⟨W9, hW9⟩ : ∃ W, W = wx.drewN q := ⟨_, rfl⟩
          rw [← hW9]
          have hq9 : Qt wx W9 := ⟨q, hW9⟩
          have cA9 := hq9.cell cA
          have cB9 := hq9.cell cB
          have HiW9 := Lib.hid (HiW.out.qt hq9)
          have G19 := Lib.hid (show OwnS W9 B1 W9.heap.size 41 2 (.slice po no ko) no (clF o fo) from by have := G1.out.below (hq9.below _); rw [← hq9.size] at this; exact this)
          have G29 := Lib.hid (show ∀ t, t < o.length → OwnI 3 W9 B0 W9.heap.size (fo t) (o.getD t clD).1 from fun t ht => by have := (G2.out t ht).below (hq9.below _); rw [← hq9.size] at this; exact this)
          have Hs09 := Lib.hid (show B1 ≤ W9.heap.size by rw [hq9.size]; exact Hs0.out)
          have HBW9 := Lib.hid (HBW.out.trans (hq9.below B1))
          have Hn19 := Hn1
          have Hn29 := Hn2
          clear hW9 hq9 cA cB
          go_region_law (first
            | (refine step_append_S rfl (.tmp 67) (.tmp 80) 23 rfl 41 _ 2 32 Try.underlying23 info_cls rfl (by omega) B1 W9.heap.size _ no (clF o fo) rfl (G19.out.below (Hbc2.out.trans ((below_alloc wc _).mono hsc))) (by rw [size_alloc]; have := Hs09.out; omega) _ _ (fun j => match j with | 0 => .slice pc2 ny kc2 | _ => .int .i64 ci) rfl (fun j hj => match j, hj with | 0, _ => cell_of_blk (heap_alloc_top wc _) (j := 0) rfl | 1, _ => cell_of_blk (heap_alloc_top wc _) (j := 1) rfl) (fun j hj => match j, hj with | 0, _ => rfl | 1, _ => rfl) Hn19.out Hn29.out ?_; intro v' w' hv hg; have Hv := Lib.hid hv; have Hg := Lib.hid hg; clear hv hg)
            | (refine (if_pos ?_).mpr ?_; rfl; go_simp; refine (l1Ints_any vi ys _ (HiW9.out.below (Below.of_drewN _ _)) (by have := Hyl.out; omega)).mono ?_; rintro e wc ⟨uc, rfl, hoc, hbc⟩; have hbc2 : Below W9.heap.size W9 wc := (Below.of_drewN W9 1).trans hbc; have hsc : W9.heap.size ≤ wc.heap.size := hbc2.size; obtain ⟨pc2, kc2, rfl, _, _⟩ := hoc.shape; have Hoc2 := Lib.hid (show OwnI 3 wc W9.heap.size wc.heap.size (.slice pc2 ys.length kc2) ys from hoc); have Hbc2 := Lib.hid hbc2; have c1c := cell_below hbc2 cA9; have c2c := cell_below hbc2 cB9; have c2d : ∀ q, (wc.alloc q).cell? ⟨bl, i * 2 + 1, none⟩ = some (.int .i64 ci) := fun q => cell_below (below_alloc wc q) c2c; rw [← Hyn.out] at Hoc2 ⊢; clear hoc hbc hbc2; dsimp only))
          all_goals go_wp2_with fail
          all_goals go_roundg (n - (i + 1))
          all_goals try omega
          all_goals
            have hal := below_alloc wc (.cells #[.slice pc2 ny kc2, .int .i64 ci] 41)
            have hx2 : OwnI 3 (wc.alloc (.cells #[.slice pc2 ny kc2, .int .i64 ci] 41)) B0 wc.heap.size (.slice pc2 ny kc2) ys := (Hoc2.out.below hal).mono (by have := Hs09.out; omega) (Nat.le_refl _)
            have hW2 : Below W9.heap.size W9 (wc.alloc (.cells #[.slice pc2 ny kc2, .int .i64 ci] 41)) := Hbc2.out.trans (hal.mono hsc)
            have hsn := OwnCe.snoc (m := (ys, ci)) Hno.out ((G19.out.below hW2).mono (Nat.le_refl B1) hsc) (fun t ht => ((G29.out t ht).below hW2).mono (Nat.le_refl B0) hsc) hx2 Hg.out (Nat.le_trans (by rw [size_alloc]; exact Nat.le_succ _) Hg.out.size) Hv.out
            have hgb : Below B1 (wc.alloc (.cells #[.slice pc2 ny kc2, .int .i64 ci] 41)) w' := grownBy_below Hg.out G19.out.blocks (Nat.le_refl _) (by rw [size_alloc]; have := Hs09.out; omega)
            have hall : Below B1 W9 w' := (hW2.mono (by have := Hs09.out; omega)).trans hgb
            refine ⟨i + 1, false, o ++ [(ys, ci)], by omega, rfl, by go_num, rfl, Lib.hid (HBW9.out.trans hall), Lib.hid (Nat.le_trans Hs09.out hall.size), Lib.hid hsn, Lib.hid ?_⟩
            exact .inl ⟨rfl, by omega, by rw [Hys.out, HO.out, take_snocC (by rw [← Hn.out]; exact hlt)]⟩
        · have hiP3 : i = P := by omega
          have hle : ltB ys tl = false := by rw [Hlti.out, hiP3]; have := HP.out; rw [this]; exact posC_at (tl, c) cs (by rw [← this, ← hiP3, ← Hn.out]; exact hlt)
          have hns : decide (ys = tl) = false := decide_eq_false fun e => Hne.out (cs.getD i clD) (by
            rw [List.getD_eq_getElem?_getD, List.getElem?_eq_getElem (by rw [← Hn.out]; exact hlt)]
            exact List.getElem_mem _) (by rw [← Hlti.out]; exact e)
          have HO := Lib.hid ho
          have HL := Lib.hid hle
          have HNS := Lib.hid hns
          have HiP3 := Lib.hid hiP3
          clear ho hle hns hiP3
          go_wp2_with fail
          refine (l1Less_any _ _ ys tl _ HiW.out Hix.out).mono ?_
          rintro e wq ⟨rfl, q, rfl⟩
          rw [HL.out]
          go_wp2_with fail
          refine (l1Same_any _ _ ys tl _ (HiW.out.qt ⟨q, rfl⟩) (Hix.out.qt ⟨q, rfl⟩)).mono ?_
          rintro e wq ⟨rfl, q2, rfl⟩
          rw [HNS.out]
          obtain ⟨W5, hW5⟩ : ∃ W, W = (wx.drewN q).drewN q2 := ⟨_, rfl⟩
          rw [← hW5]
          have hq5 : Qt wx W5 := ⟨q + q2, by rw [hW5, World.drewN_drewN]⟩
          have Hq5 := Lib.hid hq5
          have hs5 : W5.heap.size = wx.heap.size := hq5.size
          have G15 := Lib.hid (show OwnS (W5.alloc (.cells #[.slice pt nt kt, .int .i64 c] 41)) B1 wx.heap.size 41 2 (.slice po no ko) no (clF o fo) from (G1.out.below (hq5.below _)).below (below_alloc W5 _))
          have Hlo5 := Lib.hid (show B1 ≤ (W5.alloc (.cells #[.slice pt nt kt, .int .i64 c] 41)).heap.size by rw [size_alloc, hs5]; have := Hs0.out; omega)
          have Hcl5 := Lib.hid (show ∀ j, j < 2 → (W5.alloc (.cells #[.slice pt nt kt, .int .i64 c] 41)).cell? ⟨W5.heap.size, j, none⟩ = some (match j with | 0 => .slice pt nt kt | _ => .int .i64 c) from fun j hj =>
            match j, hj with
            | 0, _ => cell_of_blk (heap_alloc_top W5 _) (j := 0) rfl
            | 1, _ => cell_of_blk (heap_alloc_top W5 _) (j := 1) rfl)
          have Hone5 := Lib.hid (show ∀ j, j < 2 → (match j with | 0 => Value.slice pt nt kt | _ => .int .i64 c).oneCell' = true from fun j hj =>
            match j, hj with
            | 0, _ => rfl
            | 1, _ => rfl)
          have Hs5 := Lib.hid hs5
          clear hW5 hq5 cA cB hs5
          go_wp2_with (at_builtin; go_must (refine wpList_append_S rfl (.tmp 61) (.tmp 65) 23 rfl 41 _ 2 32 Try.underlying23 info_cls rfl (by omega) B1 wx.heap.size _ no (clF o fo) rfl G15.out Hlo5.out _ _ _ rfl Hcl5.out Hone5.out Hn1.out Hn2.out ?_; intro v2 w2 hv2 hg2))
          have hal5 := below_alloc W5 (.cells #[.slice pt nt kt, .int .i64 c] 41)
          have hx5 : OwnI 3 (W5.alloc (.cells #[.slice pt nt kt, .int .i64 c] 41)) B0 wx.heap.size (.slice pt nt kt) tl := by
            have h1 := Hot.out.below (w' := wx) (by rw [← HB1.out]; exact HBW.out)
            exact ((h1.below (Hq5.out.below _)).below hal5).mono (Nat.le_refl _) Hs0.out
          have ho2 := OwnCe.snoc (m := (tl, c)) Hno.out G15.out (fun t ht => ((G2.out t ht).below (Hq5.out.below _)).below hal5) hx5 hg2 (Nat.le_trans (by rw [size_alloc, Hs5.out]; exact Nat.le_succ _) hg2.size) hv2
          have hgb2 : Below B1 (W5.alloc (.cells #[.slice pt nt kt, .int .i64 c] 41)) w2 := grownBy_below hg2 G15.out.blocks (Nat.le_refl _) Hlo5.out
          have hall2 : Below B1 wx w2 := (Hq5.out.below B1).trans ((hal5.mono (by rw [Hs5.out]; exact Hs0.out)).trans hgb2)
          obtain ⟨fo2, g12, g22⟩ := ho2
          obtain ⟨no2, hno2⟩ : ∃ no2, no2 = (o ++ [(tl, c)]).length := ⟨_, rfl⟩
          have hno3 : no2 = no + 1 := by rw [hno2, List.length_append, ← Hno.out]; rfl
          rw [← hno2] at g12
          have Hno8 := Lib.hid hno2
          have hbw2 : Below w.heap.size w w2 := Hbw1.out.trans (hall2.mono (by have := HB0.out; omega))
          have cA8 := cell_below hbw2 Hd1.out
          have cB8 := cell_below hbw2 Hd2.out
          have HiW8 := Lib.hid (show Ints w2 vi ys from HiW0.out.below hbw2)
          have G18 := Lib.hid g12
          have G28 := Lib.hid g22
          have Hs08 := Lib.hid (show B1 ≤ w2.heap.size from Nat.le_trans Hs0.out hall2.size)
          have HBW8 := Lib.hid (HBW.out.trans hall2)
          have Hn18 := Lib.hid (show no2 + 1 ≤ maxLen by unfold maxLen; omega)
          have Hn28 := Lib.hid (show (no2 + 1) * 32 ≤ 140737488355328 by omega)
          clear hal5 hx5 hgb2 hall2 hbw2 g12 g22 hno2 hv2 hg2
          go_region_law (first
            | (refine step_append_S rfl (.tmp 67) (.tmp 80) 23 rfl 41 _ 2 32 Try.underlying23 info_cls rfl (by omega) B1 w2.heap.size _ no2 (clF (o ++ [(tl, c)]) fo2) rfl (G18.out.below (Hbc2.out.trans ((below_alloc wc _).mono hsc))) (by rw [size_alloc]; have := Hs08.out; omega) _ _ (fun j => match j with | 0 => .slice pc2 ny kc2 | _ => .int .i64 ci) rfl (fun j hj => match j, hj with | 0, _ => cell_of_blk (heap_alloc_top wc _) (j := 0) rfl | 1, _ => cell_of_blk (heap_alloc_top wc _) (j := 1) rfl) (fun j hj => match j, hj with | 0, _ => rfl | 1, _ => rfl) Hn18.out Hn28.out ?_; intro v' w' hv hg; have Hv := Lib.hid hv; have Hg := Lib.hid hg; clear hv hg)
            | (refine (if_pos ?_).mpr ?_; rfl; go_simp; refine (l1Ints_any vi ys _ (HiW8.out.below (Below.of_drewN _ _)) (by have := Hyl.out; omega)).mono ?_; rintro e wc ⟨uc, rfl, hoc, hbc⟩; have hbc2 : Below w2.heap.size w2 wc := (Below.of_drewN w2 1).trans hbc; have hsc : w2.heap.size ≤ wc.heap.size := hbc2.size; obtain ⟨pc2, kc2, rfl, _, _⟩ := hoc.shape; have Hoc2 := Lib.hid (show OwnI 3 wc w2.heap.size wc.heap.size (.slice pc2 ys.length kc2) ys from hoc); have Hbc2 := Lib.hid hbc2; have c1c := cell_below hbc2 cA8; have c2c := cell_below hbc2 cB8; have c2d : ∀ q, (wc.alloc q).cell? ⟨bl, i * 2 + 1, none⟩ = some (.int .i64 ci) := fun q => cell_below (below_alloc wc q) c2c; rw [← Hyn.out] at Hoc2 ⊢; clear hoc hbc hbc2; dsimp only))
          all_goals go_wp2_with fail
          all_goals go_roundg (n - (i + 1))
          all_goals try omega
          all_goals
            have hal := below_alloc wc (.cells #[.slice pc2 ny kc2, .int .i64 ci] 41)
            have hx2 : OwnI 3 (wc.alloc (.cells #[.slice pc2 ny kc2, .int .i64 ci] 41)) B0 wc.heap.size (.slice pc2 ny kc2) ys := (Hoc2.out.below hal).mono (by have := Hs08.out; omega) (Nat.le_refl _)
            have hW2 : Below w2.heap.size w2 (wc.alloc (.cells #[.slice pc2 ny kc2, .int .i64 ci] 41)) := Hbc2.out.trans (hal.mono hsc)
            have hsn := OwnCe.snoc (m := (ys, ci)) Hno8.out ((G18.out.below hW2).mono (Nat.le_refl B1) hsc) (fun t ht => ((G28.out t ht).below hW2).mono (Nat.le_refl B0) hsc) hx2 Hg.out (Nat.le_trans (by rw [size_alloc]; exact Nat.le_succ _) Hg.out.size) Hv.out
            have hgb : Below B1 (wc.alloc (.cells #[.slice pc2 ny kc2, .int .i64 ci] 41)) w' := grownBy_below Hg.out G18.out.blocks (Nat.le_refl _) (by rw [size_alloc]; have := Hs08.out; omega)
            have hall : Below B1 w2 w' := (hW2.mono (by have := Hs08.out; omega)).trans hgb
            refine ⟨i + 1, true, (o ++ [(tl, c)]) ++ [(ys, ci)], by omega, rfl, by go_num, rfl, Lib.hid (HBW8.out.trans hall), Lib.hid (Nat.le_trans Hs08.out hall.size), Lib.hid hsn, Lib.hid ?_⟩
            exact .inr ⟨rfl, by have := HiP3.out; omega, by rw [Hys.out, HO.out, insC_take (by have := HP.out; have := HiP3.out; omega) (by rw [← Hn.out]; exact hlt)]; congr 1; rw [HiP3.out, HP.out]; exact (insC_take0 (tl, c) cs).symm⟩
      · have HO := Lib.hid ho
        clear ho
        go_wp2_with fail
        go_region_law (first
          | (refine step_append_S rfl (.tmp 67) (.tmp 80) 23 rfl 41 _ 2 32 Try.underlying23 info_cls rfl (by omega) B1 wx.heap.size _ no (clF o fo) rfl (G1.out.below (Hbc2.out.trans ((below_alloc wc _).mono hsc))) (by rw [size_alloc]; have := Hs0.out; omega) _ _ (fun j => match j with | 0 => .slice pc2 ny kc2 | _ => .int .i64 ci) rfl (fun j hj => match j, hj with | 0, _ => cell_of_blk (heap_alloc_top wc _) (j := 0) rfl | 1, _ => cell_of_blk (heap_alloc_top wc _) (j := 1) rfl) (fun j hj => match j, hj with | 0, _ => rfl | 1, _ => rfl) Hn1.out Hn2.out ?_; intro v' w' hv hg; have Hv := Lib.hid hv; have Hg := Lib.hid hg; clear hv hg)
          | (refine (if_pos ?_).mpr ?_; rfl; go_simp; refine (l1Ints_any vi ys _ (HiW.out.below (Below.of_drewN _ _)) (by have := Hyl.out; omega)).mono ?_; rintro e wc ⟨uc, rfl, hoc, hbc⟩; have hbc2 : Below wx.heap.size wx wc := (Below.of_drewN wx 1).trans hbc; have hsc : wx.heap.size ≤ wc.heap.size := hbc2.size; obtain ⟨pc2, kc2, rfl, _, _⟩ := hoc.shape; have Hoc2 := Lib.hid (show OwnI 3 wc wx.heap.size wc.heap.size (.slice pc2 ys.length kc2) ys from hoc); have Hbc2 := Lib.hid hbc2; have c1c := cell_below hbc2 cA; have c2c := cell_below hbc2 cB; have c2d : ∀ q, (wc.alloc q).cell? ⟨bl, i * 2 + 1, none⟩ = some (.int .i64 ci) := fun q => cell_below (below_alloc wc q) c2c; rw [← Hyn.out] at Hoc2 ⊢; clear hoc hbc hbc2; dsimp only))
        all_goals go_wp2_with fail
        all_goals go_roundg (n - (i + 1))
        all_goals try omega
        all_goals
          have hal := below_alloc wc (.cells #[.slice pc2 ny kc2, .int .i64 ci] 41)
          have hx2 : OwnI 3 (wc.alloc (.cells #[.slice pc2 ny kc2, .int .i64 ci] 41)) B0 wc.heap.size (.slice pc2 ny kc2) ys := (Hoc2.out.below hal).mono (by have := Hs0.out; omega) (Nat.le_refl _)
          have hW2 : Below wx.heap.size wx (wc.alloc (.cells #[.slice pc2 ny kc2, .int .i64 ci] 41)) := Hbc2.out.trans (hal.mono hsc)
          have hsn := OwnCe.snoc (m := (ys, ci)) Hno.out ((G1.out.below hW2).mono (Nat.le_refl B1) hsc) (fun t ht => ((G2.out t ht).below hW2).mono (Nat.le_refl B0) hsc) hx2 Hg.out (Nat.le_trans (by rw [size_alloc]; exact Nat.le_succ _) Hg.out.size) Hv.out
          have hgb : Below B1 (wc.alloc (.cells #[.slice pc2 ny kc2, .int .i64 ci] 41)) w' := grownBy_below Hg.out G1.out.blocks (Nat.le_refl _) (by rw [size_alloc]; have := Hs0.out; omega)
          have hall : Below B1 wx w' := (hW2.mono (by have := Hs0.out; omega)).trans hgb
          refine ⟨i + 1, true, o ++ [(ys, ci)], by omega, rfl, by go_num, rfl, Lib.hid (HBW.out.trans hall), Lib.hid (Nat.le_trans Hs0.out hall.size), Lib.hid hsn, Lib.hid ?_⟩
          exact .inr ⟨rfl, by omega, by rw [Hys.out, HO.out, insC_take (by have := HP.out; omega) (by rw [← Hn.out]; exact hlt)]⟩
    · obtain rfl : i = n := by omega
      have hlt2 : ¬ (i : Int) < (i : Int) := by omega
      rcases Hbo.out with ⟨rfl, hiP, ho⟩ | ⟨rfl, hiP, ho⟩
      · have HO := Lib.hid ho
        have hPi : P = i := by omega
        have HPi := Lib.hid hPi
        have Hn1 := Lib.hid (show no + 1 ≤ maxLen by unfold maxLen; omega)
        have Hn2 := Lib.hid (show (no + 1) * 32 ≤ 140737488355328 by omega)
        have G15 := Lib.hid (show OwnS (wx.alloc (.cells #[.slice pt nt kt, .int .i64 c] 41)) B1 wx.heap.size 41 2 (.slice po no ko) no (clF o fo) from G1.out.below (below_alloc wx _))
        have Hlo5 := Lib.hid (show B1 ≤ (wx.alloc (.cells #[.slice pt nt kt, .int .i64 c] 41)).heap.size by rw [size_alloc]; have := Hs0.out; omega)
        have Hcl5 := Lib.hid (show ∀ j, j < 2 → (wx.alloc (.cells #[.slice pt nt kt, .int .i64 c] 41)).cell? ⟨wx.heap.size, j, none⟩ = some (match j with | 0 => .slice pt nt kt | _ => .int .i64 c) from fun j hj =>
          match j, hj with
          | 0, _ => cell_of_blk (heap_alloc_top wx _) (j := 0) rfl
          | 1, _ => cell_of_blk (heap_alloc_top wx _) (j := 1) rfl)
        have Hone5 := Lib.hid (show ∀ j, j < 2 → (match j with | 0 => Value.slice pt nt kt | _ => .int .i64 c).oneCell' = true from fun j hj =>
          match j, hj with
          | 0, _ => rfl
          | 1, _ => rfl)
        clear ho hPi
        go_wp2_with (at_builtin; go_must (refine wpList_append_S rfl (.tmp 84) (.tmp 88) 23 rfl 41 _ 2 32 Try.underlying23 info_cls rfl (by omega) B1 wx.heap.size _ no (clF o fo) rfl G15.out Hlo5.out _ _ _ rfl Hcl5.out Hone5.out Hn1.out Hn2.out ?_; intro v2 w2 hv2 hg2))
        go_ret
        have hal5 := below_alloc wx (.cells #[.slice pt nt kt, .int .i64 c] 41)
        have hx5 : OwnI 3 (wx.alloc (.cells #[.slice pt nt kt, .int .i64 c] 41)) B0 wx.heap.size (.slice pt nt kt) tl := by
          have h1 := Hot.out.below (w' := wx) (by rw [← HB1.out]; exact HBW.out)
          exact (h1.below hal5).mono (Nat.le_refl _) Hs0.out
        have ho2 := OwnCe.snoc (m := (tl, c)) Hno.out G15.out (fun t ht => (G2.out t ht).below hal5) hx5 hg2 (Nat.le_trans (by rw [size_alloc]; exact Nat.le_succ _) hg2.size) hv2
        have hgb2 : Below B1 (wx.alloc (.cells #[.slice pt nt kt, .int .i64 c] 41)) w2 := grownBy_below hg2 G15.out.blocks (Nat.le_refl _) Hlo5.out
        have hall2 : Below B1 wx w2 := (hal5.mono Hs0.out).trans hgb2
        have he : o ++ [(tl, c)] = insC (tl, c) cs := by
          rw [HO.out, ← HPi.out, HP.out, ← insC_take0, List.take_of_length_le]
          rw [(insC_perm (tl, c) cs).length_eq, ← HP.out, HPi.out, Hn.out]
          exact Nat.le_refl _
        rw [he] at ho2
        refine ⟨_, rfl, ?_, Hbw1.out.trans (hall2.mono (by have := HB0.out; omega))⟩
        rw [← HB0.out]
        exact ho2.cl hsz1
      · have HO := Lib.hid ho
        clear ho
        go_wp2_with fail
        go_ret
        have he : o = insC (tl, c) cs := by
          rw [HO.out, List.take_of_length_le]
          rw [(insC_perm (tl, c) cs).length_eq, Hn.out]
          exact Nat.le_refl _
        have ho2 : OwnCe wx B1 B0 wx.heap.size (.slice po no ko) o := ⟨fo, by have := G1.out; rw [Hno.out] at this ⊢; exact this, G2.out⟩
        rw [he] at ho2
        refine ⟨_, rfl, ?_, Hbw1.out⟩
        rw [← HB0.out]
        exact ho2.cl hsz1

end Go.Proofs.Ytajmoclnmphmgaa

namespace Go.Proofs.Ytajmoclnmphmgaa
set_option linter.all false
open Go.RowKit

theorem plA_le {xs : List Int} (h : xs.length ≤ 4) : ∀ i, plA xs i + 1 ≤ 5 ^ i
  | 0 => by simp [plA]
  | i + 1 => by
    have a := plA_le h i
    have b : cdA xs i ≤ 3 := by unfold cdA; have := cdK_le xs i (xs.length - (i + 1)); omega
    have c : plA xs i * (xs.length - i) ≤ plA xs i * 4 := Nat.mul_le_mul_left _ (by omega)
    rw [plA, Nat.pow_succ]
    omega
theorem plA_small {xs : List Int} (h : xs.length ≤ 4) : ∀ i, i ≤ xs.length → plA xs i ≤ 1000000 := fun i hi => by
  have a := plA_le h i
  have b : 5 ^ i ≤ 5 ^ 4 := Nat.pow_le_pow_right (by omega) (by omega)
  omega

set_option maxRecDepth 100000 in
set_option maxHeartbeats 8000000 in
theorem specIsGkm_ex (N : Int) (v u : Value) (vs y : List Int) (w : World) (hv : Ints w v vs) (hy : Ints w u y) :
    Calls Try.prog 28 #[.int .i64 N, v, u] w fun e w' => ∃ b, e = .returned (.bool b) ∧ GkIs N vs y b ∧ Below w.heap.size w w' := by
  have HV := Lib.hid hv
  have HY := Lib.hid hy
  obtain ⟨pv, cv, rfl, ⟨hv1, hv2⟩, hvc⟩ := hv
  obtain ⟨py, cy, rfl, ⟨hy1, hy2⟩, hyc⟩ := hy
  unfold maxLen at hv2 hy2
  go_enter Try.func28, Try.ntmps28
  go_wp2_with fail
  refine (l8Apart_any _ _ y _ HY.out).mono ?_
  rintro e w1 ⟨rfl, hq1⟩
  cases ha : apOk N y with
  | false =>
    go_wp2_with fail
    go_ret
    exact ⟨false, rfl, GkIs.no1 ha, hq1.below _⟩
  | true =>
  obtain ⟨n, rfl, hn1, hn4, hyl, hyr, hyd⟩ := ap_facts ha
  have Ha := Lib.hid ha
  have Hyl := Lib.hid hyl
  have Hyr := Lib.hid hyr
  have Hyd := Lib.hid hyd
  clear ha hyl hyr hyd
  go_wp2_with fail
  refine (l8Values_any n _ vs _ (HV.out.qt hq1) hn4).mono ?_
  rintro e w2 ⟨rfl, hq2⟩
  have HQ2 := Lib.hid (hq1.trans hq2)
  clear hq1 hq2
  by_cases hl : vs.length = fact n
  case neg =>
    rw [decide_eq_false hl, Bool.false_and]
    go_wp2_with fail
    go_ret
    exact ⟨false, rfl, GkIs.no2 (by simpa using hl), HQ2.out.below _⟩
  cases hm : mostB vs with
  | false =>
    rw [Bool.and_false]
    go_wp2_with fail
    go_ret
    exact ⟨false, rfl, GkIs.no3 hm, HQ2.out.below _⟩
  | true =>
  rw [decide_eq_true hl]
  have Hl := Lib.hid hl
  have Hm := Lib.hid hm
  clear hl hm
  go_wp2_with fail
  refine (specPerms_any n hn1 (by omega) _).mono ?_
  rintro e w3 ⟨ul, rfl, hol, hb3⟩
  obtain ⟨L, hL⟩ : ∃ L, L = permsL n := ⟨_, rfl⟩
  have hLl : L.length = fact n := by rw [hL]; simp [permsL]
  obtain ⟨F, hF⟩ : ∃ F, F = fact n := ⟨_, rfl⟩
  have hF24 : F ≤ 24 := by rw [hF]; exact Nat.le_trans (fact_le hn4) (by decide)
  have hG := gkN hn1 hn4
  rw [← hL] at hol
  obtain ⟨f, hf1, hf2⟩ := hol.rd
  rw [hLl, ← hF] at hf1 hf2
  obtain ⟨pl, cl, rfl, hcl, hcl2⟩ := hol.shape
  rw [hLl, ← hF] at hf1 hcl ⊢
  unfold maxLen at hcl2
  have HL := Lib.hid hL
  have HF := Lib.hid hF
  have Hf1 := Lib.hid hf1
  have Hf2 := Lib.hid hf2
  have HG := Lib.hid hG
  have HB3 := Lib.hid ((HQ2.out.below _).trans (hb3.mono (by rw [HQ2.out.size]; exact Nat.le_refl _)))
  have hvF : vs.length = F := by rw [Hl.out, hF]
  rw [hvF] at HV hvc hv1 ⊢
  have HvF := Lib.hid hvF
  rw [Hyl.out] at HY hyc hy1 ⊢
  clear hol hL hLl hF hG hf1 hf2 hb3 HQ2 hvF
  go_wp2_with fail
  go_loopg [8, 9, 10, 11] F (fun g s8 s9 s10 s11 wr => ∃ x : Nat, x ≤ F ∧ g = F - x ∧ s8 = .int .i64 x ∧ Hid (∀ x' i j, x' < x → i < j → j < n → gkAt n vs y x' i j) ∧ Hid (Below w3.heap.size w3 wr))
  case atStart => exact ⟨0, Nat.zero_le _, rfl, rfl, Lib.hid fun x' _ _ h => absurd h (Nat.not_lt_zero _), Lib.hid (Below.refl _ _)⟩
  case round =>
    obtain ⟨x, hx, rfl, rfl, hp, hb⟩ := hrel
    obtain ⟨w4, rfl⟩ : ∃ x : World, x = wr := ⟨_, rfl⟩
    have Hp := Lib.hid hp.out
    have Hb := Lib.hid hb.out
    clear hp hb
    by_cases hxF : x < F
    · have hxi : (x : Int) < (F : Int) := by omega
      go_wp2_with fail
      go_loopg [9, 10, 11] n (fun g s9 s10 s11 wr => ∃ i : Nat, i ≤ n ∧ g = n - i ∧ s9 = .int .i64 i ∧ Hid (∀ i' j, i' < i → i' < j → j < n → gkAt n vs y x i' j) ∧ Hid (Below w3.heap.size w3 wr))
      case atStart => exact ⟨0, Nat.zero_le _, rfl, rfl, Lib.hid fun i' _ h => absurd h (Nat.not_lt_zero _), Hb⟩
      case round =>
        obtain ⟨i, hi, rfl, rfl, hp1, hb1⟩ := hrel
        obtain ⟨w5, rfl⟩ : ∃ x : World, x = wr := ⟨_, rfl⟩
        have Hp1 := Lib.hid hp1.out
        have Hb1 := Lib.hid hb1.out
        clear hp1 hb1
        by_cases hin : i < n
        · have hini : (i : Int) < (n : Int) := by omega
          go_wp2_with fail
          go_loopg [10, 11] (n - (i + 1)) (fun g s10 s11 wr => ∃ j : Nat, i < j ∧ j ≤ n ∧ g = n - j ∧ s10 = .int .i64 j ∧ Hid (∀ j', i < j' → j' < j → gkAt n vs y x i j') ∧ Hid (Below w3.heap.size w3 wr))
          case atStart => exact ⟨i + 1, by omega, by omega, by omega, by go_num, Lib.hid fun j' h1 h2 => absurd h1 (by omega), Hb1⟩
          case round =>
            obtain ⟨j, hij, hjn, rfl, rfl, hp2, hb2⟩ := hrel
            obtain ⟨w6, rfl⟩ : ∃ x : World, x = wr := ⟨_, rfl⟩
            have Hp2 := Lib.hid hp2.out
            have Hb2 := Lib.hid hb2.out
            clear hp2 hb2
            by_cases hj : j < n
            · have hji : (j : Int) < (n : Int) := by omega
              obtain ⟨row, hrow⟩ : ∃ row, row = (permsL n).getD x [] := ⟨_, rfl⟩
              have hrl : row.length = n := by rw [hrow]; exact HG.out.len x (by rw [← HF.out]; exact hxF)
              obtain ⟨mi, hmi, hmin⟩ := HG.out.rng x i (by rw [← HF.out]; exact hxF) hin
              obtain ⟨mj, hmj, hmjn⟩ := HG.out.rng x j (by rw [← HF.out]; exact hxF) hj
              have hmne : mi ≠ mj := fun e => HG.out.inj x i j (by rw [← HF.out]; exact hxF) hij hj (by rw [hmi, hmj, e])
              rw [← hrow] at hmi hmj
              obtain ⟨o, ho⟩ : ∃ o, o = plN (swapL row i j) := ⟨_, rfl⟩
              have hoF : o < F := by rw [ho, hrow, HF.out]; exact (HG.out.plc x i j (by rw [← HF.out]; exact hxF) hij hj).1
              have hr := Hf2.out x hxF
              rw [HL.out, ← hrow] at hr
              have hr' := hr
              obtain ⟨pr, kr, er, ⟨hkr, hkr2⟩, hrc0⟩ := hr'
              unfold maxLen at hkr2
              rw [er, hrl] at hr
              rw [hrl] at hkr hrc0 er
              obtain ⟨br, orr, hpr, hrc⟩ := hrc0 (by omega)
              subst hpr
              have hf1 := Hf1.out
              obtain ⟨_, _, e0, _, hlc0⟩ := hf1
              injection e0 with e1 e2 e3
              subst e1 e3
              obtain ⟨bl, ol, hpl, hlc⟩ := hlc0 (by omega)
              subst hpl
              obtain ⟨bv, ov, hpv, hvc'⟩ := hvc (by omega)
              subst hpv
              obtain ⟨by', oy, hpy, hyc'⟩ := hyc (by omega)
              subst hpy
              have d0 := hlc x hxF
              rw [er] at d0
              obtain ⟨v1, hv1'⟩ : ∃ v1, v1 = vs.getD x 0 := ⟨_, rfl⟩
              obtain ⟨v2, hv2'⟩ : ∃ v2, v2 = vs.getD o 0 := ⟨_, rfl⟩
              obtain ⟨y1, hy1'⟩ : ∃ y1, y1 = y.getD mi 0 := ⟨_, rfl⟩
              obtain ⟨y2, hy2'⟩ : ∃ y2, y2 = y.getD mj 0 := ⟨_, rfl⟩
              have hv1b := most_at Hm.out (k := x) (by rw [HvF.out]; exact hxF)
              have hv2b := most_at Hm.out (k := o) (by rw [HvF.out]; exact hoF)
              have hy1b := Hyr.out mi hmin
              have hy2b := Hyr.out mj hmjn
              have hyne := Hyd.out mi mj hmin hmjn hmne
              rw [← hv1'] at hv1b
              rw [← hv2'] at hv2b
              rw [← hy1'] at hy1b hyne
              rw [← hy2'] at hy2b hyne
              have hby3 : ∀ {a : Addr} {z : Value}, w.cell? a = some z → w6.cell? a = some z := fun h => cell_below Hb2.out (cell_below HB3.out h)
              have d1 : w6.cell? ⟨bl, ol + x, none⟩ = some (.slice (some ⟨br, orr, none⟩) n kr) := cell_below Hb2.out d0
              have d2 : w6.cell? ⟨br, orr + i, none⟩ = some (.int .i64 (mi : Int)) := by
                have := cell_below Hb2.out (hrc i hin)
                unfold iv at this
                rwa [hmi] at this
              have d3 : w6.cell? ⟨br, orr + j, none⟩ = some (.int .i64 (mj : Int)) := by
                have := cell_below Hb2.out (hrc j hj)
                unfold iv at this
                rwa [hmj] at this
              have d4 : w6.cell? ⟨bv, ov + x, none⟩ = some (.int .i64 v1) := by rw [hv1']; exact hby3 (hvc' x hxF)
              have d5 : w6.cell? ⟨bv, ov + o, none⟩ = some (.int .i64 v2) := by rw [hv2']; exact hby3 (hvc' o hoF)
              have d6 : w6.cell? ⟨by', oy + mi, none⟩ = some (.int .i64 y1) := by rw [hy1']; exact hby3 (hyc' mi hmin)
              have d7 : w6.cell? ⟨by', oy + mj, none⟩ = some (.int .i64 y2) := by rw [hy2']; exact hby3 (hyc' mj hmjn)
              have Hgk := Lib.hid (show gkAt n vs y x i j ↔ (v1 - v2).tmod (y1 - y2) = 0 by
                unfold gkAt
                rw [← hrow, ← ho, hmi, hmj, Int.toNat_natCast, Int.toNat_natCast, ← hv1', ← hv2', ← hy1', ← hy2'])
              have Hr := Lib.hid (hr.below Hb2.out)
              have Hrl := Lib.hid hrl
              have Ho := Lib.hid ho
              have hoi : (o : Int) < (F : Int) := by omega
              have hmii : (mi : Int) < (n : Int) := by omega
              have hmji : (mj : Int) < (n : Int) := by omega
              have hyz : ¬ y1 - y2 = 0 := by omega
              clear hrow hrl hmi hmj ho hr er hrc hlc hvc' hyc' d0 e2 hrc0 hlc0 hv1' hv2' hy1' hy2' hby3
              go_wp2_with fail
              refine (l1Swap_any _ row i j _ Hr.out (by rw [Hrl.out]; exact hin) (by rw [Hrl.out]; exact hj) (by rw [Hrl.out]; omega)).mono ?_
              rintro e w7 ⟨us, rfl, hos, hb7⟩
              have Hos := Lib.hid hos.ints
              obtain ⟨ps, ks, rfl, _, _⟩ := hos.shape
              have d1' := cell_below hb7 d1
              have d2' := cell_below hb7 d2
              have d3' := cell_below hb7 d3
              have d4' := cell_below hb7 d4
              have d5' := cell_below hb7 d5
              have d6' := cell_below hb7 d6
              have d7' := cell_below hb7 d7
              have Hb7 := Lib.hid (Hb2.out.trans (hb7.mono Hb2.out.size))
              clear hos hb7 d1 d2 d3 d4 d5 d6 d7
              go_wp2_with fail
              refine (l1Place_any _ (swapL row i j) _ Hos.out (by rw [swapL_length, Hrl.out]; exact hn4) (plA_small (by rw [swapL_length, Hrl.out]; exact hn4))).mono ?_
              rintro e w8 ⟨rfl, hb8⟩
              rw [← Ho.out]
              have d1 := cell_below hb8 d1'
              have d2 := cell_below hb8 d2'
              have d3 := cell_below hb8 d3'
              have d4 := cell_below hb8 d4'
              have d5 := cell_below hb8 d5'
              have d6 := cell_below hb8 d6'
              have d7 := cell_below hb8 d7'
              have Hb8 := Lib.hid (Hb7.out.trans (hb8.mono Hb7.out.size))
              clear hb8 d1' d2' d3' d4' d5' d6' d7'
              by_cases hz : (v1 - v2).tmod (y1 - y2) = 0
              · go_wp2_with fail
                go_quiet (fail)
                have Hb9 := Lib.hid (Below.drewN Hb8.out nq)
                go_wp2_with fail
                go_roundg (n - (j + 1))
                case measure => omega
                case rel =>
                  refine ⟨j + 1, by omega, by omega, rfl, by go_num, Lib.hid fun j' h1 h2 => ?_, Hb9⟩
                  by_cases e : j' = j
                  · subst e; exact Hgk.out.2 hz
                  · exact Hp2.out j' h1 (by omega)
              · go_wp2_with fail
                go_quiet (fail)
                have Hb9 := Lib.hid (Below.drewN Hb8.out nq)
                go_wp2_with fail
                go_ret
                exact ⟨false, rfl, GkIs.no4 (x := x) (i := i) (j := j) (by rw [Int.toNat_natCast, ← HF.out]; exact hxF) hij (by rw [Int.toNat_natCast]; exact hj) (by rw [Int.toNat_natCast, Hgk.out]; exact hz), HB3.out.trans (Hb9.out.mono HB3.out.size)⟩
            · have hji : ¬ (j : Int) < (n : Int) := by omega
              go_wp2_with fail
              go_roundg (n - (i + 1))
              case measure => omega
              case rel =>
                refine ⟨i + 1, by omega, rfl, by go_num, Lib.hid fun i' j' h1 h2 h3 => ?_, Hb2⟩
                by_cases e : i' = i
                · subst e; exact Hp2.out j' h2 (by omega)
                · exact Hp1.out i' j' (by omega) h2 h3
        · have hini : ¬ (i : Int) < (n : Int) := by omega
          go_wp2_with fail
          go_roundg (F - (x + 1))
          case measure => omega
          case rel =>
            refine ⟨x + 1, by omega, rfl, by go_num, Lib.hid fun x' i' j' h1 h2 h3 => ?_, Hb1⟩
            by_cases e : x' = x
            · subst e; exact Hp1.out i' j' (by omega) h2 h3
            · exact Hp.out x' i' j' (by omega) h2 h3
    · have hxi : ¬ (x : Int) < (F : Int) := by omega
      go_wp2_with fail
      go_ret
      refine .inr ⟨rfl, ⟨fun _ => ⟨Ha.out, by rw [Int.toNat_natCast]; exact Hl.out, Hm.out, fun x' i' j' h1 h2 h3 => ?_⟩, fun _ => rfl⟩, HB3.out.trans (Hb.out.mono HB3.out.size)⟩
      rw [Int.toNat_natCast] at h1 h3 ⊢
      exact Hp.out x' i' j' (by rw [← HF.out] at h1; omega) h2 h3
theorem specIsGkm_any (N : Int) (v u : Value) (vs y : List Int) (w : World) (hv : Ints w v vs) (hy : Ints w u y) :
    Calls Try.prog 28 #[.int .i64 N, v, u] w fun e w' => e = .returned (.bool (Classical.epsilon (GkIs N vs y))) ∧ Below w.heap.size w w' :=
  (specIsGkm_ex N v u vs y w hv hy).mono fun e w' ⟨b, h1, h2, h3⟩ => ⟨by rw [h1, h2.eps], h3⟩

end Go.Proofs.Ytajmoclnmphmgaa
