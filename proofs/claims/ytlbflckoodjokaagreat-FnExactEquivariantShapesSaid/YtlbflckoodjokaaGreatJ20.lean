/-
  The reference's putting of a class into an ascending list.
  IsGkm of the reference.
  The reference's l8Expand and ExpandLocal.
-/
import Derived.Test.YtlbflckoodjokaaGreatJ13
import Derived.Test.YtlbflckoodjokaaGreatJ18
import Derived.Test.YtlbflckoodjokaaGreatJ3
import Derived.Deep.RegionLaw
import Derived.Test.YtlbflckoodjokaaGreatJ11
import Derived.Test.YtlbflckoodjokaaGreatJ19
import Derived.BigRegion
namespace Go.Proofs.YtlbflckoodjokaaGreat
set_option linter.all false
set_option maxRecDepth 100000
open Go.RowKit

def posC (c : Cls) : List Cls → Nat
  | [] => 0
  | x :: l => if ltB x.1 c.1 then posC c l + 1 else 0
theorem posC_le (c : Cls) : ∀ l, posC c l ≤ l.length
  | [] => Nat.le_refl _
  | x :: l => by
    rw [posC]
    split
    · have := posC_le c l; simp; omega
    · exact Nat.zero_le _
theorem insC_eq (c : Cls) : ∀ l, insC c l = l.take (posC c l) ++ c :: l.drop (posC c l)
  | [] => rfl
  | x :: l => by
    rw [insC, posC]
    split
    · rw [insC_eq c l, List.take_succ_cons, List.drop_succ_cons]; rfl
    · rfl
theorem posC_lt (c : Cls) : ∀ (l : List Cls) (i : Nat), i < posC c l → ltB (l.getD i clD).1 c.1 = true
  | [], i, h => absurd h (Nat.not_lt_zero _)
  | x :: l, i, h => by
    rw [posC] at h
    by_cases e : ltB x.1 c.1 = true
    · rw [if_pos e] at h
      cases i with
      | zero => exact e
      | succ i => exact posC_lt c l i (by omega)
    · rw [if_neg e] at h
      exact absurd h (Nat.not_lt_zero _)
theorem posC_at (c : Cls) : ∀ (l : List Cls), posC c l < l.length → ltB (l.getD (posC c l) clD).1 c.1 = false
  | [], h => absurd h (Nat.not_lt_zero _)
  | x :: l, h => by
    by_cases e : ltB x.1 c.1 = true
    · have e1 : posC c (x :: l) = posC c l + 1 := by rw [posC, if_pos e]
      rw [e1] at h ⊢
      exact posC_at c l (by simpa using h)
    · have e1 : posC c (x :: l) = 0 := by rw [posC, if_neg e]
      rw [e1]
      simpa using e
theorem take_snocC {cs : List Cls} {i : Nat} (h : i < cs.length) : cs.take (i + 1) = cs.take i ++ [cs.getD i clD] := by
  rw [List.take_add_one, List.getElem?_eq_getElem h, List.getD_eq_getElem?_getD, List.getElem?_eq_getElem h]; rfl
theorem insC_take0 (c : Cls) (cs : List Cls) : (insC c cs).take (posC c cs + 1) = cs.take (posC c cs) ++ [c] := by
  have h := posC_le c cs
  rw [insC_eq, List.take_append, List.take_of_length_le (by rw [List.length_take]; omega), List.length_take, Nat.min_eq_left h, show posC c cs + 1 - posC c cs = 1 by omega]; rfl
theorem insC_take {c : Cls} {cs : List Cls} {i : Nat} (h1 : posC c cs ≤ i) (h : i < cs.length) : (insC c cs).take (i + 2) = (insC c cs).take (i + 1) ++ [cs.getD i clD] := by
  have hl : (insC c cs).length = cs.length + 1 := by rw [(insC_perm c cs).length_eq]; rfl
  have hi : i + 1 < (insC c cs).length := by omega
  rw [List.take_add_one, List.getElem?_eq_getElem hi]
  congr 1
  have hp := posC_le c cs
  have : (insC c cs)[i + 1]? = some (cs.getD i clD) := by
    rw [insC_eq, List.getElem?_append_right (by rw [List.length_take]; omega), List.length_take, Nat.min_eq_left hp, show i + 1 - posC c cs = (i - posC c cs) + 1 by omega, List.getElem?_cons_succ, List.getElem?_drop, show posC c cs + (i - posC c cs) = i by omega, List.getElem?_eq_getElem h, List.getD_eq_getElem?_getD, List.getElem?_eq_getElem h]; rfl
  rw [List.getElem?_eq_getElem hi] at this
  rw [this]; rfl

/-- classes whose row lies from lo1 on, the permutations from lo0 on -/
def OwnCe (w : World) (lo1 lo0 hi : Nat) (v : Value) (cs : List Cls) : Prop :=
  ∃ g, OwnS w lo1 hi 40 2 v cs.length (clF cs g) ∧ ∀ i, i < cs.length → OwnI 3 w lo0 hi (g i) (cs.getD i clD).1
theorem OwnCe.below {w w' : World} {lo1 lo0 hi : Nat} {v : Value} {cs : List Cls} (h : OwnCe w lo1 lo0 hi v cs) (hb : Below w.heap.size w w') : OwnCe w' lo1 lo0 hi v cs := by
  obtain ⟨g, h1, h2⟩ := h
  exact ⟨g, h1.below hb, fun i hi => (h2 i hi).below hb⟩
theorem OwnCe.cl {w : World} {lo1 lo0 hi : Nat} {v : Value} {cs : List Cls} (h : OwnCe w lo1 lo0 hi v cs) (hl : lo0 ≤ lo1) : OwnCl w lo0 hi v cs := by
  obtain ⟨g, h1, h2⟩ := h
  exact ⟨g, h1.mono hl (Nat.le_refl _), h2⟩
theorem OwnCe.snoc {w w' : World} {lo1 lo0 mid : Nat} {v v' x : Value} {cs : List Cls} {m : Cls} {f : Nat → Value} {n : Nat} (hn : n = cs.length) (g1 : OwnS w lo1 mid 40 2 v n (clF cs f)) (g2 : ∀ i, i < cs.length → OwnI 3 w lo0 mid (f i) (cs.getD i clD).1)
    (hx : OwnI 3 w lo0 mid x m.1) (hg : w.grownBy w' v.ownBlock) (hsz : mid ≤ w'.heap.size)
    (hv : OwnS w' lo1 w'.heap.size 40 2 v' (n + 1) (fun i => if i < n then clF cs f i else fun j => match j with | 0 => x | _ => .int .i64 m.2)) : OwnCe w' lo1 lo0 w'.heap.size v' (cs ++ [m]) := by
  subst hn
  have hrow : ∀ (y : Value) (ys : List Int) (lo1 hi1 : Nat), OwnI 3 w lo1 hi1 y ys → OwnI 3 w' lo1 hi1 y ys := fun y ys lo1 hi1 hy =>
    ⟨ownsRow_of_block hy.1 fun k hk => hg.block k (Own.block hy hk).2.2 fun e => ne_of_kinds (g1.kind k e.symm) (OwnI.kind hy k hk) (by decide), hy.2⟩
  refine ⟨fun i => if i < cs.length then f i else x, by
    rw [List.length_append]
    refine hv.congr fun i hi j hj => ?_
    by_cases h : i < cs.length
    · rw [if_pos h]
      unfold clF
      rw [OwnCd.getD_snoc, if_pos h]
      have : j = 0 ∨ j = 1 := by omega
      rcases this with rfl | rfl
      · show f i = if i < cs.length then f i else x
        rw [if_pos h]
      · rfl
    · have e : i = cs.length := by omega
      rw [if_neg h]
      unfold clF
      rw [OwnCd.getD_snoc, if_neg h, if_pos e]
      have : j = 0 ∨ j = 1 := by omega
      rcases this with rfl | rfl
      · show x = if i < cs.length then f i else x
        rw [if_neg h]
      · rfl, fun i hi => ?_⟩
  rw [List.length_append] at hi
  simp only [List.length_singleton] at hi
  rw [OwnCd.getD_snoc]
  by_cases h : i < cs.length
  · simp only [h, if_true]
    exact (hrow _ _ _ _ (g2 i h)).mono (Nat.le_refl _) hsz
  · have : i = cs.length := by omega
    simp only [h, if_false]
    rw [if_pos this]
    exact (hrow _ _ _ _ hx).mono (Nat.le_refl _) hsz

set_option maxHeartbeats 16000000 in
theorem l3Add_any (v : Value) (cs : List Cls) (u : Value) (xs : List Int) (c : Int) (w : World) (h : RdCl w v cs) (hu : Ints w u xs) (hc : ¬ c = 0) (hne : ∀ x ∈ cs, x.1 ≠ trimL xs) (hn : cs.length ≤ 1000) (hx : xs.length ≤ 1000)
    (hl : ∀ i, i < cs.length → (cs.getD i clD).1.length ≤ 1000) :
    Calls Tryz.prog 51 #[v, u, .int .i64 c] w fun e w' => ∃ r, e = .returned r ∧ OwnCl w' w.heap.size w'.heap.size r (insC (trimL xs, c) cs) ∧ Below w.heap.size w w' := by
  have Hlt := Lib.hid (l1Trim_any u xs w hu (by omega))
  obtain ⟨fl, hrd, hfl⟩ := h
  have Hrd := Lib.hid hrd
  have Hfl := Lib.hid hfl
  obtain ⟨pl, kl, rfl, ⟨hl1, hl2⟩, _⟩ := hrd
  obtain ⟨pu, ku, rfl, _, _⟩ := hu
  unfold maxLen at hl2
  obtain ⟨n, hnn⟩ : ∃ n, n = cs.length := ⟨_, rfl⟩
  have Hn := Lib.hid hnn
  obtain ⟨tl, htl⟩ : ∃ tl, tl = trimL xs := ⟨_, rfl⟩
  rw [← htl] at hne Hlt ⊢
  have Hne := Lib.hid hne
  have Hl := Lib.hid hl
  have htn : tl.length ≤ 1000 := by rw [htl, trimL_length]; have := trimN_le xs xs.length; omega
  obtain ⟨P, hP⟩ : ∃ P, P = posC (tl, c) cs := ⟨_, rfl⟩
  have hPn : P ≤ n := by rw [hP, hnn]; exact posC_le _ _
  have HP := Lib.hid hP
  have d0 : (c == 0) = false := by simp [hc]
  rw [← hnn] at hl1 hn ⊢
  obtain ⟨B0, hB0⟩ : ∃ B, B = w.heap.size := ⟨_, rfl⟩
  have HB0 := Lib.hid hB0
  clear hnn htl hne hl hP hB0 hfl hc
  go_enter Tryz.func51, Tryz.ntmps51
  go_wp2_with fail
  refine Hlt.out.mono ?_
  rintro e w1 ⟨ut, rfl, hot, hbt⟩
  rw [← HB0.out] at hot hbt
  obtain ⟨pt, kt, rfl, hkt, hkt2⟩ := hot.shape
  obtain ⟨B1, hB1⟩ : ∃ B, B = w1.heap.size := ⟨_, rfl⟩
  have hsz1 := hbt.size
  rw [← HB0.out, ← hB1] at hsz1
  rw [← hB1] at hot
  obtain ⟨nt, hnt⟩ : ∃ nt, nt = tl.length := ⟨_, rfl⟩
  rw [← hnt] at hkt hot ⊢
  have Hnt := Lib.hid hnt
  have Hot := Lib.hid hot
  have Hbt := Lib.hid hbt
  have HB1 := Lib.hid hB1
  clear hot hbt hB1 hnt Hlt
  go_wp2_with fail
  go_loopg [8, 9, 10] n (fun g s8 s9 s10 wr => ∃ (i : Nat) (b : Bool) (o : List Cls), i ≤ n ∧ g = n - i ∧ s10 = .int .i64 (i : Int) ∧ s9 = .bool b ∧ Hid (Below B1 w1 wr) ∧ Hid (B1 ≤ wr.heap.size) ∧ Hid (OwnCe wr B1 B0 wr.heap.size s8 o) ∧
    Hid ((b = false ∧ i ≤ P ∧ o = cs.take i) ∨ (b = true ∧ P < i ∧ o = (insC (tl, c) cs).take (i + 1))))
  case atStart =>
    refine ⟨0, false, [], Nat.zero_le _, rfl, rfl, rfl, Lib.hid ?_, Lib.hid ?_, Lib.hid ?_, Lib.hid (.inl ⟨rfl, Nat.zero_le _, rfl⟩)⟩
    · have := below_alloc w1 (.cells #[] 40); rw [← HB1.out] at this; exact this
    · rw [size_alloc, ← HB1.out]; omega
    · refine ⟨fun _ => undef, ?_, fun i hi => absurd hi (Nat.not_lt_zero _)⟩
      have := OwnS.made0 w1 40 2 (clF [] fun _ => undef)
      rw [← HB1.out] at this ⊢
      exact this.mono (Nat.le_refl _) (by rw [size_alloc, ← HB1.out]; exact Nat.le_refl _)
  case round =>
    obtain ⟨i, b, o, hi, rfl, rfl, rfl, hb, hs, ho, hbo⟩ := hrel
    obtain ⟨wx, rfl⟩ : ∃ x : World, x = wr := ⟨_, rfl⟩
    have HBW := Lib.hid hb.out
    have Hs0 := Lib.hid hs.out
    obtain ⟨fo, g1, g2⟩ := ho.out
    have hno : o.length ≤ n + 1 := by
      rcases hbo.out with ⟨_, h1, rfl⟩ | ⟨_, h1, rfl⟩
      · rw [List.length_take]; omega
      · rw [List.length_take]; omega
    obtain ⟨po, ko, rfl, hko, hko2, _⟩ := g1.shape
    unfold maxLen at hko2
    obtain ⟨no, hnoo⟩ : ∃ no, no = o.length := ⟨_, rfl⟩
    have Hno := Lib.hid hnoo
    have G1 := Lib.hid g1
    have G2 := Lib.hid g2
    rw [← hnoo] at hno hko G1 ⊢
    have hbw1 : Below w.heap.size w wx := by rw [← HB0.out]; exact Hbt.out.trans (HBW.out.mono hsz1)
    have Hbw1 := Lib.hid hbw1
    clear hbw1
    have Hbo := Lib.hid hbo.out
    have Hix := Lib.hid (show Ints wx (.slice pt nt kt) tl by have := Hot.out.ints; rw [Hnt.out] at this ⊢; exact this.below (by rw [← HB1.out]; exact HBW.out))
    clear hb hs ho hbo g1 g2 hnoo
    by_cases hlt : i < n
    · have hlt2 : (i : Int) < (n : Int) := by omega
      obtain ⟨pl', kl', ell, _, hxc⟩ := Hrd.out.two
      rw [← Hn.out] at ell hxc
      injection ell with ell1 ell2 ell3
      obtain ⟨bl, hbl, hcl⟩ := hxc (by omega)
      rw [← ell1] at hbl
      subst hbl
      obtain ⟨d1, d2⟩ := hcl i hlt
      obtain ⟨vi, hvi⟩ : ∃ z, z = fl i := ⟨_, rfl⟩
      obtain ⟨ys, hys⟩ : ∃ z, z = (cs.getD i clD).1 := ⟨_, rfl⟩
      obtain ⟨ci, hci⟩ : ∃ z, z = (cs.getD i clD).2 := ⟨_, rfl⟩
      have cA := cell_below Hbw1.out d1
      have cB := cell_below Hbw1.out d2
      rw [← hvi] at cA
      rw [← hci] at cB
      have HiW := Lib.hid (show Ints wx vi ys by rw [hvi, hys]; exact (Hfl.out i (by rw [← Hn.out]; exact hlt)).below Hbw1.out)
      have Hyl := Lib.hid (show ys.length ≤ 1000 by rw [hys]; exact Hl.out i (by rw [← Hn.out]; exact hlt))
      obtain ⟨ny, hny⟩ : ∃ ny, ny = ys.length := ⟨_, rfl⟩
      have Hyn := Lib.hid hny
      have Hys := Lib.hid (show (ys, ci) = cs.getD i clD by rw [hys, hci])
      have Hn1 := Lib.hid (show no + 1 ≤ maxLen by unfold maxLen; omega)
      have Hn2 := Lib.hid (show (no + 1) * 32 ≤ 140737488355328 by omega)
      have hlti : ys = (cs.getD i clD).1 := hys
      have Hlti := Lib.hid hlti
      have Hd1 := Lib.hid (show w.cell? ⟨bl, i * 2, none⟩ = some vi by rw [hvi]; exact d1)
      have Hd2 := Lib.hid (show w.cell? ⟨bl, i * 2 + 1, none⟩ = some (.int .i64 ci) by rw [hci]; exact d2)
      have HiW0 := Lib.hid (show Ints w vi ys by rw [hvi, hys]; exact Hfl.out i (by rw [← Hn.out]; exact hlt))
      clear d1 d2 hvi hys hci hny hxc hcl ell1 ell2 ell3 hlti
      rcases Hbo.out with ⟨rfl, hiP, ho⟩ | ⟨rfl, hiP, ho⟩
      · by_cases hiP2 : i < P
        · have hle : ltB ys tl = true := by rw [Hlti.out]; have := HP.out; exact posC_lt (tl, c) cs i (by omega)
          have HO := Lib.hid ho
          have HL := Lib.hid hle
          clear ho hle
          go_wp2_with fail
          refine (l1Less_any _ _ ys tl _ HiW.out Hix.out).mono ?_
          rintro e wq ⟨rfl, q, rfl⟩
          rw [HL.out]
          go_wp2_with fail
          obtain ⟨W9, hW9⟩ : ∃ W, W = wx.drewN q := ⟨_, rfl⟩
          rw [← hW9]
          have hq9 : Qt wx W9 := ⟨q, hW9⟩
          have cA9 := hq9.cell cA
          have cB9 := hq9.cell cB
          have HiW9 := Lib.hid (HiW.out.qt hq9)
          have G19 := Lib.hid (show OwnS W9 B1 W9.heap.size 40 2 (.slice po no ko) no (clF o fo) from by have := G1.out.below (hq9.below _); rw [← hq9.size] at this; exact this)
          have G29 := Lib.hid (show ∀ t, t < o.length → OwnI 3 W9 B0 W9.heap.size (fo t) (o.getD t clD).1 from fun t ht => by have := (G2.out t ht).below (hq9.below _); rw [← hq9.size] at this; exact this)
          have Hs09 := Lib.hid (show B1 ≤ W9.heap.size by rw [hq9.size]; exact Hs0.out)
          have HBW9 := Lib.hid (HBW.out.trans (hq9.below B1))
          have Hn19 := Hn1
          have Hn29 := Hn2
          clear hW9 hq9 cA cB
          go_region_law (first
            | (refine step_append_S rfl (.tmp 67) (.tmp 80) 34 rfl 40 _ 2 32 Tryz.underlying34 info_cls rfl (by omega) B1 W9.heap.size _ no (clF o fo) rfl (G19.out.below (Hbc2.out.trans ((below_alloc wc _).mono hsc))) (by rw [size_alloc]; have := Hs09.out; omega) _ _ (fun j => match j with | 0 => .slice pc2 ny kc2 | _ => .int .i64 ci) rfl (fun j hj => match j, hj with | 0, _ => cell_of_blk (heap_alloc_top wc _) (j := 0) rfl | 1, _ => cell_of_blk (heap_alloc_top wc _) (j := 1) rfl) (fun j hj => match j, hj with | 0, _ => rfl | 1, _ => rfl) Hn19.out Hn29.out ?_; intro v' w' hv hg; have Hv := Lib.hid hv; have Hg := Lib.hid hg; clear hv hg)
            | (refine (if_pos ?_).mpr ?_; rfl; go_simp; refine (l1Ints_any vi ys _ (HiW9.out.below (Below.of_drewN _ _)) (by have := Hyl.out; omega)).mono ?_; rintro e wc ⟨uc, rfl, hoc, hbc⟩; have hbc2 : Below W9.heap.size W9 wc := (Below.of_drewN W9 1).trans hbc; have hsc : W9.heap.size ≤ wc.heap.size := hbc2.size; obtain ⟨pc2, kc2, rfl, _, _⟩ := hoc.shape; have Hoc2 := Lib.hid (show OwnI 3 wc W9.heap.size wc.heap.size (.slice pc2 ys.length kc2) ys from hoc); have Hbc2 := Lib.hid hbc2; have c1c := cell_below hbc2 cA9; have c2c := cell_below hbc2 cB9; have c2d : ∀ q, (wc.alloc q).cell? ⟨bl, i * 2 + 1, none⟩ = some (.int .i64 ci) := fun q => cell_below (below_alloc wc q) c2c; rw [← Hyn.out] at Hoc2 ⊢; clear hoc hbc hbc2; dsimp only))
          all_goals go_wp2_with fail
          all_goals go_roundg (n - (i + 1))
          all_goals try omega
          all_goals
            have hal := below_alloc wc (.cells #[.slice pc2 ny kc2, .int .i64 ci] 40)
            have hx2 : OwnI 3 (wc.alloc (.cells #[.slice pc2 ny kc2, .int .i64 ci] 40)) B0 wc.heap.size (.slice pc2 ny kc2) ys := (Hoc2.out.below hal).mono (by have := Hs09.out; omega) (Nat.le_refl _)
            have hW2 : Below W9.heap.size W9 (wc.alloc (.cells #[.slice pc2 ny kc2, .int .i64 ci] 40)) := Hbc2.out.trans (hal.mono hsc)
            have hsn := OwnCe.snoc (m := (ys, ci)) Hno.out ((G19.out.below hW2).mono (Nat.le_refl B1) hsc) (fun t ht => ((G29.out t ht).below hW2).mono (Nat.le_refl B0) hsc) hx2 Hg.out (Nat.le_trans (by rw [size_alloc]; exact Nat.le_succ _) Hg.out.size) Hv.out
            have hgb : Below B1 (wc.alloc (.cells #[.slice pc2 ny kc2, .int .i64 ci] 40)) w' := grownBy_below Hg.out G19.out.blocks (Nat.le_refl _) (by rw [size_alloc]; have := Hs09.out; omega)
            have hall : Below B1 W9 w' := (hW2.mono (by have := Hs09.out; omega)).trans hgb
            refine ⟨i + 1, false, o ++ [(ys, ci)], by omega, rfl, by go_num, rfl, Lib.hid (HBW9.out.trans hall), Lib.hid (Nat.le_trans Hs09.out hall.size), Lib.hid hsn, Lib.hid ?_⟩
            exact .inl ⟨rfl, by omega, by rw [Hys.out, HO.out, take_snocC (by rw [← Hn.out]; exact hlt)]⟩
        · have hiP3 : i = P := by omega
          have hle : ltB ys tl = false := by rw [Hlti.out, hiP3]; have := HP.out; rw [this]; exact posC_at (tl, c) cs (by rw [← this, ← hiP3, ← Hn.out]; exact hlt)
          have hns : decide (ys = tl) = false := decide_eq_false fun e => Hne.out (cs.getD i clD) (by
            rw [List.getD_eq_getElem?_getD, List.getElem?_eq_getElem (by rw [← Hn.out]; exact hlt)]
            exact List.getElem_mem _) (by rw [← Hlti.out]; exact e)
          have HO := Lib.hid ho
          have HL := Lib.hid hle
          have HNS := Lib.hid hns
          have HiP3 := Lib.hid hiP3
          clear ho hle hns hiP3
          go_wp2_with fail
          refine (l1Less_any _ _ ys tl _ HiW.out Hix.out).mono ?_
          rintro e wq ⟨rfl, q, rfl⟩
          rw [HL.out]
          go_wp2_with fail
          refine (l1Same_any _ _ ys tl _ (HiW.out.qt ⟨q, rfl⟩) (Hix.out.qt ⟨q, rfl⟩)).mono ?_
          rintro e wq ⟨rfl, q2, rfl⟩
          rw [HNS.out]
          obtain ⟨W5, hW5⟩ : ∃ W, W = (wx.drewN q).drewN q2 := ⟨_, rfl⟩
          rw [← hW5]
          have hq5 : Qt wx W5 := ⟨q + q2, by rw [hW5, World.drewN_drewN]⟩
          have Hq5 := Lib.hid hq5
          have hs5 : W5.heap.size = wx.heap.size := hq5.size
          have G15 := Lib.hid (show OwnS (W5.alloc (.cells #[.slice pt nt kt, .int .i64 c] 40)) B1 wx.heap.size 40 2 (.slice po no ko) no (clF o fo) from (G1.out.below (hq5.below _)).below (below_alloc W5 _))
          have Hlo5 := Lib.hid (show B1 ≤ (W5.alloc (.cells #[.slice pt nt kt, .int .i64 c] 40)).heap.size by rw [size_alloc, hs5]; have := Hs0.out; omega)
          have Hcl5 := Lib.hid (show ∀ j, j < 2 → (W5.alloc (.cells #[.slice pt nt kt, .int .i64 c] 40)).cell? ⟨W5.heap.size, j, none⟩ = some (match j with | 0 => .slice pt nt kt | _ => .int .i64 c) from fun j hj =>
            match j, hj with
            | 0, _ => cell_of_blk (heap_alloc_top W5 _) (j := 0) rfl
            | 1, _ => cell_of_blk (heap_alloc_top W5 _) (j := 1) rfl)
          have Hone5 := Lib.hid (show ∀ j, j < 2 → (match j with | 0 => Value.slice pt nt kt | _ => .int .i64 c).oneCell' = true from fun j hj =>
            match j, hj with
            | 0, _ => rfl
            | 1, _ => rfl)
          have Hs5 := Lib.hid hs5
          clear hW5 hq5 cA cB hs5
          go_wp2_with (at_builtin; go_must (refine wpList_append_S rfl (.tmp 61) (.tmp 65) 34 rfl 40 _ 2 32 Tryz.underlying34 info_cls rfl (by omega) B1 wx.heap.size _ no (clF o fo) rfl G15.out Hlo5.out _ _ _ rfl Hcl5.out Hone5.out Hn1.out Hn2.out ?_; intro v2 w2 hv2 hg2))
          have hal5 := below_alloc W5 (.cells #[.slice pt nt kt, .int .i64 c] 40)
          have hx5 : OwnI 3 (W5.alloc (.cells #[.slice pt nt kt, .int .i64 c] 40)) B0 wx.heap.size (.slice pt nt kt) tl := by
            have h1 := Hot.out.below (w' := wx) (by rw [← HB1.out]; exact HBW.out)
            exact ((h1.below (Hq5.out.below _)).below hal5).mono (Nat.le_refl _) Hs0.out
          have ho2 := OwnCe.snoc (m := (tl, c)) Hno.out G15.out (fun t ht => ((G2.out t ht).below (Hq5.out.below _)).below hal5) hx5 hg2 (Nat.le_trans (by rw [size_alloc, Hs5.out]; exact Nat.le_succ _) hg2.size) hv2
          have hgb2 : Below B1 (W5.alloc (.cells #[.slice pt nt kt, .int .i64 c] 40)) w2 := grownBy_below hg2 G15.out.blocks (Nat.le_refl _) Hlo5.out
          have hall2 : Below B1 wx w2 := (Hq5.out.below B1).trans ((hal5.mono (by rw [Hs5.out]; exact Hs0.out)).trans hgb2)
          obtain ⟨fo2, g12, g22⟩ := ho2
          obtain ⟨no2, hno2⟩ : ∃ no2, no2 = (o ++ [(tl, c)]).length := ⟨_, rfl⟩
          have hno3 : no2 = no + 1 := by rw [hno2, List.length_append, ← Hno.out]; rfl
          rw [← hno2] at g12
          have Hno8 := Lib.hid hno2
          have hbw2 : Below w.heap.size w w2 := Hbw1.out.trans (hall2.mono (by have := HB0.out; omega))
          have cA8 := cell_below hbw2 Hd1.out
          have cB8 := cell_below hbw2 Hd2.out
          have HiW8 := Lib.hid (show Ints w2 vi ys from HiW0.out.below hbw2)
          have G18 := Lib.hid g12
          have G28 := Lib.hid g22
          have Hs08 := Lib.hid (show B1 ≤ w2.heap.size from Nat.le_trans Hs0.out hall2.size)
          have HBW8 := Lib.hid (HBW.out.trans hall2)
          have Hn18 := Lib.hid (show no2 + 1 ≤ maxLen by unfold maxLen; omega)
          have Hn28 := Lib.hid (show (no2 + 1) * 32 ≤ 140737488355328 by omega)
          clear hal5 hx5 hgb2 hall2 hbw2 g12 g22 hno2 hv2 hg2
          go_region_law (first
            | (refine step_append_S rfl (.tmp 67) (.tmp 80) 34 rfl 40 _ 2 32 Tryz.underlying34 info_cls rfl (by omega) B1 w2.heap.size _ no2 (clF (o ++ [(tl, c)]) fo2) rfl (G18.out.below (Hbc2.out.trans ((below_alloc wc _).mono hsc))) (by rw [size_alloc]; have := Hs08.out; omega) _ _ (fun j => match j with | 0 => .slice pc2 ny kc2 | _ => .int .i64 ci) rfl (fun j hj => match j, hj with | 0, _ => cell_of_blk (heap_alloc_top wc _) (j := 0) rfl | 1, _ => cell_of_blk (heap_alloc_top wc _) (j := 1) rfl) (fun j hj => match j, hj with | 0, _ => rfl | 1, _ => rfl) Hn18.out Hn28.out ?_; intro v' w' hv hg; have Hv := Lib.hid hv; have Hg := Lib.hid hg; clear hv hg)
            | (refine (if_pos ?_).mpr ?_; rfl; go_simp; refine (l1Ints_any vi ys _ (HiW8.out.below (Below.of_drewN _ _)) (by have := Hyl.out; omega)).mono ?_; rintro e wc ⟨uc, rfl, hoc, hbc⟩; have hbc2 : Below w2.heap.size w2 wc := (Below.of_drewN w2 1).trans hbc; have hsc : w2.heap.size ≤ wc.heap.size := hbc2.size; obtain ⟨pc2, kc2, rfl, _, _⟩ := hoc.shape; have Hoc2 := Lib.hid (show OwnI 3 wc w2.heap.size wc.heap.size (.slice pc2 ys.length kc2) ys from hoc); have Hbc2 := Lib.hid hbc2; have c1c := cell_below hbc2 cA8; have c2c := cell_below hbc2 cB8; have c2d : ∀ q, (wc.alloc q).cell? ⟨bl, i * 2 + 1, none⟩ = some (.int .i64 ci) := fun q => cell_below (below_alloc wc q) c2c; rw [← Hyn.out] at Hoc2 ⊢; clear hoc hbc hbc2; dsimp only))
          all_goals go_wp2_with fail
          all_goals go_roundg (n - (i + 1))
          all_goals try omega
          all_goals
            have hal := below_alloc wc (.cells #[.slice pc2 ny kc2, .int .i64 ci] 40)
            have hx2 : OwnI 3 (wc.alloc (.cells #[.slice pc2 ny kc2, .int .i64 ci] 40)) B0 wc.heap.size (.slice pc2 ny kc2) ys := (Hoc2.out.below hal).mono (by have := Hs08.out; omega) (Nat.le_refl _)
            have hW2 : Below w2.heap.size w2 (wc.alloc (.cells #[.slice pc2 ny kc2, .int .i64 ci] 40)) := Hbc2.out.trans (hal.mono hsc)
            have hsn := OwnCe.snoc (m := (ys, ci)) Hno8.out ((G18.out.below hW2).mono (Nat.le_refl B1) hsc) (fun t ht => ((G28.out t ht).below hW2).mono (Nat.le_refl B0) hsc) hx2 Hg.out (Nat.le_trans (by rw [size_alloc]; exact Nat.le_succ _) Hg.out.size) Hv.out
            have hgb : Below B1 (wc.alloc (.cells #[.slice pc2 ny kc2, .int .i64 ci] 40)) w' := grownBy_below Hg.out G18.out.blocks (Nat.le_refl _) (by rw [size_alloc]; have := Hs08.out; omega)
            have hall : Below B1 w2 w' := (hW2.mono (by have := Hs08.out; omega)).trans hgb
            refine ⟨i + 1, true, (o ++ [(tl, c)]) ++ [(ys, ci)], by omega, rfl, by go_num, rfl, Lib.hid (HBW8.out.trans hall), Lib.hid (Nat.le_trans Hs08.out hall.size), Lib.hid hsn, Lib.hid ?_⟩
            exact .inr ⟨rfl, by have := HiP3.out; omega, by rw [Hys.out, HO.out, insC_take (by have := HP.out; have := HiP3.out; omega) (by rw [← Hn.out]; exact hlt)]; congr 1; rw [HiP3.out, HP.out]; exact (insC_take0 (tl, c) cs).symm⟩
      · have HO := Lib.hid ho
        clear ho
        go_wp2_with fail
        go_region_law (first
          | (refine step_append_S rfl (.tmp 67) (.tmp 80) 34 rfl 40 _ 2 32 Tryz.underlying34 info_cls rfl (by omega) B1 wx.heap.size _ no (clF o fo) rfl (G1.out.below (Hbc2.out.trans ((below_alloc wc _).mono hsc))) (by rw [size_alloc]; have := Hs0.out; omega) _ _ (fun j => match j with | 0 => .slice pc2 ny kc2 | _ => .int .i64 ci) rfl (fun j hj => match j, hj with | 0, _ => cell_of_blk (heap_alloc_top wc _) (j := 0) rfl | 1, _ => cell_of_blk (heap_alloc_top wc _) (j := 1) rfl) (fun j hj => match j, hj with | 0, _ => rfl | 1, _ => rfl) Hn1.out Hn2.out ?_; intro v' w' hv hg; have Hv := Lib.hid hv; have Hg := Lib.hid hg; clear hv hg)
          | (refine (if_pos ?_).mpr ?_; rfl; go_simp; refine (l1Ints_any vi ys _ (HiW.out.below (Below.of_drewN _ _)) (by have := Hyl.out; omega)).mono ?_; rintro e wc ⟨uc, rfl, hoc, hbc⟩; have hbc2 : Below wx.heap.size wx wc := (Below.of_drewN wx 1).trans hbc; have hsc : wx.heap.size ≤ wc.heap.size := hbc2.size; obtain ⟨pc2, kc2, rfl, _, _⟩ := hoc.shape; have Hoc2 := Lib.hid (show OwnI 3 wc wx.heap.size wc.heap.size (.slice pc2 ys.length kc2) ys from hoc); have Hbc2 := Lib.hid hbc2; have c1c := cell_below hbc2 cA; have c2c := cell_below hbc2 cB; have c2d : ∀ q, (wc.alloc q).cell? ⟨bl, i * 2 + 1, none⟩ = some (.int .i64 ci) := fun q => cell_below (below_alloc wc q) c2c; rw [← Hyn.out] at Hoc2 ⊢; clear hoc hbc hbc2; dsimp only))
        all_goals go_wp2_with fail
        all_goals go_roundg (n - (i + 1))
        all_goals try omega
        all_goals
          have hal := below_alloc wc (.cells #[.slice pc2 ny kc2, .int .i64 ci] 40)
          have hx2 : OwnI 3 (wc.alloc (.cells #[.slice pc2 ny kc2, .int .i64 ci] 40)) B0 wc.heap.size (.slice pc2 ny kc2) ys := (Hoc2.out.below hal).mono (by have := Hs0.out; omega) (Nat.le_refl _)
          have hW2 : Below wx.heap.size wx (wc.alloc (.cells #[.slice pc2 ny kc2, .int .i64 ci] 40)) := Hbc2.out.trans (hal.mono hsc)
          have hsn := OwnCe.snoc (m := (ys, ci)) Hno.out ((G1.out.below hW2).mono (Nat.le_refl B1) hsc) (fun t ht => ((G2.out t ht).below hW2).mono (Nat.le_refl B0) hsc) hx2 Hg.out (Nat.le_trans (by rw [size_alloc]; exact Nat.le_succ _) Hg.out.size) Hv.out
          have hgb : Below B1 (wc.alloc (.cells #[.slice pc2 ny kc2, .int .i64 ci] 40)) w' := grownBy_below Hg.out G1.out.blocks (Nat.le_refl _) (by rw [size_alloc]; have := Hs0.out; omega)
          have hall : Below B1 wx w' := (hW2.mono (by have := Hs0.out; omega)).trans hgb
          refine ⟨i + 1, true, o ++ [(ys, ci)], by omega, rfl, by go_num, rfl, Lib.hid (HBW.out.trans hall), Lib.hid (Nat.le_trans Hs0.out hall.size), Lib.hid hsn, Lib.hid ?_⟩
          exact .inr ⟨rfl, by omega, by rw [Hys.out, HO.out, insC_take (by have := HP.out; omega) (by rw [← Hn.out]; exact hlt)]⟩
    · obtain rfl : i = n := by omega
      have hlt2 : ¬ (i : Int) < (i : Int) := by omega
      rcases Hbo.out with ⟨rfl, hiP, ho⟩ | ⟨rfl, hiP, ho⟩
      · have HO := Lib.hid ho
        have hPi : P = i := by omega
        have HPi := Lib.hid hPi
        have Hn1 := Lib.hid (show no + 1 ≤ maxLen by unfold maxLen; omega)
        have Hn2 := Lib.hid (show (no + 1) * 32 ≤ 140737488355328 by omega)
        have G15 := Lib.hid (show OwnS (wx.alloc (.cells #[.slice pt nt kt, .int .i64 c] 40)) B1 wx.heap.size 40 2 (.slice po no ko) no (clF o fo) from G1.out.below (below_alloc wx _))
        have Hlo5 := Lib.hid (show B1 ≤ (wx.alloc (.cells #[.slice pt nt kt, .int .i64 c] 40)).heap.size by rw [size_alloc]; have := Hs0.out; omega)
        have Hcl5 := Lib.hid (show ∀ j, j < 2 → (wx.alloc (.cells #[.slice pt nt kt, .int .i64 c] 40)).cell? ⟨wx.heap.size, j, none⟩ = some (match j with | 0 => .slice pt nt kt | _ => .int .i64 c) from fun j hj =>
          match j, hj with
          | 0, _ => cell_of_blk (heap_alloc_top wx _) (j := 0) rfl
          | 1, _ => cell_of_blk (heap_alloc_top wx _) (j := 1) rfl)
        have Hone5 := Lib.hid (show ∀ j, j < 2 → (match j with | 0 => Value.slice pt nt kt | _ => .int .i64 c).oneCell' = true from fun j hj =>
          match j, hj with
          | 0, _ => rfl
          | 1, _ => rfl)
        clear ho hPi
        go_wp2_with (at_builtin; go_must (refine wpList_append_S rfl (.tmp 84) (.tmp 88) 34 rfl 40 _ 2 32 Tryz.underlying34 info_cls rfl (by omega) B1 wx.heap.size _ no (clF o fo) rfl G15.out Hlo5.out _ _ _ rfl Hcl5.out Hone5.out Hn1.out Hn2.out ?_; intro v2 w2 hv2 hg2))
        go_ret
        have hal5 := below_alloc wx (.cells #[.slice pt nt kt, .int .i64 c] 40)
        have hx5 : OwnI 3 (wx.alloc (.cells #[.slice pt nt kt, .int .i64 c] 40)) B0 wx.heap.size (.slice pt nt kt) tl := by
          have h1 := Hot.out.below (w' := wx) (by rw [← HB1.out]; exact HBW.out)
          exact (h1.below hal5).mono (Nat.le_refl _) Hs0.out
        have ho2 := OwnCe.snoc (m := (tl, c)) Hno.out G15.out (fun t ht => (G2.out t ht).below hal5) hx5 hg2 (Nat.le_trans (by rw [size_alloc]; exact Nat.le_succ _) hg2.size) hv2
        have hgb2 : Below B1 (wx.alloc (.cells #[.slice pt nt kt, .int .i64 c] 40)) w2 := grownBy_below hg2 G15.out.blocks (Nat.le_refl _) Hlo5.out
        have hall2 : Below B1 wx w2 := (hal5.mono Hs0.out).trans hgb2
        have he : o ++ [(tl, c)] = insC (tl, c) cs := by
          rw [HO.out, ← HPi.out, HP.out, ← insC_take0, List.take_of_length_le]
          rw [(insC_perm (tl, c) cs).length_eq, ← HP.out, HPi.out, Hn.out]
          exact Nat.le_refl _
        rw [he] at ho2
        refine ⟨_, rfl, ?_, Hbw1.out.trans (hall2.mono (by have := HB0.out; omega))⟩
        rw [← HB0.out]
        exact ho2.cl hsz1
      · have HO := Lib.hid ho
        clear ho
        go_wp2_with fail
        go_ret
        have he : o = insC (tl, c) cs := by
          rw [HO.out, List.take_of_length_le]
          rw [(insC_perm (tl, c) cs).length_eq, Hn.out]
          exact Nat.le_refl _
        have ho2 : OwnCe wx B1 B0 wx.heap.size (.slice po no ko) o := ⟨fo, by have := G1.out; rw [Hno.out] at this ⊢; exact this, G2.out⟩
        rw [he] at ho2
        refine ⟨_, rfl, ?_, Hbw1.out⟩
        rw [← HB0.out]
        exact ho2.cl hsz1

end Go.Proofs.YtlbflckoodjokaaGreat

namespace Go.Proofs.YtlbflckoodjokaaGreat
set_option linter.all false
open Go.RowKit

theorem plA_le {xs : List Int} (h : xs.length ≤ 4) : ∀ i, plA xs i + 1 ≤ 5 ^ i
  | 0 => by simp [plA]
  | i + 1 => by
    have a := plA_le h i
    have b : cdA xs i ≤ 3 := by unfold cdA; have := cdK_le xs i (xs.length - (i + 1)); omega
    have c : plA xs i * (xs.length - i) ≤ plA xs i * 4 := Nat.mul_le_mul_left _ (by omega)
    rw [plA, Nat.pow_succ]
    omega
theorem plA_small {xs : List Int} (h : xs.length ≤ 4) : ∀ i, i ≤ xs.length → plA xs i ≤ 1000000 := fun i hi => by
  have a := plA_le h i
  have b : 5 ^ i ≤ 5 ^ 4 := Nat.pow_le_pow_right (by omega) (by omega)
  omega

end Go.Proofs.YtlbflckoodjokaaGreat

namespace Go.Proofs.YtlbflckoodjokaaGreat
set_option linter.all false
set_option maxRecDepth 100000
open Go.RowKit

/-- a call returned these classes in new memory, and this bool -/
def RetCS (w : World) (r : List Cls × Bool) (e : Ending) (w' : World) : Prop :=
  ∃ u, e = .returned (.tuple #[u, .bool r.2]) ∧ OwnCl w' w.heap.size w'.heap.size u r.1 ∧ Below w.heap.size w w'
theorem OwnCl.frm {w w' : World} {lo hi lo' hi' : Nat} {v : Value} {cs : List Cls} (h : OwnCl w lo hi v cs) (hb : Frm lo' hi' w w') (ho : hi ≤ lo' ∨ hi' ≤ lo) : OwnCl w' lo hi v cs := by
  obtain ⟨g, h1, h2⟩ := h
  exact ⟨g, h1.frm hb ho, fun i hi => (h2 i hi).frm hb ho⟩
theorem ownCl_nil (w : World) (lo hi : Nat) : OwnCl w lo hi (.slice none 0 0) [] := ⟨fun _ => undef, OwnS.nil _ _ _ _ _ _, fun i hi => absurd hi (Nat.not_lt_zero _)⟩

theorem l1In_c (a b c : Int) (w : World) (r : Bool) (h : decide (b ≤ a ∧ a ≤ c) = r) : Calls Tryz.prog 28 #[.int .i64 a, .int .i64 b, .int .i64 c] w fun e w' => e = .returned (.bool r) ∧ w = w' := h ▸ l1In_any a b c w

set_option maxHeartbeats 16000000 in
theorem l8Expand_any (n : Nat) (v u : Value) (vs ys : List Int) (w : World) (hv : Ints w v vs) (hy : Ints w u ys) (YO : YOk n ys) (hr0 : RestOk n 0 vs) :
    Calls Tryz.prog 35 #[.int .i64 (n : Int), v, u] w (RetCS w (expE n vs ys (ordL n))) := by
  have OI := ordIs YO.one YO.four
  obtain ⟨F, hF⟩ : ∃ F, F = fact n := ⟨_, rfl⟩
  have hf := fact4 YO.one (show n ≤ 5 by have := YO.four; omega)
  rw [← hF] at hf
  have hf24 : F ≤ 24 := by
    have h1 := YO.one
    have h2 := YO.four
    have : n = 1 ∨ n = 2 ∨ n = 3 ∨ n = 4 := by omega
    rw [hF]
    rcases this with rfl | rfl | rfl | rfl <;> decide
  have HF := Lib.hid hF
  have HYO := Lib.hid YO
  have HOI := Lib.hid OI
  have hvl := hr0.1
  have Hvl := Lib.hid hvl
  have Hr0 := Lib.hid hr0
  have HV := Lib.hid hv
  have HY := Lib.hid hy
  have hn1 := YO.one
  have hn4 := YO.four
  obtain ⟨Q, hQ⟩ : ∃ Q : Nat, Q = n * (n - 1) := ⟨_, rfl⟩
  obtain ⟨L, hL⟩ : ∃ L : Nat, L = n * (n - 1) / 2 := ⟨_, rfl⟩
  have hQ12 : Q ≤ 12 := by
    rw [hQ]
    have := Nat.mul_le_mul hn4 (show n - 1 ≤ 3 by omega)
    omega
  have hLQ : L = Q / 2 := by rw [hL, hQ]
  have hL6 : L ≤ 6 := by omega
  have hqz : (n : Int) * ((n : Int) - 1) = (Q : Int) := by
    rw [hQ, Int.natCast_mul, Int.natCast_sub hn1]; rfl
  have hlz : (Q : Int).tdiv 2 = (L : Int) := by rw [hLQ]; rw [Int.tdiv_eq_ediv_of_nonneg (by omega)]; omega
  have hlz2 : (Q : Int) / 2 = (L : Int) := by omega
  have HL := Lib.hid hL
  obtain ⟨pv, kv, rfl, ⟨hv1, hv2⟩, hvx⟩ := hv
  obtain ⟨py, ky, rfl, ⟨hy1, hy2⟩, hyx⟩ := hy
  clear hvx hyx
  unfold maxLen at hv2 hy2
  rw [hvl, ← hF] at HV hv1 ⊢
  rw [YO.len] at HY hy1 ⊢
  clear YO OI hvl hr0 hF hQ hL hLQ
  obtain ⟨B0, hB0⟩ : ∃ B, B = w.heap.size := ⟨_, rfl⟩
  have HB0 := Lib.hid hB0
  clear hB0
  go_enter Tryz.func35, Tryz.ntmps35
  go_wp2_with fail
  refine (specPerms_any n hn1 (by omega) _).mono ?_
  rintro e w1 ⟨u1, rfl, ho1, hb1⟩
  have hRl : (permsL n).length = F := by rw [permsL_length, HF.out]
  have hrd1 := ho1.rd
  obtain ⟨p1, k1, rfl, hk1, hk12⟩ := ho1.shape
  unfold maxLen at hk12
  rw [hRl] at hk1 hrd1 ⊢
  obtain ⟨fr, ⟨pp, cc, epp, _, hxc⟩, hfr⟩ := hrd1
  rw [hRl] at epp hxc hfr
  injection epp with e1 e2 e3
  subst e1
  obtain ⟨gb, ob, rfl, hcr⟩ := hxc (by omega)
  obtain ⟨A1, hA1⟩ : ∃ A, A = w1.heap.size := ⟨_, rfl⟩
  have hs1 := hb1.size
  rw [← hA1] at hs1
  have HA1 := Lib.hid hA1
  have Hcr := Lib.hid hcr
  have Hfr := Lib.hid (show ∀ x, x < F → Ints w1 (fr x) (pmA n x) from hfr)
  have HV1 := Lib.hid (HV.out.below hb1)
  have HY1 := Lib.hid (HY.out.below hb1)
  have Hb1 := Lib.hid hb1
  have HRl := Lib.hid hRl
  clear hxc hfr hcr e3 ho1 hb1 hA1 HV HY hRl
  go_wp2_with fail
  refine (l1Ints_any _ vs _ HV1.out (by rw [Hvl.out, ← HF.out]; omega)).mono ?_
  rintro e w6 ⟨u6, rfl, ho6, hb6⟩
  rw [← HA1.out] at ho6 hb6
  obtain ⟨A6, hA6⟩ : ∃ A, A = w6.heap.size := ⟨_, rfl⟩
  have hs6 := hb6.size
  rw [← hA6] at ho6 hs6
  rw [← HA1.out] at hs6
  obtain ⟨p6, k6, rfl, hk6, hk66⟩ := ho6.shape
  unfold maxLen at hk66
  rw [Hvl.out, ← HF.out] at hk6 ho6 ⊢
  have HA6 := Lib.hid hA6
  obtain ⟨g6, rfl, hg61, hg62, _⟩ := (show OwnF w6 A1 A6 3 (.slice p6 F k6) F (iv vs) from by have := ho6.fn; rw [Hvl.out, ← HF.out] at this; exact this).at_ (by omega)
  have Ho6 := Lib.hid ho6
  have Hb6 := Lib.hid hb6
  clear hA6 ho6 hb6
  go_wp2_with fail
  go_loopg [10, 11, 12, 13, 14, 15] (L + 1) (fun g s10 s11 s12 s13 s14 s15 wr => ∃ (s : Nat) (rest : List Int) (outs : List Cls) (done : List Nat), s ≤ L + 1 ∧ g = L + 1 - s ∧ s11 = .int .i64 (s : Int) ∧ Hid (Below A1 w1 wr) ∧ Hid (A6 ≤ wr.heap.size) ∧
    Hid (OwnI 3 wr A1 A6 (.slice (some ⟨g6, 0, none⟩) F k6) rest) ∧ Hid (OwnCl wr A6 wr.heap.size s10 (srtC outs)) ∧ Hid (RestOk n (s * F) rest) ∧ Hid (OutOk n done outs) ∧ Hid (done ++ rowsS n s = ordL n) ∧ Hid (exGo n ys (rowsS n s) rest outs = exGo n ys (ordL n) vs []))
  case atStart =>
    refine ⟨0, vs, [], [], Nat.zero_le _, rfl, rfl, Lib.hid ?_, Lib.hid ?_, Lib.hid ?_, Lib.hid ?_, Lib.hid ?_, Lib.hid ?_, Lib.hid ?_, Lib.hid ?_⟩
    · exact Hb6.out.trans ((below_alloc w6 _).mono (by rw [← HA6.out]; omega))
    · rw [size_alloc, ← HA6.out]; omega
    · exact Ho6.out.below (below_alloc w6 _)
    · have := (OwnCd.made0 w6).cl
      rw [← HA6.out] at this ⊢
      exact this.mono (Nat.le_refl _) (by rw [size_alloc, ← HA6.out]; omega)
    · rw [Nat.zero_mul]; exact Hr0.out
    · exact List.Sublist.refl _
    · rw [rowsS_zero]; rfl
    · rw [rowsS_zero]
  case round =>
    obtain ⟨s, rest, outs, done, hs, rfl, rfl, hb, hsz, ho, hoc, hr, hot, hdn, hgo⟩ := hrel
    obtain ⟨wx, rfl⟩ : ∃ x : World, x = wr := ⟨_, rfl⟩
    have Hb := Lib.hid hb.out
    have Hsz := Lib.hid hsz.out
    have Ho := Lib.hid ho.out
    have Hoc := Lib.hid hoc.out
    have Hr := Lib.hid hr.out
    have Hot := Lib.hid hot.out
    have Hdn := Lib.hid hdn.out
    have Hgo := Lib.hid hgo.out
    obtain ⟨pc, kc, rfl, hkc, hkcm⟩ := hoc.out.shape
    clear hb hsz ho hoc hr hot hdn hgo
    unfold maxLen at hkcm
    obtain ⟨no, hno⟩ : ∃ no, no = (srtC outs).length := ⟨_, rfl⟩
    have Hno := Lib.hid hno
    rw [← hno] at hkc Hoc ⊢
    clear hno
    by_cases hsL : s ≤ L
    · have hsLi : (s : Int) ≤ (L : Int) := by omega
      go_wp2_with fail
      go_loopg [10, 12, 13, 14, 15] F (fun g s10 s12 s13 s14 s15 wr => ∃ (x : Nat) (rs : List Int) (os : List Cls) (dn : List Nat), x ≤ F ∧ g = F - x ∧ s12 = .int .i64 (x : Int) ∧ Hid (Below A1 w1 wr) ∧ Hid (A6 ≤ wr.heap.size) ∧
        Hid (OwnI 3 wr A1 A6 (.slice (some ⟨g6, 0, none⟩) F k6) rs) ∧ Hid (OwnCl wr A6 wr.heap.size s10 (srtC os)) ∧ Hid (RestOk n (s * F + x) rs) ∧ Hid (OutOk n dn os) ∧ Hid (dn ++ (rowS n s x ++ rowsS n (s + 1)) = ordL n) ∧
        Hid (exGo n ys (rowS n s x ++ rowsS n (s + 1)) rs os = exGo n ys (ordL n) vs []))
      case atStart =>
        have hsu := rowsS_succ (n := n) (s := s) (by rw [← HL.out]; exact hsL)
        exact ⟨0, rest, outs, done, Nat.zero_le _, rfl, rfl, Hb, Hsz, Ho, Hoc, Hr, Hot, Lib.hid (by rw [← hsu]; exact Hdn.out), Lib.hid (by rw [← hsu]; exact Hgo.out)⟩
      case round =>
        clear Hb Hsz Ho Hoc Hr Hot Hdn Hgo Hno hkc hkcm
        obtain ⟨x, rs, os, dn, hx, rfl, rfl, hb, hsz, ho, hoc, hr, hot, hdn, hgo⟩ := hrel
        obtain ⟨wy, rfl⟩ : ∃ x : World, x = wr := ⟨_, rfl⟩
        have Hb := Lib.hid hb.out
        have Hsz := Lib.hid hsz.out
        have Ho := Lib.hid ho.out
        have Hoc := Lib.hid hoc.out
        have Hr := Lib.hid hr.out
        have Hot := Lib.hid hot.out
        have Hdn := Lib.hid hdn.out
        have Hgo := Lib.hid hgo.out
        obtain ⟨pd, kd, rfl, hkd, hkdm⟩ := hoc.out.shape
        clear hb hsz ho hoc hr hot hdn hgo
        unfold maxLen at hkdm
        obtain ⟨nd, hnd⟩ : ∃ nd, nd = (srtC os).length := ⟨_, rfl⟩
        have Hnd := Lib.hid hnd
        rw [← hnd] at hkd Hoc ⊢
        clear hnd
        have hA1y : A1 ≤ wy.heap.size := by have := Hsz.out; omega
        by_cases hxF : x < F
        · have hxi : (x : Int) < (F : Int) := by omega
          have hbx : Below w1.heap.size w1 wy := by rw [← HA1.out]; exact Hb.out
          obtain ⟨vx, hvx⟩ : ∃ z, z = fr x := ⟨_, rfl⟩
          have cr := cell_below hbx (Hcr.out x hxF)
          rw [← hvx] at cr
          have Hvx := Lib.hid hvx
          have Hbx := Lib.hid hbx
          have hxn : x < fact n := by rw [← HF.out]; exact hxF
          have Hxn := Lib.hid hxn
          have Hp5 := Lib.hid (pm_p5 HYO.out hxn)
          have Hl := Lib.hid (l1Length_any vx (pmA n x) wy (by rw [hvx]; exact (Hfr.out x hxF).below hbx) (by have := (pm_p5 HYO.out hxn).len; omega))
          obtain ⟨lx, hlx⟩ : ∃ lx, lx = lenS n x := ⟨_, rfl⟩
          have Hlx := Lib.hid hlx
          have hl' : lnN (pmA n x) = lx := hlx.symm
          rw [hl'] at Hl
          have hrl : rs.length = F := by rw [Hr.out.1, HF.out]
          clear hvx hbx hxn hlx hl'
          go_wp2_with fail
          refine Hl.out.mono ?_
          rintro e w7 ⟨rfl, hb7⟩
          have Hb7 := Lib.hid hb7
          have hs7 := hb7.size
          have h6 : OwnF w7 A1 A6 3 (.slice (some ⟨g6, 0, none⟩) F k6) F (iv rs) := by
            have := (Ho.out.below hb7).fn
            rw [hrl] at this
            exact this
          have Hrl := Lib.hid hrl
          have H67 := Lib.hid h6
          have HbA := Lib.hid (show Below A1 w1 w7 from Hb.out.trans (hb7.mono hA1y))
          have cr7 : w7.cell? ⟨gb, ob + x, none⟩ = some vx := cell_below hb7 cr
          obtain ⟨R, hR⟩ : ∃ R, R = rs.getD x 0 := ⟨_, rfl⟩
          have c6 : w7.cell? ⟨g6, x, none⟩ = some (.int .i64 R) := by rw [h6.cell hxF, hR]; rfl
          have HR := Lib.hid hR
          clear hb7 hrl h6 hR cr Hl
          have hnext : ∀ W, Below wy.heap.size wy W → rowS n s x = rowS n s (x + 1) ∨ (rowS n s x = x :: rowS n s (x + 1) ∧ R = 0) →
              ∃ (x_1 : Nat) (rs : List Int) (os : List Cls) (dn : List Nat), x_1 ≤ F ∧ F - (x + 1) = F - x_1 ∧ Value.int .i64 ((x : Int) + 1) = .int .i64 (x_1 : Int) ∧ Hid (Below A1 w1 W) ∧ Hid (A6 ≤ W.heap.size) ∧
        Hid (OwnI 3 W A1 A6 (.slice (some ⟨g6, 0, none⟩) F k6) rs) ∧ Hid (OwnCl W A6 W.heap.size (.slice pd nd kd) (srtC os)) ∧ Hid (RestOk n (s * F + x_1) rs) ∧ Hid (OutOk n dn os) ∧ Hid (dn ++ (rowS n s x_1 ++ rowsS n (s + 1)) = ordL n) ∧
        Hid (exGo n ys (rowS n s x_1 ++ rowsS n (s + 1)) rs os = exGo n ys (ordL n) vs []) := by
            intro W hW hc
            refine ⟨x + 1, rs, os, if rowS n s x = rowS n s (x + 1) then dn else dn ++ [x], by omega, rfl, by go_num, Lib.hid (Hb.out.trans (hW.mono hA1y)), Lib.hid (Nat.le_trans Hsz.out hW.size), Lib.hid (Ho.out.below hW), Lib.hid ((Hoc.out.below hW).mono (Nat.le_refl _) hW.size), Lib.hid Hr.out.mono, Lib.hid ?_, Lib.hid ?_, Lib.hid ?_⟩
            · split
              · exact Hot.out
              · exact Hot.out.skip x
            · rcases hc with h | ⟨h, _⟩
              · rw [if_pos h, ← h]; exact Hdn.out
              · rw [if_neg (by rw [h]; exact fun e => by have := congrArg List.length e; simp at this), ← Hdn.out, h]; simp
            · rcases hc with h | ⟨h, h0⟩
              · rw [← h]; exact Hgo.out
              · rw [← Hgo.out, h, List.cons_append, exGo]
                have hq : qoA n ys rs x = 0 := by unfold qoA; rw [← HR.out, h0]; exact Int.zero_tdiv _
                rw [if_neg (by unfold badA; rw [hq, ← HR.out, h0]; omega), if_pos hq]
          have Hnext := Lib.hid hnext
          clear hnext
          by_cases el : lx = s
          · have d0 : ((lx : Int) != (s : Int)) = false := by simp [el]
            have Hel := Lib.hid (show rowS n s x = x :: rowS n s (x + 1) from rowS_in Hxn.out (by rw [← Hlx.out]; exact el))
            by_cases eR : R = 0
            · have d1 : (R == 0) = true := by simp [eR]
              have HeR := Lib.hid eR
              clear eR el
              go_wp2_with fail
              go_roundg (F - (x + 1))
              case measure => omega
              case rel => exact Hnext.out _ Hb7.out (.inr ⟨Hel.out, HeR.out⟩)
            · have d1 : (R == 0) = false := by simp [eR]
              have HeR := Lib.hid eR
              clear eR el
              go_wp2_with fail
              have hb17 : Below w1.heap.size w1 w7 := by rw [← HA1.out]; exact HbA.out
              refine (l8Table_any n (pmA n x) ys vx (.slice py n ky) w7 Hp5.out hn1 HYO.out.len HYO.out.nine (by rw [Hvx.out]; exact (Hfr.out x hxF).below hb17) (by exact HY1.out.below hb17)).mono ?_
              rintro e w8 ⟨u8, rfl, ho8, hb8⟩
              have hl8 : (tabL (pmA n x) ys).length = F := by rw [HF.out]; exact tb_length HYO.out Hxn.out
              have h8 := ho8.fn
              obtain ⟨p8, k8, rfl, hk8, hk88⟩ := ho8.shape
              unfold maxLen at hk88
              rw [hl8] at h8 hk8 ⊢
              obtain ⟨g8, rfl, hg81, hg82, hg83⟩ := h8.at_ (by omega)
              have h6 : OwnF w8 A1 A6 3 (.slice (some ⟨g6, 0, none⟩) F k6) F (iv rs) := H67.out.below hb8
              obtain ⟨T, hT⟩ : ∃ T, T = (tbA n ys x).getD x 0 := ⟨_, rfl⟩
              obtain ⟨C, hC⟩ : ∃ C, C = qoA n ys rs x := ⟨_, rfl⟩
              have c8 : w8.cell? ⟨g8, x, none⟩ = some (.int .i64 T) := by rw [h8.cell hxF, hT]; rfl
              have c68 : w8.cell? ⟨g6, x, none⟩ = some (.int .i64 R) := cell_below hb8 c6
              have cr8 : w8.cell? ⟨gb, ob + x, none⟩ = some vx := cell_below hb8 cr7
              have hT0 : ¬ T = 0 := by rw [hT]; exact tb_ne HYO.out Hxn.out
              have hRb : R.natAbs ≤ 1000000000000 + (s * F + x) * 1000000000000000 := by rw [HR.out]; exact Hr.out.2 x Hxn.out
              have hsF : s * F ≤ 6 * 24 := Nat.mul_le_mul (by omega) hf24
              have hR17 : R.natAbs ≤ 200000000000000000 := by
                have : (s * F + x) * 1000000000000000 ≤ 168 * 1000000000000000 := Nat.mul_le_mul_right _ (by omega)
                omega
              have hCd : C = R.tdiv T := by rw [hC, HR.out, hT]; rfl
              have hCa : C.natAbs ≤ R.natAbs := by rw [hCd]; exact tdiv_abs _ _
              have hbad : badA n ys rs x ↔ (C * T ≠ R ∨ C < -1000000000 ∨ 1000000000 < C) := by unfold badA; rw [← hC, ← hT, ← HR.out]
              have hmod : C * T = R ↔ R.tmod T = 0 := by rw [hCd]; exact qo_mod
              obtain ⟨M, hM⟩ : ∃ M, R.tmod T = M := ⟨_, rfl⟩
              have hMa : M.natAbs ≤ R.natAbs := by rw [← hM, Int.natAbs_tmod]; exact Nat.mod_le _ _
              have hwM : IntKind.i64.wrap M = M := by rw [IntKind.wrap_i64]; omega
              have hwq : IntKind.i64.wrap (R.tdiv T) = C := by rw [← hCd, IntKind.wrap_i64]; omega
              have hC0 : C = 0 → C * T = R → False := fun e e2 => HeR.out (by rw [← e2, e, Int.zero_mul])
              have hbw8 : Below w.heap.size w w8 := Hb1.out.trans ((HbA.out.mono hs1).trans (hb8.mono (by have := HbA.out.size; have := HA1.out; omega)))
              have hnone : badA n ys rs x → expE n vs ys (ordL n) = ([], false) := fun hb => by
                unfold expE
                rw [← Hgo.out, Hel.out, List.cons_append, exGo, if_pos hb]; rfl
              have HC := Lib.hid hC
              have HT := Lib.hid hT
              have Hbad := Lib.hid hbad
              have Hmod := Lib.hid hmod
              have H8 := Lib.hid h8
              have H6 := Lib.hid h6
              have Hb8 := Lib.hid hb8
              have Hbw8 := Lib.hid hbw8
              have Hnone := Lib.hid hnone
              have Hwq := Lib.hid hwq
              have HC0 := Lib.hid hC0
              have HR17 := Lib.hid hR17
              have HM := Lib.hid hM
              have hrw : ∀ W, Below w8.heap.size w8 W → OwnF W A1 A6 3 (.slice (some ⟨g6, 0, none⟩) F k6) F (iv rs) := fun W hW => H6.out.below hW
              have Hrw := Lib.hid hrw
              clear hC hT hbad hmod h8 h6 hb8 hbw8 hnone ho8 hl8 hCd hCa hR17 hRb hsF hMa hwq hC0 hb17 hrw hM
              have hM := HM.out
              have hmw : IntKind.i64.wrap (R.tmod T) = M := by rw [hM]; exact hwM
              by_cases eM : M = 0
              · have d2 : (M != 0) = false := by simp [eM]
                have HeM := Lib.hid eM
                clear eM
                go_wp2_with fail
                go_quiet (fail)
                obtain ⟨q1, rfl⟩ : ∃ q : Nat, q = nq := ⟨_, rfl⟩
                have hwq := Hwq.out
                clear hM hwM hmw
                go_wp2_with fail
                go_quiet (fail)
                obtain ⟨q2, rfl⟩ : ∃ q : Nat, q = nq := ⟨_, rfl⟩
                go_wp2_with fail
                obtain ⟨W9, hW9⟩ : ∃ W, W = w8.drewN (q1 + q2) := ⟨_, rfl⟩
                rw [← hW9]
                have Hq9 := Lib.hid (show Qt w8 W9 from ⟨_, hW9⟩)
                clear hW9
                have hCT : C * T = R := Hmod.out.2 (by rw [HM.out]; exact HeM.out)
                have HCT := Lib.hid hCT
                clear hCT
                by_cases eC : (-1000000000 ≤ C ∧ C ≤ 1000000000)
                · refine (l1In_c C (-1000000000) 1000000000 W9 true (decide_eq_true eC)).mono ?_
                  rintro e w' ⟨rfl, rfl⟩
                  have hnb : ¬ badA n ys rs x := fun hb => by
                    rcases Hbad.out.1 hb with h | h | h
                    · exact h HCT.out
                    · omega
                    · omega
                  have Hnb := Lib.hid hnb
                  have HeC := Lib.hid eC
                  have Hc0 := Lib.hid (show ¬ C = 0 from fun e => HC0.out e HCT.out)
                  have h6' : OwnF W9 A1 A6 3 (.slice (some ⟨g6, 0, none⟩) F k6) F (iv rs) := H6.out.below (Hq9.out.below _)
                  have Hc8 := Lib.hid (show ∀ j, j < F → W9.cell? ⟨g8, j, none⟩ = some (.int .i64 ((tbA n ys x).getD j 0)) from fun j hj => Hq9.out.cell (H8.out.cell hj))
                  have hg8s : g8 < W9.heap.size := by rw [Hq9.out.size]; exact hg83
                  have hg8o : A6 ≤ g8 := Nat.le_trans (Nat.le_trans Hsz.out hs7) hg81
                  have H6' := Lib.hid h6'
                  have hr17 : ∀ j, j < F → (rs.getD j 0).natAbs ≤ 200000000000000000 := fun j hj => by
                    refine Nat.le_trans (Hr.out.2 j (by rw [← HF.out]; exact hj)) ?_
                    have hsF : s * F ≤ 6 * 24 := Nat.mul_le_mul (by omega) hf24
                    have : (s * F + x) * 1000000000000000 ≤ 168 * 1000000000000000 := Nat.mul_le_mul_right _ (by omega)
                    omega
                  have Hr17 := Lib.hid hr17
                  clear h6' c6 c8 hnb eC cr7 c68 hr17
                  go_wp2_with fail
                  go_loopg [15] F (fun g s15 wr2 => ∃ j : Nat, j ≤ F ∧ g = F - j ∧ s15 = .int .i64 (j : Int) ∧ Hid (Frm A1 A6 W9 wr2) ∧ Hid (OwnF wr2 A1 A6 3 (.slice (some ⟨g6, 0, none⟩) F k6) F (fun t => if t < j then iv (subL rs C (tbA n ys x)) t else iv rs t)))
                  case atStart => exact ⟨0, Nat.zero_le _, rfl, rfl, Lib.hid (Frm.refl _ _ _), Lib.hid (H6'.out.congr fun t _ => by rw [if_neg (Nat.not_lt_zero _)])⟩
                  case round =>
                    obtain ⟨j, hj, rfl, rfl, hfj, hoj⟩ := hrel
                    obtain ⟨wz, rfl⟩ : ∃ x : World, x = wr := ⟨_, rfl⟩
                    have Hfj := Lib.hid hfj.out
                    have Hoj := Lib.hid hoj.out
                    clear hfj hoj
                    by_cases hjF : j < F
                    · have hjFi : (j : Int) < (F : Int) := by omega
                      obtain ⟨a, ha⟩ : ∃ a, a = rs.getD j 0 := ⟨_, rfl⟩
                      obtain ⟨b, hb⟩ : ∃ b, b = (tbA n ys x).getD j 0 := ⟨_, rfl⟩
                      have ca : wz.cell? ⟨g6, j, none⟩ = some (.int .i64 a) := by rw [Hoj.out.cell hjF, if_neg (Nat.lt_irrefl _), ha]; rfl
                      have fa : wz.frozen? ⟨g6, j, none⟩ = false := Hoj.out.frozen j
                      have cb : wz.cell? ⟨g8, j, none⟩ = some (.int .i64 b) := by
                        rw [hb, ← Hc8.out j hjF]
                        unfold World.cell?
                        rw [Hfj.out.block g8 hg8s (.inr hg8o)]
                      obtain ⟨N, hN⟩ : ∃ N, N = C * b := ⟨_, rfl⟩
                      obtain ⟨S, hS⟩ : ∃ S, S = a - N := ⟨_, rfl⟩
                      have hab : a.natAbs ≤ 200000000000000000 := by rw [ha]; exact Hr17.out j hjF
                      have hMb : N.natAbs ≤ 1000000000 * 1000000 := by rw [hN, hb]; exact abs_mul2 (by have := HeC.out; omega) (tb_bound HYO.out Hxn.out (by rw [← HF.out]; exact hjF))
                      have hwN : IntKind.i64.wrap (C * b) = N := by rw [← hN, IntKind.wrap_i64]; omega
                      have hwS : IntKind.i64.wrap (a - N) = S := by rw [hS, IntKind.wrap_i64]; omega
                      have Ha := Lib.hid ha
                      have HB := Lib.hid hb
                      have HN := Lib.hid hN
                      have HS := Lib.hid hS
                      clear ha hb hN hS hab hMb
                      go_wp2_with fail
                      go_region
                      go_wp2_with fail
                      go_roundg (F - (j + 1))
                      case measure => omega
                      case rel =>
                        refine ⟨j + 1, by omega, rfl, by go_num, Lib.hid ?_, Lib.hid ?_⟩
                        · exact (Hfj.out.setCell (p := ⟨g6, j, none⟩) hg61 hg62 _).drewN 1
                        · have h1 := Hoj.out.set j (.int .i64 S)
                          have h2 : OwnF (wz.setCell ⟨g6, j, none⟩ (.int .i64 S)).drew A1 A6 3 (.slice (some ⟨g6, 0, none⟩) F k6) F _ := h1.below ((Below.refl _ _).drew)
                          refine h2.congr fun t ht => ?_
                          by_cases h3 : t = j
                          · rw [if_pos h3, if_pos (by omega), h3]
                            unfold iv
                            rw [subL_getD (by rw [Hrl.out]; exact hjF), HS.out, HN.out, Ha.out, HB.out]
                          · rw [if_neg h3]
                            by_cases h4 : t < j
                            · rw [if_pos h4, if_pos (by omega)]
                            · rw [if_neg h4, if_neg (by omega)]
                    · have hjFi : ¬ (j : Int) < (F : Int) := by omega
                      have hjE : j = F := by omega
                      have hsl : (subL rs C (tbA n ys x)).length = F := by rw [subL_length, Hrl.out]
                      have Hoy := Lib.hid (show OwnI 3 wz A1 A6 (.slice (some ⟨g6, 0, none⟩) F k6) (subL rs C (tbA n ys x)) from by
                        refine OwnF.ints ?_
                        rw [hsl]
                        exact Hoj.out.congr fun t ht => by rw [if_pos (by omega)])
                      have hby9 : Below wy.heap.size wy W9 := Hb7.out.trans ((Hb8.out.mono hs7).trans ((Hq9.out.below _).mono (Nat.le_trans hs7 Hb8.out.size)))
                      have hb9z : Below A1 W9 wz := Hfj.out.below (Nat.le_refl _) (Nat.le_trans hA1y hby9.size)
                      have hbyz : Below A1 wy wz := (hby9.mono hA1y).trans hb9z
                      have hb1z : Below w1.heap.size w1 wz := by rw [← HA1.out]; exact Hb.out.trans hbyz
                      have crz := cell_below hb1z (Hcr.out x hxF)
                      rw [← Hvx.out] at crz
                      have Hiz := Lib.hid (show Ints wz vx (pmA n x) by rw [Hvx.out]; exact (Hfr.out x hxF).below hb1z)
                      have Hcz := Lib.hid (show OwnCl wz A6 wy.heap.size (.slice pd nd kd) (srtC os) from OwnCl.frm (Hoc.out.below hby9) Hfj.out (.inr (Nat.le_refl _)))
                      have Hbyz := Lib.hid hbyz
                      have Hszz := Lib.hid (show A6 ≤ wz.heap.size from Nat.le_trans Hsz.out (Nat.le_trans hby9.size hb9z.size))
                      have hpm : (dn ++ x :: (rowS n s (x + 1) ++ rowsS n (s + 1))).Perm (List.range (fact n)) := by
                        have := Hdn.out
                        rw [Hel.out, List.cons_append] at this
                        rw [this]
                        exact HOI.out.perm
                      have Hl3 := Lib.hid (l3Add_any (.slice pd nd kd) (srtC os) vx (pmA n x) C wz Hcz.out.rd Hiz.out Hc0.out (out_new hn1 hn4 Hot.out hpm) (by have := out_len Hot.out hpm (by rw [← HF.out]; exact hf.2); omega) (by have := Hp5.out.len; omega) (out_trim HYO.out Hot.out hpm))
                      clear hsl hby9 hb9z hbyz hb1z hpm cr8
                      go_wp2_with fail
                      refine Hl3.out.mono ?_
                      rintro e w10 ⟨r, rfl, hor, hbr⟩
                      rw [← srtC_snoc] at hor
                      obtain ⟨pr, kr, rfl, hkr, hkrm⟩ := hor.shape
                      have Hor := Lib.hid hor
                      have Hbr := Lib.hid hbr
                      clear hor hbr Hl3
                      go_wp2_with fail
                      go_roundg (F - (x + 1))
                      case measure => omega
                      case rel =>
                        refine ⟨x + 1, subL rs C (tbA n ys x), os ++ [(trimL (pmA n x), C)], dn ++ [x], by omega, rfl, by go_num, Lib.hid ?_, Lib.hid ?_, Lib.hid ?_, Lib.hid ?_, Lib.hid ?_, Lib.hid ?_, Lib.hid ?_, Lib.hid ?_⟩
                        · exact Hb.out.trans (Hbyz.out.trans (Hbr.out.mono (Nat.le_trans hA1y Hbyz.out.size)))
                        · exact Nat.le_trans Hszz.out Hbr.out.size
                        · exact Hoy.out.below Hbr.out
                        · exact Hor.out.mono Hszz.out (Nat.le_refl _)
                        · exact Hr.out.sub HYO.out Hxn.out (by have := HeC.out; omega)
                        · exact Hot.out.snoc x C
                        · rw [← Hdn.out, Hel.out]; simp
                        · rw [← Hgo.out, Hel.out, List.cons_append, exGo, if_neg Hnb.out, if_neg (by rw [← HC.out]; exact Hc0.out), ← HC.out]
                · refine (l1In_c C (-1000000000) 1000000000 W9 false (decide_eq_false eC)).mono ?_
                  rintro e w' ⟨rfl, rfl⟩
                  go_wp2_with fail
                  go_ret2
                  rw [Hnone.out (Hbad.out.2 (.inr (by omega)))]
                  exact ⟨_, rfl, ownCl_nil _ _ _, Hbw8.out.trans ((Hq9.out.below _).mono Hbw8.out.size)⟩
              · have d2 : (M != 0) = true := by simp [eM]
                have HeM := Lib.hid eM
                clear eM
                go_wp2_with fail
                go_quiet (fail)
                go_wp2_with fail
                go_ret2
                rw [Hnone.out (Hbad.out.2 (.inl fun e => HeM.out (by rw [← HM.out]; exact Hmod.out.1 e)))]
                exact ⟨_, rfl, ownCl_nil _ _ _, Hbw8.out.trans (Below.of_drewN _ _)⟩
          · have d0 : ((lx : Int) != (s : Int)) = true := by simp; omega
            have Hel := Lib.hid (show rowS n s x = rowS n s (x + 1) from rowS_out Hxn.out (by rw [← Hlx.out]; exact el))
            clear el
            go_wp2_with fail
            go_roundg (F - (x + 1))
            case measure => omega
            case rel => exact Hnext.out _ Hb7.out (.inl Hel.out)
        · have hxi : ¬ (x : Int) < (F : Int) := by omega
          obtain rfl : x = F := by omega
          go_wp2_with fail
          go_roundg (L + 1 - (s + 1))
          case measure => omega
          case rel =>
            have he : rowS n s x = [] := rowS_end (by rw [← HF.out]; exact Nat.le_refl _)
            refine ⟨s + 1, rs, os, dn, by omega, rfl, by go_num, Hb, Hsz, Ho, Hoc, Lib.hid ?_, Hot, Lib.hid ?_, Lib.hid ?_⟩
            · rw [Nat.succ_mul]; exact Hr.out
            · rw [← Hdn.out, he]; rfl
            · rw [← Hgo.out, he]; rfl
    · have hsLi : ¬ (s : Int) ≤ (L : Int) := by omega
      go_wp2_with fail
      go_ret2
      have hres : expE n vs ys (ordL n) = (srtC outs, true) := by
        unfold expE
        rw [← Hgo.out, rowsS_end (by rw [← HL.out]; omega)]
        rfl
      rw [hres]
      refine ⟨_, rfl, Hoc.out.mono (by omega) (Nat.le_refl _), ?_⟩
      exact Hb1.out.trans (Hb.out.mono hs1)

end Go.Proofs.YtlbflckoodjokaaGreat
