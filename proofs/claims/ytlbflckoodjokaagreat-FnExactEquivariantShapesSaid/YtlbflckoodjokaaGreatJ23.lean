/-
  The reference's putting of a part into an ascending list.
  The reference's permutation of a shape, a shape without its zeros, a permutation made longer.
  ClassesOk, on both sides.
  ClassesOk, in the program.
  ClassesOk, in the reference.
  SessionOk on both sides; sessions copied, measured, compared.
-/
import Derived.Test.YtlbflckoodjokaaGreatJ20
import Derived.Test.YtlbflckoodjokaaGreatJ22
import Derived.Test.YtlbflckoodjokaaGreatJ13
import Derived.Test.YtlbflckoodjokaaGreatJ3
import Derived.Test.YtlbflckoodjokaaGreatJ12
import Derived.Test.YtlbflckoodjokaaGreatJ2
namespace Go.Proofs.YtlbflckoodjokaaGreat
set_option linter.all false
set_option maxRecDepth 100000
open Go.RowKit

/-- classes whose row lies from lo1 on, the permutations from lo0 on -/
def OwnPe (w : World) (lo1 lo0 hi : Nat) (v : Value) (cs : List Cls) : Prop :=
  ∃ g, OwnS w lo1 hi 45 2 v cs.length (clF cs g) ∧ ∀ i, i < cs.length → OwnI 3 w lo0 hi (g i) (cs.getD i clD).1
theorem OwnPe.below {w w' : World} {lo1 lo0 hi : Nat} {v : Value} {cs : List Cls} (h : OwnPe w lo1 lo0 hi v cs) (hb : Below w.heap.size w w') : OwnPe w' lo1 lo0 hi v cs := by
  obtain ⟨g, h1, h2⟩ := h
  exact ⟨g, h1.below hb, fun i hi => (h2 i hi).below hb⟩
theorem OwnPe.cl {w : World} {lo1 lo0 hi : Nat} {v : Value} {cs : List Cls} (h : OwnPe w lo1 lo0 hi v cs) (hl : lo0 ≤ lo1) : OwnPl w lo0 hi v cs := by
  obtain ⟨g, h1, h2⟩ := h
  exact ⟨g, h1.mono hl (Nat.le_refl _), h2⟩
theorem OwnPe.snoc {w w' : World} {lo1 lo0 mid : Nat} {v v' x : Value} {cs : List Cls} {m : Cls} {f : Nat → Value} {n : Nat} (hn : n = cs.length) (g1 : OwnS w lo1 mid 45 2 v n (clF cs f)) (g2 : ∀ i, i < cs.length → OwnI 3 w lo0 mid (f i) (cs.getD i clD).1)
    (hx : OwnI 3 w lo0 mid x m.1) (hg : w.grownBy w' v.ownBlock) (hsz : mid ≤ w'.heap.size)
    (hv : OwnS w' lo1 w'.heap.size 45 2 v' (n + 1) (fun i => if i < n then clF cs f i else fun j => match j with | 0 => x | _ => .int .i64 m.2)) : OwnPe w' lo1 lo0 w'.heap.size v' (cs ++ [m]) := by
  subst hn
  have hrow : ∀ (y : Value) (ys : List Int) (lo1 hi1 : Nat), OwnI 3 w lo1 hi1 y ys → OwnI 3 w' lo1 hi1 y ys := fun y ys lo1 hi1 hy =>
    ⟨ownsRow_of_block hy.1 fun k hk => hg.block k (Own.block hy hk).2.2 fun e => ne_of_kinds (g1.kind k e.symm) (OwnI.kind hy k hk) (by decide), hy.2⟩
  refine ⟨fun i => if i < cs.length then f i else x, by
    rw [List.length_append]
    refine hv.congr fun i hi j hj => ?_
    by_cases h : i < cs.length
    · rw [if_pos h]
      unfold clF
      rw [OwnCd.getD_snoc, if_pos h]
      have : j = 0 ∨ j = 1 := by omega
      rcases this with rfl | rfl
      · show f i = if i < cs.length then f i else x
        rw [if_pos h]
      · rfl
    · have e : i = cs.length := by omega
      rw [if_neg h]
      unfold clF
      rw [OwnCd.getD_snoc, if_neg h, if_pos e]
      have : j = 0 ∨ j = 1 := by omega
      rcases this with rfl | rfl
      · show x = if i < cs.length then f i else x
        rw [if_neg h]
      · rfl, fun i hi => ?_⟩
  rw [List.length_append] at hi
  simp only [List.length_singleton] at hi
  rw [OwnCd.getD_snoc]
  by_cases h : i < cs.length
  · simp only [h, if_true]
    exact (hrow _ _ _ _ (g2 i h)).mono (Nat.le_refl _) hsz
  · have : i = cs.length := by omega
    simp only [h, if_false]
    rw [if_pos this]
    exact (hrow _ _ _ _ hx).mono (Nat.le_refl _) hsz

set_option maxHeartbeats 16000000 in
theorem l4Add_any (v : Value) (cs : List Cls) (u : Value) (xs : List Int) (c : Int) (w : World) (h : RdCl w v cs) (hu : Ints w u xs) (hc : ¬ c = 0) (hne : ∀ x ∈ cs, x.1 ≠ xs) (hn : cs.length ≤ 1000) (hx : xs.length ≤ 1000)
    (hl : ∀ i, i < cs.length → (cs.getD i clD).1.length ≤ 1000) :
    Calls Tryz.prog 17 #[v, u, .int .i64 c] w fun e w' => ∃ r, e = .returned r ∧ OwnPl w' w.heap.size w'.heap.size r (insC (xs, c) cs) ∧ Below w.heap.size w w' := by
  have Hu0 := Lib.hid hu
  obtain ⟨fl, hrd, hfl⟩ := h
  have Hrd := Lib.hid hrd
  have Hfl := Lib.hid hfl
  obtain ⟨pl, kl, rfl, ⟨hl1, hl2⟩, _⟩ := hrd
  obtain ⟨pt, kt, rfl, ⟨hkt, hkt2⟩, _⟩ := hu
  unfold maxLen at hkt2
  unfold maxLen at hl2
  obtain ⟨n, hnn⟩ : ∃ n, n = cs.length := ⟨_, rfl⟩
  have Hn := Lib.hid hnn
  obtain ⟨tl, rfl⟩ : ∃ tl, tl = xs := ⟨_, rfl⟩
  have Hne := Lib.hid hne
  have Hl := Lib.hid hl
  have htn : tl.length ≤ 1000 := hx
  have Htn := Lib.hid htn
  obtain ⟨nt, hnt⟩ : ∃ nt, nt = tl.length := ⟨_, rfl⟩
  rw [← hnt] at hkt ⊢
  have Hnt := Lib.hid hnt
  obtain ⟨P, hP⟩ : ∃ P, P = posC (tl, c) cs := ⟨_, rfl⟩
  have hPn : P ≤ n := by rw [hP, hnn]; exact posC_le _ _
  have HP := Lib.hid hP
  have d0 : (c == 0) = false := by simp [hc]
  rw [← hnn] at hl1 hn ⊢
  obtain ⟨B0, hB0⟩ : ∃ B, B = w.heap.size := ⟨_, rfl⟩
  have HB0 := Lib.hid hB0
  clear hnn hnt hne hl hP hB0 hfl hc hx
  go_enter Tryz.func17, Tryz.ntmps17
  go_wp2_with fail
  go_loopg [7, 8, 9] n (fun g s8 s9 s10 wr => ∃ (i : Nat) (b : Bool) (o : List Cls), i ≤ n ∧ g = n - i ∧ s10 = .int .i64 (i : Int) ∧ s9 = .bool b ∧ Hid (Below B0 w wr) ∧ Hid (B0 ≤ wr.heap.size) ∧ Hid (OwnPe wr B0 B0 wr.heap.size s8 o) ∧
    Hid ((b = false ∧ i ≤ P ∧ o = cs.take i) ∨ (b = true ∧ P < i ∧ o = (insC (tl, c) cs).take (i + 1))))
  case atStart =>
    refine ⟨0, false, [], Nat.zero_le _, rfl, rfl, rfl, Lib.hid ?_, Lib.hid ?_, Lib.hid ?_, Lib.hid (.inl ⟨rfl, Nat.zero_le _, rfl⟩)⟩
    · have := below_alloc w (.cells #[] 45); rw [← HB0.out] at this; exact this
    · rw [size_alloc, ← HB0.out]; omega
    · refine ⟨fun _ => undef, ?_, fun i hi => absurd hi (Nat.not_lt_zero _)⟩
      have := OwnS.made0 w 45 2 (clF [] fun _ => undef)
      rw [← HB0.out] at this ⊢
      exact this.mono (Nat.le_refl _) (by rw [size_alloc, ← HB0.out]; exact Nat.le_refl _)
  case round =>
    obtain ⟨i, b, o, hi, rfl, rfl, rfl, hb, hs, ho, hbo⟩ := hrel
    obtain ⟨wx, rfl⟩ : ∃ x : World, x = wr := ⟨_, rfl⟩
    have HBW := Lib.hid hb.out
    have Hs0 := Lib.hid hs.out
    obtain ⟨fo, g1, g2⟩ := ho.out
    have hno : o.length ≤ n + 1 := by
      rcases hbo.out with ⟨_, h1, rfl⟩ | ⟨_, h1, rfl⟩
      · rw [List.length_take]; omega
      · rw [List.length_take]; omega
    obtain ⟨po, ko, rfl, hko, hko2, _⟩ := g1.shape
    unfold maxLen at hko2
    obtain ⟨no, hnoo⟩ : ∃ no, no = o.length := ⟨_, rfl⟩
    have Hno := Lib.hid hnoo
    have G1 := Lib.hid g1
    have G2 := Lib.hid g2
    rw [← hnoo] at hno hko G1 ⊢
    have hbw1 : Below w.heap.size w wx := by rw [← HB0.out]; exact HBW.out
    have Hbw1 := Lib.hid hbw1
    clear hbw1
    have Hbo := Lib.hid hbo.out
    have Hix := Lib.hid (show Ints wx (.slice pt nt kt) tl by have := Hu0.out; rw [Hnt.out]; exact this.below (by rw [← HB0.out]; exact HBW.out))
    clear hb hs ho hbo g1 g2 hnoo
    by_cases hlt : i < n
    · have hlt2 : (i : Int) < (n : Int) := by omega
      obtain ⟨pl', kl', ell, _, hxc⟩ := Hrd.out.two
      rw [← Hn.out] at ell hxc
      injection ell with ell1 ell2 ell3
      obtain ⟨bl, hbl, hcl⟩ := hxc (by omega)
      rw [← ell1] at hbl
      subst hbl
      obtain ⟨d1, d2⟩ := hcl i hlt
      obtain ⟨vi, hvi⟩ : ∃ z, z = fl i := ⟨_, rfl⟩
      obtain ⟨ys, hys⟩ : ∃ z, z = (cs.getD i clD).1 := ⟨_, rfl⟩
      obtain ⟨ci, hci⟩ : ∃ z, z = (cs.getD i clD).2 := ⟨_, rfl⟩
      have cA := cell_below Hbw1.out d1
      have cB := cell_below Hbw1.out d2
      rw [← hvi] at cA
      rw [← hci] at cB
      have HiW := Lib.hid (show Ints wx vi ys by rw [hvi, hys]; exact (Hfl.out i (by rw [← Hn.out]; exact hlt)).below Hbw1.out)
      have Hyl := Lib.hid (show ys.length ≤ 1000 by rw [hys]; exact Hl.out i (by rw [← Hn.out]; exact hlt))
      obtain ⟨ny, hny⟩ : ∃ ny, ny = ys.length := ⟨_, rfl⟩
      have Hyn := Lib.hid hny
      have Hys := Lib.hid (show (ys, ci) = cs.getD i clD by rw [hys, hci])
      have Hn1 := Lib.hid (show no + 1 ≤ maxLen by unfold maxLen; omega)
      have Hn2 := Lib.hid (show (no + 1) * 32 ≤ 140737488355328 by omega)
      have hlti : ys = (cs.getD i clD).1 := hys
      have Hlti := Lib.hid hlti
      have Hd1 := Lib.hid (show w.cell? ⟨bl, i * 2, none⟩ = some vi by rw [hvi]; exact d1)
      have Hd2 := Lib.hid (show w.cell? ⟨bl, i * 2 + 1, none⟩ = some (.int .i64 ci) by rw [hci]; exact d2)
      have HiW0 := Lib.hid (show Ints w vi ys by rw [hvi, hys]; exact Hfl.out i (by rw [← Hn.out]; exact hlt))
      clear d1 d2 hvi hys hci hny hxc hcl ell1 ell2 ell3 hlti
      rcases Hbo.out with ⟨rfl, hiP, ho⟩ | ⟨rfl, hiP, ho⟩
      · by_cases hiP2 : i < P
        · have hle : ltB ys tl = true := by rw [Hlti.out]; have := HP.out; exact posC_lt (tl, c) cs i (by omega)
          have HO := Lib.hid ho
          have HL := Lib.hid hle
          clear ho hle
          go_wp2_with fail
          refine (l1Less_any _ _ ys tl _ HiW.out Hix.out).mono ?_
          rintro e wq ⟨rfl, q, rfl⟩
          rw [HL.out]
          go_wp2_with fail
          obtain ⟨W9, hW9⟩ : ∃ W, W = wx.drewN q := ⟨_, rfl⟩
          rw [← hW9]
          have hq9 : Qt wx W9 := ⟨q, hW9⟩
          have cA9 := hq9.cell cA
          have cB9 := hq9.cell cB
          have HiW9 := Lib.hid (HiW.out.qt hq9)
          have G19 := Lib.hid (show OwnS W9 B0 W9.heap.size 45 2 (.slice po no ko) no (clF o fo) from by have := G1.out.below (hq9.below _); rw [← hq9.size] at this; exact this)
          have G29 := Lib.hid (show ∀ t, t < o.length → OwnI 3 W9 B0 W9.heap.size (fo t) (o.getD t clD).1 from fun t ht => by have := (G2.out t ht).below (hq9.below _); rw [← hq9.size] at this; exact this)
          have Hs09 := Lib.hid (show B0 ≤ W9.heap.size by rw [hq9.size]; exact Hs0.out)
          have HBW9 := Lib.hid (HBW.out.trans (hq9.below B0))
          have Hn19 := Hn1
          have Hn29 := Hn2
          clear hW9 hq9 cA cB
          go_region_law (first
            | (refine step_append_S rfl (.tmp 66) (.tmp 79) 23 rfl 45 _ 2 32 Tryz.underlying23 info_prt rfl (by omega) B0 W9.heap.size _ no (clF o fo) rfl (G19.out.below (Hbc2.out.trans ((below_alloc wc _).mono hsc))) (by rw [size_alloc]; have := Hs09.out; omega) _ _ (fun j => match j with | 0 => .slice pc2 ny kc2 | _ => .int .i64 ci) rfl (fun j hj => match j, hj with | 0, _ => cell_of_blk (heap_alloc_top wc _) (j := 0) rfl | 1, _ => cell_of_blk (heap_alloc_top wc _) (j := 1) rfl) (fun j hj => match j, hj with | 0, _ => rfl | 1, _ => rfl) Hn19.out Hn29.out ?_; intro v' w' hv hg; have Hv := Lib.hid hv; have Hg := Lib.hid hg; clear hv hg)
            | (refine (if_pos ?_).mpr ?_; rfl; go_simp; refine (l1Ints_any vi ys _ (HiW9.out.below (Below.of_drewN _ _)) (by have := Hyl.out; omega)).mono ?_; rintro e wc ⟨uc, rfl, hoc, hbc⟩; have hbc2 : Below W9.heap.size W9 wc := (Below.of_drewN W9 1).trans hbc; have hsc : W9.heap.size ≤ wc.heap.size := hbc2.size; obtain ⟨pc2, kc2, rfl, _, _⟩ := hoc.shape; have Hoc2 := Lib.hid (show OwnI 3 wc W9.heap.size wc.heap.size (.slice pc2 ys.length kc2) ys from hoc); have Hbc2 := Lib.hid hbc2; have c1c := cell_below hbc2 cA9; have c2c := cell_below hbc2 cB9; have c2d : ∀ q, (wc.alloc q).cell? ⟨bl, i * 2 + 1, none⟩ = some (.int .i64 ci) := fun q => cell_below (below_alloc wc q) c2c; rw [← Hyn.out] at Hoc2 ⊢; clear hoc hbc hbc2; dsimp only))
          all_goals go_wp2_with fail
          all_goals go_roundg (n - (i + 1))
          all_goals try omega
          all_goals
            have hal := below_alloc wc (.cells #[.slice pc2 ny kc2, .int .i64 ci] 45)
            have hx2 : OwnI 3 (wc.alloc (.cells #[.slice pc2 ny kc2, .int .i64 ci] 45)) B0 wc.heap.size (.slice pc2 ny kc2) ys := (Hoc2.out.below hal).mono (by have := Hs09.out; omega) (Nat.le_refl _)
            have hW2 : Below W9.heap.size W9 (wc.alloc (.cells #[.slice pc2 ny kc2, .int .i64 ci] 45)) := Hbc2.out.trans (hal.mono hsc)
            have hsn := OwnPe.snoc (m := (ys, ci)) Hno.out ((G19.out.below hW2).mono (Nat.le_refl B0) hsc) (fun t ht => ((G29.out t ht).below hW2).mono (Nat.le_refl B0) hsc) hx2 Hg.out (Nat.le_trans (by rw [size_alloc]; exact Nat.le_succ _) Hg.out.size) Hv.out
            have hgb : Below B0 (wc.alloc (.cells #[.slice pc2 ny kc2, .int .i64 ci] 45)) w' := grownBy_below Hg.out G19.out.blocks (Nat.le_refl _) (by rw [size_alloc]; have := Hs09.out; omega)
            have hall : Below B0 W9 w' := (hW2.mono (by have := Hs09.out; omega)).trans hgb
            refine ⟨i + 1, false, o ++ [(ys, ci)], by omega, rfl, by go_num, rfl, Lib.hid (HBW9.out.trans hall), Lib.hid (Nat.le_trans Hs09.out hall.size), Lib.hid hsn, Lib.hid ?_⟩
            exact .inl ⟨rfl, by omega, by rw [Hys.out, HO.out, take_snocC (by rw [← Hn.out]; exact hlt)]⟩
        · have hiP3 : i = P := by omega
          have hle : ltB ys tl = false := by rw [Hlti.out, hiP3]; have := HP.out; rw [this]; exact posC_at (tl, c) cs (by rw [← this, ← hiP3, ← Hn.out]; exact hlt)
          have hns : decide (ys = tl) = false := decide_eq_false fun e => Hne.out (cs.getD i clD) (by
            rw [List.getD_eq_getElem?_getD, List.getElem?_eq_getElem (by rw [← Hn.out]; exact hlt)]
            exact List.getElem_mem _) (by rw [← Hlti.out]; exact e)
          have HO := Lib.hid ho
          have HL := Lib.hid hle
          have HNS := Lib.hid hns
          have HiP3 := Lib.hid hiP3
          clear ho hle hns hiP3
          go_wp2_with fail
          refine (l1Less_any _ _ ys tl _ HiW.out Hix.out).mono ?_
          rintro e wq ⟨rfl, q, rfl⟩
          rw [HL.out]
          go_wp2_with fail
          refine (l1Same_any _ _ ys tl _ (HiW.out.qt ⟨q, rfl⟩) (Hix.out.qt ⟨q, rfl⟩)).mono ?_
          rintro e wq ⟨rfl, q2, rfl⟩
          rw [HNS.out]
          go_wp2_with fail
          obtain ⟨Q, hQ⟩ : ∃ W, W = wx.drewN (q + q2) := ⟨_, rfl⟩
          rw [← hQ]
          have hqq : Qt wx Q := ⟨q + q2, hQ⟩
          have hqs := hqq.size
          refine (l1Ints_any _ tl _ (Hix.out.qt hqq) (by have := Htn.out; omega)).mono ?_
          rintro e W5 ⟨uc, rfl, hoc, hbc⟩
          obtain ⟨pc, kc, rfl, _, _⟩ := hoc.shape
          rw [← Hnt.out] at hoc ⊢
          have hb5 : Below wx.heap.size wx W5 := (hqq.below _).trans (by rw [← hqs]; exact hbc)
          have hsc5 : wx.heap.size ≤ W5.heap.size := hb5.size
          have Hb5 := Lib.hid hb5
          have Hsc5 := Lib.hid hsc5
          have Hoc := Lib.hid (show OwnI 3 W5 wx.heap.size W5.heap.size (.slice pc nt kc) tl by rw [← hqs]; exact hoc)
          have G15 := Lib.hid (show OwnS (W5.alloc (.cells #[.slice pc nt kc, .int .i64 c] 45)) B0 wx.heap.size 45 2 (.slice po no ko) no (clF o fo) from (G1.out.below hb5).below (below_alloc W5 _))
          have Hlo5 := Lib.hid (show B0 ≤ (W5.alloc (.cells #[.slice pc nt kc, .int .i64 c] 45)).heap.size by rw [size_alloc]; have := Hs0.out; omega)
          have Hcl5 := Lib.hid (show ∀ j, j < 2 → (W5.alloc (.cells #[.slice pc nt kc, .int .i64 c] 45)).cell? ⟨W5.heap.size, j, none⟩ = some (match j with | 0 => .slice pc nt kc | _ => .int .i64 c) from fun j hj =>
            match j, hj with
            | 0, _ => cell_of_blk (heap_alloc_top W5 _) (j := 0) rfl
            | 1, _ => cell_of_blk (heap_alloc_top W5 _) (j := 1) rfl)
          have Hone5 := Lib.hid (show ∀ j, j < 2 → (match j with | 0 => Value.slice pc nt kc | _ => .int .i64 c).oneCell' = true from fun j hj =>
            match j, hj with
            | 0, _ => rfl
            | 1, _ => rfl)
          clear hQ hqq hqs hoc hbc hb5 hsc5 cA cB
          go_wp2_with (at_builtin; go_must (refine wpList_append_S rfl (.tmp 59) (.tmp 64) 23 rfl 45 _ 2 32 Tryz.underlying23 info_prt rfl (by omega) B0 wx.heap.size _ no (clF o fo) rfl G15.out Hlo5.out _ _ _ rfl Hcl5.out Hone5.out Hn1.out Hn2.out ?_; intro v2 w2 hv2 hg2))
          have hal5 := below_alloc W5 (.cells #[.slice pc nt kc, .int .i64 c] 45)
          have hx5 : OwnI 3 (W5.alloc (.cells #[.slice pc nt kc, .int .i64 c] 45)) B0 W5.heap.size (.slice pc nt kc) tl := (Hoc.out.below hal5).mono Hs0.out (Nat.le_refl _)
          have hW5 : Below wx.heap.size wx (W5.alloc (.cells #[.slice pc nt kc, .int .i64 c] 45)) := Hb5.out.trans (hal5.mono Hsc5.out)
          have ho2 := OwnPe.snoc (m := (tl, c)) Hno.out ((G1.out.below hW5).mono (Nat.le_refl B0) Hsc5.out) (fun t ht => ((G2.out t ht).below hW5).mono (Nat.le_refl B0) Hsc5.out) hx5 hg2 (Nat.le_trans (by rw [size_alloc]; exact Nat.le_succ _) hg2.size) hv2
          have hgb2 : Below B0 (W5.alloc (.cells #[.slice pc nt kc, .int .i64 c] 45)) w2 := grownBy_below hg2 G15.out.blocks (Nat.le_refl _) Hlo5.out
          have hall2 : Below B0 wx w2 := (hW5.mono Hs0.out).trans hgb2
          obtain ⟨fo2, g12, g22⟩ := ho2
          obtain ⟨no2, hno2⟩ : ∃ no2, no2 = (o ++ [(tl, c)]).length := ⟨_, rfl⟩
          have hno3 : no2 = no + 1 := by rw [hno2, List.length_append, ← Hno.out]; rfl
          rw [← hno2] at g12
          have Hno8 := Lib.hid hno2
          have hbw2 : Below w.heap.size w w2 := Hbw1.out.trans (hall2.mono (by have := HB0.out; omega))
          have cA8 := cell_below hbw2 Hd1.out
          have cB8 := cell_below hbw2 Hd2.out
          have HiW8 := Lib.hid (show Ints w2 vi ys from HiW0.out.below hbw2)
          have G18 := Lib.hid g12
          have G28 := Lib.hid g22
          have Hs08 := Lib.hid (show B0 ≤ w2.heap.size from Nat.le_trans Hs0.out hall2.size)
          have HBW8 := Lib.hid (HBW.out.trans hall2)
          have Hn18 := Lib.hid (show no2 + 1 ≤ maxLen by unfold maxLen; omega)
          have Hn28 := Lib.hid (show (no2 + 1) * 32 ≤ 140737488355328 by omega)
          clear hal5 hx5 hW5 hgb2 hall2 hbw2 g12 g22 hno2 hv2 hg2
          go_region_law (first
            | (refine step_append_S rfl (.tmp 66) (.tmp 79) 23 rfl 45 _ 2 32 Tryz.underlying23 info_prt rfl (by omega) B0 w2.heap.size _ no2 (clF (o ++ [(tl, c)]) fo2) rfl (G18.out.below (Hbc2.out.trans ((below_alloc wc _).mono hsc))) (by rw [size_alloc]; have := Hs08.out; omega) _ _ (fun j => match j with | 0 => .slice pc2 ny kc2 | _ => .int .i64 ci) rfl (fun j hj => match j, hj with | 0, _ => cell_of_blk (heap_alloc_top wc _) (j := 0) rfl | 1, _ => cell_of_blk (heap_alloc_top wc _) (j := 1) rfl) (fun j hj => match j, hj with | 0, _ => rfl | 1, _ => rfl) Hn18.out Hn28.out ?_; intro v' w' hv hg; have Hv := Lib.hid hv; have Hg := Lib.hid hg; clear hv hg)
            | (refine (if_pos ?_).mpr ?_; rfl; go_simp; refine (l1Ints_any vi ys _ (HiW8.out.below (Below.of_drewN _ _)) (by have := Hyl.out; omega)).mono ?_; rintro e wc ⟨uc, rfl, hoc, hbc⟩; have hbc2 : Below w2.heap.size w2 wc := (Below.of_drewN w2 1).trans hbc; have hsc : w2.heap.size ≤ wc.heap.size := hbc2.size; obtain ⟨pc2, kc2, rfl, _, _⟩ := hoc.shape; have Hoc2 := Lib.hid (show OwnI 3 wc w2.heap.size wc.heap.size (.slice pc2 ys.length kc2) ys from hoc); have Hbc2 := Lib.hid hbc2; have c1c := cell_below hbc2 cA8; have c2c := cell_below hbc2 cB8; have c2d : ∀ q, (wc.alloc q).cell? ⟨bl, i * 2 + 1, none⟩ = some (.int .i64 ci) := fun q => cell_below (below_alloc wc q) c2c; rw [← Hyn.out] at Hoc2 ⊢; clear hoc hbc hbc2; dsimp only))
          all_goals go_wp2_with fail
          all_goals go_roundg (n - (i + 1))
          all_goals try omega
          all_goals
            have hal := below_alloc wc (.cells #[.slice pc2 ny kc2, .int .i64 ci] 45)
            have hx2 : OwnI 3 (wc.alloc (.cells #[.slice pc2 ny kc2, .int .i64 ci] 45)) B0 wc.heap.size (.slice pc2 ny kc2) ys := (Hoc2.out.below hal).mono (by have := Hs08.out; omega) (Nat.le_refl _)
            have hW2 : Below w2.heap.size w2 (wc.alloc (.cells #[.slice pc2 ny kc2, .int .i64 ci] 45)) := Hbc2.out.trans (hal.mono hsc)
            have hsn := OwnPe.snoc (m := (ys, ci)) Hno8.out ((G18.out.below hW2).mono (Nat.le_refl B0) hsc) (fun t ht => ((G28.out t ht).below hW2).mono (Nat.le_refl B0) hsc) hx2 Hg.out (Nat.le_trans (by rw [size_alloc]; exact Nat.le_succ _) Hg.out.size) Hv.out
            have hgb : Below B0 (wc.alloc (.cells #[.slice pc2 ny kc2, .int .i64 ci] 45)) w' := grownBy_below Hg.out G18.out.blocks (Nat.le_refl _) (by rw [size_alloc]; have := Hs08.out; omega)
            have hall : Below B0 w2 w' := (hW2.mono (by have := Hs08.out; omega)).trans hgb
            refine ⟨i + 1, true, (o ++ [(tl, c)]) ++ [(ys, ci)], by omega, rfl, by go_num, rfl, Lib.hid (HBW8.out.trans hall), Lib.hid (Nat.le_trans Hs08.out hall.size), Lib.hid hsn, Lib.hid ?_⟩
            exact .inr ⟨rfl, by have := HiP3.out; omega, by rw [Hys.out, HO.out, insC_take (by have := HP.out; have := HiP3.out; omega) (by rw [← Hn.out]; exact hlt)]; congr 1; rw [HiP3.out, HP.out]; exact (insC_take0 (tl, c) cs).symm⟩
      · have HO := Lib.hid ho
        clear ho
        go_wp2_with fail
        go_region_law (first
          | (refine step_append_S rfl (.tmp 66) (.tmp 79) 23 rfl 45 _ 2 32 Tryz.underlying23 info_prt rfl (by omega) B0 wx.heap.size _ no (clF o fo) rfl (G1.out.below (Hbc2.out.trans ((below_alloc wc _).mono hsc))) (by rw [size_alloc]; have := Hs0.out; omega) _ _ (fun j => match j with | 0 => .slice pc2 ny kc2 | _ => .int .i64 ci) rfl (fun j hj => match j, hj with | 0, _ => cell_of_blk (heap_alloc_top wc _) (j := 0) rfl | 1, _ => cell_of_blk (heap_alloc_top wc _) (j := 1) rfl) (fun j hj => match j, hj with | 0, _ => rfl | 1, _ => rfl) Hn1.out Hn2.out ?_; intro v' w' hv hg; have Hv := Lib.hid hv; have Hg := Lib.hid hg; clear hv hg)
          | (refine (if_pos ?_).mpr ?_; rfl; go_simp; refine (l1Ints_any vi ys _ (HiW.out.below (Below.of_drewN _ _)) (by have := Hyl.out; omega)).mono ?_; rintro e wc ⟨uc, rfl, hoc, hbc⟩; have hbc2 : Below wx.heap.size wx wc := (Below.of_drewN wx 1).trans hbc; have hsc : wx.heap.size ≤ wc.heap.size := hbc2.size; obtain ⟨pc2, kc2, rfl, _, _⟩ := hoc.shape; have Hoc2 := Lib.hid (show OwnI 3 wc wx.heap.size wc.heap.size (.slice pc2 ys.length kc2) ys from hoc); have Hbc2 := Lib.hid hbc2; have c1c := cell_below hbc2 cA; have c2c := cell_below hbc2 cB; have c2d : ∀ q, (wc.alloc q).cell? ⟨bl, i * 2 + 1, none⟩ = some (.int .i64 ci) := fun q => cell_below (below_alloc wc q) c2c; rw [← Hyn.out] at Hoc2 ⊢; clear hoc hbc hbc2; dsimp only))
        all_goals go_wp2_with fail
        all_goals go_roundg (n - (i + 1))
        all_goals try omega
        all_goals
          have hal := below_alloc wc (.cells #[.slice pc2 ny kc2, .int .i64 ci] 45)
          have hx2 : OwnI 3 (wc.alloc (.cells #[.slice pc2 ny kc2, .int .i64 ci] 45)) B0 wc.heap.size (.slice pc2 ny kc2) ys := (Hoc2.out.below hal).mono (by have := Hs0.out; omega) (Nat.le_refl _)
          have hW2 : Below wx.heap.size wx (wc.alloc (.cells #[.slice pc2 ny kc2, .int .i64 ci] 45)) := Hbc2.out.trans (hal.mono hsc)
          have hsn := OwnPe.snoc (m := (ys, ci)) Hno.out ((G1.out.below hW2).mono (Nat.le_refl B0) hsc) (fun t ht => ((G2.out t ht).below hW2).mono (Nat.le_refl B0) hsc) hx2 Hg.out (Nat.le_trans (by rw [size_alloc]; exact Nat.le_succ _) Hg.out.size) Hv.out
          have hgb : Below B0 (wc.alloc (.cells #[.slice pc2 ny kc2, .int .i64 ci] 45)) w' := grownBy_below Hg.out G1.out.blocks (Nat.le_refl _) (by rw [size_alloc]; have := Hs0.out; omega)
          have hall : Below B0 wx w' := (hW2.mono (by have := Hs0.out; omega)).trans hgb
          refine ⟨i + 1, true, o ++ [(ys, ci)], by omega, rfl, by go_num, rfl, Lib.hid (HBW.out.trans hall), Lib.hid (Nat.le_trans Hs0.out hall.size), Lib.hid hsn, Lib.hid ?_⟩
          exact .inr ⟨rfl, by omega, by rw [Hys.out, HO.out, insC_take (by have := HP.out; omega) (by rw [← Hn.out]; exact hlt)]⟩
    · obtain rfl : i = n := by omega
      have hlt2 : ¬ (i : Int) < (i : Int) := by omega
      rcases Hbo.out with ⟨rfl, hiP, ho⟩ | ⟨rfl, hiP, ho⟩
      · have HO := Lib.hid ho
        have hPi : P = i := by omega
        have HPi := Lib.hid hPi
        have Hn1 := Lib.hid (show no + 1 ≤ maxLen by unfold maxLen; omega)
        have Hn2 := Lib.hid (show (no + 1) * 32 ≤ 140737488355328 by omega)
        clear ho hPi
        go_wp2_with fail
        refine (l1Ints_any _ tl _ Hix.out (by have := Htn.out; omega)).mono ?_
        rintro e W5 ⟨uc, rfl, hoc, hb5⟩
        obtain ⟨pc, kc, rfl, _, _⟩ := hoc.shape
        rw [← Hnt.out] at hoc ⊢
        have hsc5 : wx.heap.size ≤ W5.heap.size := hb5.size
        have Hb5 := Lib.hid hb5
        have Hsc5 := Lib.hid hsc5
        have Hoc := Lib.hid hoc
        have G15 := Lib.hid (show OwnS (W5.alloc (.cells #[.slice pc nt kc, .int .i64 c] 45)) B0 wx.heap.size 45 2 (.slice po no ko) no (clF o fo) from (G1.out.below hb5).below (below_alloc W5 _))
        have Hlo5 := Lib.hid (show B0 ≤ (W5.alloc (.cells #[.slice pc nt kc, .int .i64 c] 45)).heap.size by rw [size_alloc]; have := Hs0.out; omega)
        have Hcl5 := Lib.hid (show ∀ j, j < 2 → (W5.alloc (.cells #[.slice pc nt kc, .int .i64 c] 45)).cell? ⟨W5.heap.size, j, none⟩ = some (match j with | 0 => .slice pc nt kc | _ => .int .i64 c) from fun j hj =>
          match j, hj with
          | 0, _ => cell_of_blk (heap_alloc_top W5 _) (j := 0) rfl
          | 1, _ => cell_of_blk (heap_alloc_top W5 _) (j := 1) rfl)
        have Hone5 := Lib.hid (show ∀ j, j < 2 → (match j with | 0 => Value.slice pc nt kc | _ => .int .i64 c).oneCell' = true from fun j hj =>
          match j, hj with
          | 0, _ => rfl
          | 1, _ => rfl)
        clear hoc hb5 hsc5
        go_wp2_with (at_builtin; go_must (refine wpList_append_S rfl (.tmp 83) (.tmp 88) 23 rfl 45 _ 2 32 Tryz.underlying23 info_prt rfl (by omega) B0 wx.heap.size _ no (clF o fo) rfl G15.out Hlo5.out _ _ _ rfl Hcl5.out Hone5.out Hn1.out Hn2.out ?_; intro v2 w2 hv2 hg2))
        go_ret
        have hal5 := below_alloc W5 (.cells #[.slice pc nt kc, .int .i64 c] 45)
        have hx5 : OwnI 3 (W5.alloc (.cells #[.slice pc nt kc, .int .i64 c] 45)) B0 W5.heap.size (.slice pc nt kc) tl := (Hoc.out.below hal5).mono Hs0.out (Nat.le_refl _)
        have hW5 : Below wx.heap.size wx (W5.alloc (.cells #[.slice pc nt kc, .int .i64 c] 45)) := Hb5.out.trans (hal5.mono Hsc5.out)
        have ho2 := OwnPe.snoc (m := (tl, c)) Hno.out ((G1.out.below hW5).mono (Nat.le_refl B0) Hsc5.out) (fun t ht => ((G2.out t ht).below hW5).mono (Nat.le_refl B0) Hsc5.out) hx5 hg2 (Nat.le_trans (by rw [size_alloc]; exact Nat.le_succ _) hg2.size) hv2
        have hgb2 : Below B0 (W5.alloc (.cells #[.slice pc nt kc, .int .i64 c] 45)) w2 := grownBy_below hg2 G15.out.blocks (Nat.le_refl _) Hlo5.out
        have hall2 : Below B0 wx w2 := (hW5.mono Hs0.out).trans hgb2
        have he : o ++ [(tl, c)] = insC (tl, c) cs := by
          rw [HO.out, ← HPi.out, HP.out, ← insC_take0, List.take_of_length_le]
          rw [(insC_perm (tl, c) cs).length_eq, ← HP.out, HPi.out, Hn.out]
          exact Nat.le_refl _
        rw [he] at ho2
        refine ⟨_, rfl, ?_, Hbw1.out.trans (hall2.mono (by have := HB0.out; omega))⟩
        rw [← HB0.out]
        exact ho2.cl (Nat.le_refl _)
      · have HO := Lib.hid ho
        clear ho
        go_wp2_with fail
        go_ret
        have he : o = insC (tl, c) cs := by
          rw [HO.out, List.take_of_length_le]
          rw [(insC_perm (tl, c) cs).length_eq, Hn.out]
          exact Nat.le_refl _
        have ho2 : OwnPe wx B0 B0 wx.heap.size (.slice po no ko) o := ⟨fo, by have := G1.out; rw [Hno.out] at this ⊢; exact this, G2.out⟩
        rw [he] at ho2
        refine ⟨_, rfl, ?_, Hbw1.out⟩
        rw [← HB0.out]
        exact ho2.cl (Nat.le_refl _)

end Go.Proofs.YtlbflckoodjokaaGreat

namespace Go.Proofs.YtlbflckoodjokaaGreat
set_option linter.all false
set_option maxRecDepth 100000
open Go.RowKit

theorem gpB_lt (A : List Int) (x : Nat) : ¬ (x : Int) ∈ gpB A x := fun h => by
  unfold gpB at h
  obtain ⟨y, hy, e⟩ := List.mem_map.1 h
  have := List.mem_range.1 (List.mem_filter.1 hy).1
  omega
theorem l4At_s2 (v : Value) (xs : List Int) (i : Nat) (s : Int) (hs : s = xs.getD i 0) (hi : i ≤ 1000000) (w : World) (h : Ints w v xs) :
    Calls Tryz.prog 30 #[v, .int .i64 (i : Int)] w fun e w' => e = .returned (.int .i64 s) ∧ Qt w w' := by
  rw [hs]
  exact l4At_any v xs i w h hi
theorem growL_length (t : List Int) (n : Nat) (h : t.length ≤ n) : (growL t n).length = n := by simp [growL]; omega
theorem growL_step (t : List Int) {m : Nat} (h : t.length ≤ m) : growL t (m + 1) = growL t m ++ [(m : Int)] := by
  unfold growL
  rw [show m + 1 - t.length = (m - t.length) + 1 by omega, List.range_succ, List.map_append, ← List.append_assoc]
  congr 1
  simp; omega
theorem growL_none (t : List Int) : growL t t.length = t := by unfold growL; simp

set_option maxHeartbeats 2000000 in
theorem l1Grow_any (v : Value) (t : List Int) (n : Nat) (w : World) (h : Ints w v t) (ht : t.length ≤ n) (hn : n ≤ 100) :
    Calls Tryz.prog 16 #[v, .int .i64 (n : Int)] w (RetI w (growL t n)) := by
  have Hc := Lib.hid (l1Ints_any v t w h (by omega))
  clear h
  go_enter Tryz.func16, Tryz.ntmps16
  go_wp2_with fail
  refine Hc.out.mono ?_
  rintro e w1 ⟨u, rfl, ho, hb⟩
  have Ho := Lib.hid ho
  have Hb := Lib.hid hb
  obtain ⟨p0, k0, rfl, _, _⟩ := ho.shape
  clear ho hb Hc
  go_wp2_with fail
  go_loopg [5] (n - t.length) (fun g s5 wr => ∃ m : Nat, t.length ≤ m ∧ m ≤ n ∧ g = n - m ∧ Hid (OwnI 3 wr w.heap.size wr.heap.size s5 (growL t m)) ∧ Hid (Below w.heap.size w wr))
  case atStart => exact ⟨t.length, Nat.le_refl _, ht, rfl, by rw [growL_none]; exact Ho, Hb⟩
  case round =>
    obtain ⟨m, hm1, hm2, rfl, ho, hb⟩ := hrel
    obtain ⟨wx, rfl⟩ : ∃ x : World, x = wr := ⟨_, rfl⟩
    have Hbx := Lib.hid hb.out
    have Hox := Lib.hid ho.out
    have hsx := hb.out.size
    obtain ⟨p5, k5, rfl, hk5, hk5m⟩ := ho.out.shape
    unfold maxLen at hk5m
    have hgl := growL_length t m hm1
    have hofn := ho.out.fn
    rw [hgl] at hofn hk5 ⊢
    have Hofn := Lib.hid hofn
    have Hgl := Lib.hid hgl
    clear ho hb hofn hgl
    by_cases hlt : m < n
    · have hlti : (m : Int) < (n : Int) := by omega
      have Hc1 := Lib.hid (show m + 1 ≤ maxLen by unfold maxLen; omega)
      have Hc2 := Lib.hid (show (m + 1) * 8 ≤ 140737488355328 by omega)
      go_wp2_with (at_builtin; go_must (refine wpList_append_F rfl (.tmp 12) (.tmp 15) 22 rfl 3 (.int .i64 0) 8 Tryz.underlying22 info_int rfl w.heap.size wx.heap.size _ m (iv (growL t m)) rfl (Hofn.out.below (below_alloc _ _)) (by rw [size_alloc]; omega) (by rw [size_alloc]; omega) _ 1 _ rfl (rd_one _ _ _ rfl) (fun j _ => rfl) Hc1.out Hc2.out ?_; intro v2 w3 ho2 hg2))
      go_roundg (n - (m + 1))
      case measure => omega
      case rel =>
        have hbx : Below w.heap.size wx w3 := ((below_alloc wx _).mono hsx).trans (grownBy_below hg2 Hofn.out.blocks (Nat.le_refl _) (by rw [size_alloc]; omega))
        refine ⟨m + 1, by omega, by omega, rfl, ?_, Lib.hid (Hbx.out.trans hbx)⟩
        rw [growL_step t hm1]
        exact Lib.hid (OwnI.snoc1 (by rw [Hgl.out]; exact ho2))
    · have hlti : ¬ (m : Int) < (n : Int) := by omega
      obtain rfl : m = n := by omega
      go_wp2_with fail
      go_ret
      exact ⟨_, rfl, by have := Hox.out; rw [Hgl.out] at this; exact this, Hbx.out⟩

set_option maxHeartbeats 2000000 in
theorem l4Bare_any (v : Value) (xs : List Int) (w : World) (h : Ints w v xs) (hl : xs.length ≤ 1000000) :
    Calls Tryz.prog 18 #[v] w (RetI w (shL xs)) := by
  have Hh := Lib.hid h
  obtain ⟨p, cap, rfl, ⟨hx1, hx⟩, hxc⟩ := h
  unfold maxLen at hx
  clear hxc
  go_enter Tryz.func18, Tryz.ntmps18
  have Hh1 := Hh
  go_wp2_with fail
  go_loop [3] (fun s => ∃ n : Nat, n ≤ xs.length ∧ s = .int .i64 n ∧ Hid (shN xs xs.length = shN xs n)) (fun s => (intOf s).toNat)
  case atStart => exact ⟨xs.length, Nat.le_refl _, rfl, rfl⟩
  case round =>
    obtain ⟨n, hn, rfl, ht⟩ := hrel
    have fin : shN xs n = n → Hid (shN xs xs.length = n) := fun h => by rw [Hid, ht.out, h]
    by_cases h1 : 0 < n
    · have h2 : (0 : Int) < (n : Int) := by omega
      have i1 : (0 : Int) ≤ (n : Int) - 1 := by omega
      have i2 : (n : Int) - 1 < (xs.length : Int) := by omega
      have i3 : ((n : Int) - 1).toNat = n - 1 := by omega
      obtain ⟨_, _, e, _, hxc⟩ := Hh1.out
      injection e with e1 e2 e3
      subst e1 e3
      obtain ⟨b, off, rfl, hc⟩ := hxc (by omega)
      have c1 := hc (n - 1) (by omega)
      unfold iv at c1
      obtain ⟨x, hx'⟩ : ∃ x, x = xs.getD (n - 1) 0 := ⟨_, rfl⟩
      rw [← hx'] at c1
      have Ht := Lib.hid (show shN xs n = if x = 0 then shN xs (n - 1) else n by
        obtain ⟨m, rfl⟩ : ∃ m, n = m + 1 := ⟨n - 1, by omega⟩
        rw [hx']; rfl)
      clear hx' hxc hc
      by_cases he : x = 0
      · subst he
        have Hf := Lib.hid (show shN xs xs.length = shN xs (n - 1) by rw [ht.out, Ht.out, if_pos rfl])
        clear Ht ht fin
        go_wp2_with fail
        go_round
        case rel => exact ⟨n - 1, by omega, by congr 1; omega, Hf.out⟩
        case measure => simp [intOf]; omega
      · have hz : (x == 0) = false := by simp [he]
        have Hn := fin (by rw [Ht.out, if_neg he])
        have j1 : (0 : Int) ≤ (n : Int) := by omega
        have j2 : (n : Int) ≤ (cap : Int) := by omega
        clear Ht ht fin
        go_wp2_with fail
        refine (l1Ints_any _ (xs.take n) _ (ints_take2 Hh1.out hn) (by rw [List.length_take]; omega)).mono ?_
        rintro e w2 ⟨u, rfl, ho, hb2⟩
        obtain ⟨pv, kv, rfl, _, _⟩ := ho.shape
        rw [show (xs.take n).length = n by rw [List.length_take]; omega] at ho ⊢
        have Ho := Lib.hid ho
        clear ho
        go_wp2_with fail
        go_ret
        refine ⟨_, rfl, ?_, ?_⟩
        · show OwnI _ _ _ _ _ (xs.take (shN xs xs.length))
          rw [Hn.out]
          exact Ho.out
        · exact hb2
    · have h2 : ¬ (0 : Int) < (n : Int) := by omega
      have Hn := fin (by
        match n, h1 with
        | 0, _ => rfl
        | n + 1, h => omega)
      have j1 : (0 : Int) ≤ (n : Int) := by omega
      have j2 : (n : Int) ≤ (cap : Int) := by omega
      clear ht fin
      go_wp2_with fail
      refine (l1Ints_any _ (xs.take n) _ (ints_take2 Hh1.out hn) (by rw [List.length_take]; omega)).mono ?_
      rintro e w2 ⟨u, rfl, ho, hb2⟩
      obtain ⟨pv, kv, rfl, _, _⟩ := ho.shape
      rw [show (xs.take n).length = n by rw [List.length_take]; omega] at ho ⊢
      have Ho := Lib.hid ho
      clear ho
      go_wp2_with fail
      go_ret
      refine ⟨_, rfl, ?_, ?_⟩
      · show OwnI _ _ _ _ _ (xs.take (shN xs xs.length))
        rw [Hn.out]
        exact Ho.out
      · exact hb2

set_option maxRecDepth 100000 in
set_option maxHeartbeats 4000000 in
theorem l4Perm_any (v : Value) (sh : List Int) (k n : Nat) (w : World) (h : Ints w v sh) (hx : bxOk sh k n = true) (hkn : k ≤ n) (hn1 : 1 ≤ n) (hn7 : n ≤ 7) :
    Calls Tryz.prog 15 #[v, .int .i64 (k : Int), .int .i64 (n : Int)] w (RetI w (gpW sh k n)) := by
  have Hh := Lib.hid h
  have Hx := Lib.hid hx
  have Hr := Lib.hid (bx_facts hx hkn)
  obtain ⟨p, cap, rfl, ⟨hx1, hx2⟩, hxc⟩ := h
  unfold maxLen at hx2
  clear hx hxc
  go_enter Tryz.func15, Tryz.ntmps15
  have HQ1 := Lib.hid (Qt.refl w)
  go_wp2_with fail
  go_loopg [7, 8] k (fun g s7 s17 wr => ∃ i : Nat, i ≤ k ∧ g = k - i ∧ s17 = .int .i64 i ∧ Hid (OwnI 3 wr w.heap.size wr.heap.size s7 (gpA sh k i)) ∧ Hid (Below w.heap.size w wr))
  case atStart =>
    refine ⟨0, Nat.zero_le _, rfl, rfl, ?_, Lib.hid ((HQ1.out.below _).trans ((below_alloc w _).mono (by omega)))⟩
    have := (OwnF.ints (xs := []) (OwnF.made0 w 3 (iv []))).mono (lo' := w.heap.size) (hi' := (w.alloc (.cells #[] 3)).heap.size) (by omega) (by simp)
    exact Lib.hid this
  case round =>
    obtain ⟨i, hi, rfl, rfl, ho, hb⟩ := hrel
    have hsr := hb.out.size
    by_cases hlt : i < k
    · have hlt2 : (i : Int) < (k : Int) := by omega
      obtain ⟨j, hj⟩ : ∃ j, j = k - 1 - i := ⟨_, rfl⟩
      have hji : (k : Int) - 1 - (i : Int) = (j : Int) := by omega
      obtain ⟨s, hs⟩ : ∃ s, s = sh.getD j 0 := ⟨_, rfl⟩
      have hsb := Hr.out j (by omega)
      rw [← hs] at hsb
      have Hs := Lib.hid hs
      have Hj := Lib.hid hj
      have Hji := Lib.hid hji
      have Hn := Lib.hid (show gpA sh k (i + 1) = gpA sh k i ++ [(i : Int) + s] by rw [gpA_succ, hs, hj])
      obtain ⟨q7, k7, e7, _, _⟩ := ho.out.shape
      rw [gpA_length] at e7
      subst e7
      have hofn := ho.out.fn
      rw [gpA_length] at hofn
      have Ho := Lib.hid hofn
      have Hb1 := Lib.hid (show i + 1 ≤ maxLen by unfold maxLen; omega)
      have Hb2 := Lib.hid (show (i + 1) * 8 ≤ 140737488355328 by omega)
      clear hs hj hji ho hofn
      go_wp2_with fail
      rw [Hji.out]
      refine (l4At_s2 _ sh j s Hs.out (by have := Hj.out; omega) _ (Hh.out.below hb.out)).mono ?_
      rintro e w2 ⟨rfl, hq⟩
      have HQ := Lib.hid hq
      have hsq := hq.size
      clear hq
      go_wp2_with (at_builtin; go_must (refine wpList_append_F rfl (.tmp 16) (.tmp 25) 22 rfl 3 (.int .i64 0) 8 Tryz.underlying22 info_int rfl w.heap.size wr.heap.size _ i (iv (gpA sh k i)) rfl ((Ho.out.below (HQ.out.below _)).below (below_alloc _ _)) (by rw [size_alloc]; omega) (by rw [size_alloc]; omega) _ 1 _ rfl (rd_one _ _ _ HQ.out.size.symm) (fun j _ => rfl) Hb1.out Hb2.out ?_; intro v2 w3 ho2 hg2))
      go_roundg (k - (i + 1))
      case measure => omega
      case rel =>
        have hbx : Below w.heap.size wr w3 := ((HQ.out.below _).trans ((below_alloc w2 _).mono (by omega))).trans (grownBy_below hg2 Ho.out.blocks (Nat.le_refl _) (by rw [size_alloc]; omega))
        refine ⟨i + 1, by omega, rfl, by go_num, ?_, Lib.hid (hb.out.trans hbx)⟩
        rw [Hn.out]
        exact Lib.hid (OwnI.snoc1 (by rw [gpA_length]; exact ho2))
    · obtain rfl : i = k := by omega
      have hlt2 : ¬ (i : Int) < (i : Int) := by omega
      obtain ⟨A, hA⟩ : ∃ A, A = gpA sh i i := ⟨_, rfl⟩
      have hAl : A.length = i := by rw [hA, gpA_length]
      rw [← hA] at ho
      have HA := Lib.hid hA
      have HAl := Lib.hid hAl
      have Ho0 := Lib.hid ho.out
      obtain ⟨q7, k7, e7, _, _⟩ := ho.out.shape
      rw [hAl] at e7
      subst e7
      have Hb0 := Lib.hid hb.out
      clear hA hAl ho hb
      go_wp2_with fail
      obtain ⟨wa, rfl⟩ : ∃ x : World, x = wr := ⟨_, rfl⟩
      go_loopg [7, 9] n (fun g s7 s33 wr => ∃ x : Nat, x ≤ n ∧ g = n - x ∧ s33 = .int .i64 x ∧ Hid (OwnI 3 wr w.heap.size wr.heap.size s7 (A ++ gpB A x)) ∧ Hid (Below w.heap.size w wr))
      case atStart => exact ⟨0, Nat.zero_le _, rfl, rfl, by rw [show A ++ gpB A 0 = A by simp [gpB]]; exact Ho0, Hb0⟩
      case round =>
        obtain ⟨x, hxn, rfl, rfl, ho, hb⟩ := hrel
        have hsr := hb.out.size
        obtain ⟨L, hL⟩ : ∃ L, L = A ++ gpB A x := ⟨_, rfl⟩
        have hLl : L.length ≤ 14 := by rw [hL, List.length_append, HAl.out]; have := gpB_len A x; omega
        have hLi : i ≤ L.length := by rw [hL, List.length_append, HAl.out]; omega
        have hLt : L.take i = A := by rw [hL, List.take_append_of_le_length (by rw [HAl.out]; exact Nat.le_refl _), List.take_of_length_le (by rw [HAl.out]; exact Nat.le_refl _)]
        rw [← hL] at ho
        have HL := Lib.hid hL
        have Ho := Lib.hid ho.out
        have HLt := Lib.hid hLt
        obtain ⟨N, hN⟩ : ∃ N, N = L.length := ⟨_, rfl⟩
        obtain ⟨q8, k8, e8, hc8, hm8⟩ := ho.out.shape
        rw [← hN] at e8 hc8 hLl hLi
        unfold maxLen at hm8
        subst e8
        have hI := ho.out.ints
        rw [hN] at hI
        have HI := Lib.hid (show Ints wr (.slice q8 N k8) L by rw [hN]; exact hI)
        have hofn := ho.out.fn
        rw [← hN] at hofn
        have Hof := Lib.hid hofn
        have HN := Lib.hid hN
        clear hL hLt ho hI hofn hN
        by_cases hxlt : x < n
        · have hx3 : (x : Int) < (n : Int) := by omega
          have hi3 : (i : Int) ≤ (k8 : Int) := by omega
          go_wp2_with fail
          refine (l1Has_any _ L x _ HI.out).mono ?_
          rintro e w2 ⟨rfl, hq⟩
          have hsq := hq.size
          by_cases hc : (x : Int) ∈ A
          · rw [decide_eq_true (show (x : Int) ∈ L by rw [HL.out]; exact List.mem_append_left _ hc)]
            have Hn := Lib.hid (show A ++ gpB A (x + 1) = L by rw [gpB_no hc, HL.out])
            have Ho2 := Lib.hid (Ho.out.below (hq.below _))
            have Hb2 := Lib.hid (hb.out.trans (hq.below _))
            clear hc hq
            go_wp2_with fail
            go_roundg (n - (x + 1))
            case measure => omega
            case rel => exact ⟨x + 1, by omega, rfl, by go_num, by rw [Hn.out, hsq]; exact Ho2, Hb2⟩
          · rw [decide_eq_false (show ¬ (x : Int) ∈ L by rw [HL.out]; exact fun h => (List.mem_append.1 h).elim hc (gpB_lt A x))]
            have Hn := Lib.hid (show A ++ gpB A (x + 1) = L ++ [(x : Int)] by rw [gpB_yes hc, ← List.append_assoc, HL.out])
            have HQ := Lib.hid hq
            have Hc1 := Lib.hid (show N + 1 ≤ maxLen by unfold maxLen; omega)
            have Hc2 := Lib.hid (show (N + 1) * 8 ≤ 140737488355328 by omega)
            clear hc hq
            go_wp2_with (at_builtin; go_must (refine wpList_append_F rfl (.tmp 36) (.tmp 38) 22 rfl 3 (.int .i64 0) 8 Tryz.underlying22 info_int rfl w.heap.size wr.heap.size _ N (iv L) rfl ((Hof.out.below (HQ.out.below _)).below (below_alloc _ _)) (by rw [size_alloc]; omega) (by rw [size_alloc]; omega) _ 1 _ rfl (rd_one _ _ _ HQ.out.size.symm) (fun j _ => rfl) Hc1.out Hc2.out ?_; intro v2 w3 ho2 hg2))
            go_roundg (n - (x + 1))
            case measure => omega
            case rel =>
              have hbx : Below w.heap.size wr w3 := ((HQ.out.below _).trans ((below_alloc w2 _).mono (by omega))).trans (grownBy_below hg2 Hof.out.blocks (Nat.le_refl _) (by rw [size_alloc]; omega))
              refine ⟨x + 1, by omega, rfl, by go_num, ?_, Lib.hid (hb.out.trans hbx)⟩
              rw [Hn.out]
              exact Lib.hid (OwnI.snoc1 (by rw [← HN.out]; exact ho2))
        · obtain rfl : x = n := by omega
          have hx3 : ¬ (x : Int) < (x : Int) := by omega
          go_wp2_with fail
          go_ret
          refine ⟨_, rfl, ?_, hb.out⟩
          unfold gpW
          rw [← HA.out, ← HL.out]
          exact Ho.out

end Go.Proofs.YtlbflckoodjokaaGreat

namespace Go.Proofs.YtlbflckoodjokaaGreat
set_option linter.all false
open Go.RowKit

/-- class k of a list is as it should be -/
def clAt (cs : List Cls) (k : Nat) : Bool :=
  permOk (cs.getD k clD).1 && decide (trimN (cs.getD k clD).1 (cs.getD k clD).1.length = (cs.getD k clD).1.length) && !decide ((cs.getD k clD).2 = 0) && !decide ((cs.getD k clD).2 < -1000000) && !decide (1000000 < (cs.getD k clD).2) &&
    (!decide (0 < k) || ltB (cs.getD (k - 1) clD).1 (cs.getD k clD).1)
def clsOk (cs : List Cls) : Bool := decide (cs.length ≤ 100) && (List.range cs.length).all (clAt cs)
theorem clsOk_big {cs : List Cls} (h : 100 < cs.length) : clsOk cs = false := by
  unfold clsOk; rw [decide_eq_false (by omega)]; rfl
theorem clsOk_bad {cs : List Cls} {k : Nat} (hk : k < cs.length) (h : clAt cs k = false) : clsOk cs = false := by
  unfold clsOk
  have : (List.range cs.length).all (clAt cs) = false := List.all_eq_false.2 ⟨k, List.mem_range.2 hk, by simp [h]⟩
  rw [this, Bool.and_false]
theorem clsOk_yes {cs : List Cls} (hl : cs.length ≤ 100) (h : ∀ k, k < cs.length → clAt cs k = true) : clsOk cs = true := by
  unfold clsOk
  rw [decide_eq_true hl, Bool.true_and, List.all_eq_true]
  exact fun k hk => h k (List.mem_range.1 hk)
theorem implTrim_sh (v : Value) (xs : List Int) (w : World) (h : Ints w v xs) (hp : permOk xs = true) :
    Calls Tryz.prog 24 #[v] w fun e w' => ∃ (p : Option Addr) (k : Nat), e = .returned (.slice p (trimN xs xs.length) k) ∧ Below w.heap.size w w' :=
  (implTrim_yes v xs w h hp).mono fun e w' ⟨u, h1, h2, h3⟩ => by
    obtain ⟨p, k, rfl, _, _⟩ := h2.shape
    exact ⟨p, k, by rw [h1, trimL_length], h3⟩
theorem l1Trim_sh (v : Value) (xs : List Int) (w : World) (h : Ints w v xs) (hl : xs.length ≤ 1000000) :
    Calls Tryz.prog 70 #[v] w fun e w' => ∃ (p : Option Addr) (k : Nat), e = .returned (.slice p (trimN xs xs.length) k) ∧ Below w.heap.size w w' :=
  (l1Trim_any v xs w h hl).mono fun e w' ⟨u, h1, h2, h3⟩ => by
    obtain ⟨p, k, rfl, _, _⟩ := h2.shape
    exact ⟨p, k, by rw [h1, trimL_length], h3⟩
theorem keep3w {wr W W' : World} {a0 a1 a2 : Addr} {v0 v1 v2 : Value} (hb : Below W.heap.size W W') (h : (W.cell? a0 = some v0 ∧ W.cell? a1 = some v1 ∧ W.cell? a2 = some v2) ∧ Below wr.heap.size wr W) :
    (W'.cell? a0 = some v0 ∧ W'.cell? a1 = some v1 ∧ W'.cell? a2 = some v2) ∧ Below wr.heap.size wr W' :=
  ⟨⟨cell_below hb h.1.1, cell_below hb h.1.2.1, cell_below hb h.1.2.2⟩, below_trans h.2 hb⟩

theorem Qt.belowS {w w' : World} (h : Qt w w') : Below w.heap.size w w' := h.below _
theorem l1In_b (a b c : Int) (w : World) (r : Bool) (h : decide (b ≤ a ∧ a ≤ c) = r) : Calls Tryz.prog 28 #[.int .i64 a, .int .i64 b, .int .i64 c] w fun e w' => e = .returned (.bool r) ∧ w = w' := h ▸ l1In_any a b c w

end Go.Proofs.YtlbflckoodjokaaGreat

namespace Go.Proofs.YtlbflckoodjokaaGreat
set_option linter.all false
open Go.RowKit

end Go.Proofs.YtlbflckoodjokaaGreat

namespace Go.Proofs.YtlbflckoodjokaaGreat
set_option linter.all false
open Go.RowKit

end Go.Proofs.YtlbflckoodjokaaGreat

namespace Go.Proofs.YtlbflckoodjokaaGreat
set_option linter.all false
open Go.RowKit

theorem blk5s {w : World} {b : Nat} {x0 x1 x2 x3 x4 : Value} {T : TypeId} (h : w.heap[b]? = some (.cells #[x0, x1, x2, x3, x4] T (0, 0))) :
    w.cell? ⟨b, 0, none⟩ = some x0 ∧ w.cell? ⟨b, 1, none⟩ = some x1 ∧ w.cell? ⟨b, 2, none⟩ = some x2 ∧ w.cell? ⟨b, 3, none⟩ = some x3 ∧ w.cell? ⟨b, 4, none⟩ = some x4 ∧ (∀ j, w.frozen? ⟨b, j, none⟩ = false) ∧ b < w.heap.size :=
  ⟨cell_of_blk h rfl, cell_of_blk h rfl, cell_of_blk h rfl, cell_of_blk h rfl, cell_of_blk h rfl, free_of_blk h, blk_lt h⟩

/-- a shape in a box, whatever the box -/
def boxOk (xs : List Int) (K N : Int) : Bool := decide (1 ≤ N ∧ N ≤ 7 ∧ 0 ≤ K ∧ K ≤ N) && bxOk xs K.toNat N.toNat
theorem boxOk_no {xs : List Int} {K N : Int} (h : ¬ (1 ≤ N ∧ N ≤ 7 ∧ 0 ≤ K ∧ K ≤ N)) : boxOk xs K N = false := by unfold boxOk; rw [decide_eq_false h]; rfl
set_option maxHeartbeats 400000 in
theorem isSize_b (n : Int) (w : World) : Calls Tryz.prog 52 #[.int .i64 n] w fun e w' => e = .returned (.bool (decide (1 ≤ n ∧ n ≤ 7))) ∧ w = w' := by
  go_enter Tryz.func52, Tryz.ntmps52
  by_cases h1 : 1 ≤ n
  · by_cases h2 : n ≤ 7
    · go_wp2
      go_ret
      exact ⟨ret_bool (by simp [h1, h2]), rfl⟩
    · go_wp2
      go_ret
      exact ⟨ret_bool (by simp [h1, h2]), rfl⟩
  · go_wp2
    go_ret
    exact ⟨ret_bool (by simp; omega), rfl⟩
set_option maxHeartbeats 1000000 in
theorem isBox_no (K N : Int) (w : World) (h : ¬ (1 ≤ N ∧ N ≤ 7 ∧ 0 ≤ K ∧ K ≤ N)) :
    Calls Tryz.prog 39 #[.int .i64 K, .int .i64 N] w fun e w' => e = .returned (.bool false) ∧ w = w' := by
  go_enter Tryz.func39, Tryz.ntmps39
  go_wp2_with fail
  refine (isSize_b N w).mono ?_
  rintro e w1 ⟨rfl, rfl⟩
  by_cases h1 : 1 ≤ N ∧ N ≤ 7
  · rw [decide_eq_true h1]
    by_cases h2 : 0 ≤ K
    · have h3 : ¬ K ≤ N := by omega
      have H3 := Lib.hid h3
      clear h h1
      go_wp2_with fail
      go_ret
      exact ⟨ret_bool (decide_eq_false (by have := H3.out; omega)), rfl⟩
    · clear h h1
      go_wp2_with fail
      go_ret
      exact ⟨rfl, rfl⟩
  · rw [decide_eq_false h1]
    clear h h1
    go_wp2_with fail
    go_ret
    exact ⟨rfl, rfl⟩
set_option maxRecDepth 100000 in
set_option maxHeartbeats 1000000 in
theorem inBox_any (v : Value) (xs : List Int) (K N : Int) (w : World) (h : Ints w v xs) :
    Calls Tryz.prog 19 #[v, .int .i64 K, .int .i64 N] w fun e w' => e = .returned (.bool (boxOk xs K N)) ∧ Qt w w' := by
  by_cases hb : 1 ≤ N ∧ N ≤ 7 ∧ 0 ≤ K ∧ K ≤ N
  · obtain ⟨h1, h2, h3, h4⟩ := hb
    obtain ⟨k, rfl⟩ := Int.eq_ofNat_of_zero_le h3
    obtain ⟨n, rfl⟩ := Int.eq_ofNat_of_zero_le (show 0 ≤ N by omega)
    unfold boxOk
    rw [decide_eq_true ⟨h1, h2, h3, h4⟩, Bool.true_and, Int.toNat_natCast, Int.toNat_natCast]
    exact IsInBox_any v xs k n w h (by omega) (by omega) (by omega)
  · rw [boxOk_no hb]
    have Hb := Lib.hid hb
    clear hb h
    go_enter Tryz.func19, Tryz.ntmps19
    go_wp2_with fail
    refine (isBox_no K N w Hb.out).mono ?_
    rintro e w1 ⟨rfl, rfl⟩
    go_wp2_with fail
    go_ret
    exact ⟨rfl, Qt.refl _⟩
set_option maxRecDepth 100000 in
set_option maxHeartbeats 1000000 in
theorem l4Box_gen (v : Value) (xs : List Int) (K N : Int) (w : World) (h : Ints w v xs) :
    Calls Tryz.prog 12 #[v, .int .i64 K, .int .i64 N] w fun e w' => e = .returned (.bool (boxOk xs K N)) ∧ Qt w w' := by
  by_cases hb : 1 ≤ N ∧ N ≤ 7 ∧ 0 ≤ K ∧ K ≤ N
  · obtain ⟨h1, h2, h3, h4⟩ := hb
    obtain ⟨k, rfl⟩ := Int.eq_ofNat_of_zero_le h3
    obtain ⟨n, rfl⟩ := Int.eq_ofNat_of_zero_le (show 0 ≤ N by omega)
    unfold boxOk
    rw [decide_eq_true ⟨h1, h2, h3, h4⟩, Bool.true_and, Int.toNat_natCast, Int.toNat_natCast]
    exact l4Box_any v xs k n w h (by omega) (by omega) (by omega)
  · rw [boxOk_no hb]
    by_cases h1 : 1 ≤ N ∧ N ≤ 7
    · have H1 := Lib.hid (show decide ((1 : Int) ≤ N ∧ N ≤ 7) = true from decide_eq_true h1)
      have H2 := Lib.hid (show decide ((0 : Int) ≤ K ∧ K ≤ N) = false from decide_eq_false (by omega))
      clear hb h h1
      go_enter Tryz.func12, Tryz.ntmps12
      go_wp2_with fail
      refine (l1In_b N 1 7 w _ H1.out).mono ?_
      rintro e w1 ⟨rfl, rfl⟩
      go_wp2_with fail
      refine (l1In_b K 0 N w _ H2.out).mono ?_
      rintro e w1 ⟨rfl, rfl⟩
      go_wp2_with fail
      go_ret
      exact ⟨rfl, Qt.refl _⟩
    · have H1 := Lib.hid (show decide ((1 : Int) ≤ N ∧ N ≤ 7) = false from decide_eq_false h1)
      clear hb h h1
      go_enter Tryz.func12, Tryz.ntmps12
      go_wp2_with fail
      refine (l1In_b N 1 7 w _ H1.out).mono ?_
      rintro e w1 ⟨rfl, rfl⟩
      go_wp2_with fail
      go_ret
      exact ⟨rfl, Qt.refl _⟩

/-- a session is as it should be -/
def sessOk (xs : List Int) (cs : List Cls) (ys : List Int) (K N : Int) : Bool := permOk xs && clsOk cs && boxOk ys K N

end Go.Proofs.YtlbflckoodjokaaGreat
