/-
  LocalTable: the values at all permutations, on both sides.
  LocalTable, whole, on both sides.
  Values taken apart, from short permutations to long ones. Plain.
  Go's stable sort as it runs, over arrays: the model. Plain.
  Worlds of a sort whose closure may make memory, whatever was drawn: what the walks want of them.
-/
import Derived.Test.YtlbflckoodjokaaGreatJ14
import Derived.Test.YtlbflckoodjokaaGreatJ13
import Derived.Shelf.SlSortCmp.Insertion1
import Derived.Test.YtlbflckoodjokaaGreatJ11
import Derived.Test.YtlbflckoodjokaaGreatShelf
namespace Go.Proofs.YtlbflckoodjokaaGreat
set_option linter.all false
open Go.RowKit

/-- the value at one permutation -/
def tabV (vs ys ws : List Int) : Int := wrap64 (Ev (dblP vs ys) (mono (pickL ws ys)))
def tabL (vs ys : List Int) : List Int := (permsL vs.length).map (tabV vs ys)
theorem tabL_length (vs ys : List Int) : (tabL vs ys).length = fact vs.length := by simp [tabL, permsL]
theorem permsL_length (n : Nat) : (permsL n).length = fact n := by simp [permsL]
def prmB (n : Nat) : Bool := (permsL n).all fun w => permOk w && decide (w.length = n)
set_option maxRecDepth 100000 in
theorem prm_all : ∀ n : Fin 6, 1 ≤ (n : Nat) → prmB n = true := by decide +kernel
theorem prm_p5 {n : Nat} (h1 : 1 ≤ n) (h5 : n ≤ 5) {x : Nat} (hx : x < fact n) : P5 n ((permsL n).getD x []) := by
  have := prm_all ⟨n, by omega⟩ h1
  unfold prmB at this
  rw [List.all_eq_true] at this
  have hm : (permsL n).getD x [] ∈ permsL n := by
    rw [List.getD_eq_getElem?_getD, List.getElem?_eq_getElem (by rw [permsL_length]; exact hx)]
    exact List.getElem_mem _
  have := this _ hm
  rw [Bool.and_eq_true, decide_eq_true_eq] at this
  exact ⟨this.1, this.2, h5⟩
theorem tab_getD {vs ys : List Int} {n x : Nat} (hn : vs.length = n) (hx : x < fact n) : (tabL vs ys).getD x 0 = tabV vs ys ((permsL n).getD x []) := by
  unfold tabL
  rw [hn, List.getD_eq_getElem?_getD, List.getElem?_map, List.getD_eq_getElem?_getD, List.getElem?_eq_getElem (by rw [permsL_length]; exact hx)]
  rfl
theorem tab_take {vs ys : List Int} {n x : Nat} (hn : vs.length = n) (hx : x < fact n) : (tabL vs ys).take (x + 1) = (tabL vs ys).take x ++ [tabV vs ys ((permsL n).getD x [])] := by
  have hl : x < (tabL vs ys).length := by rw [tabL_length, hn]; exact hx
  rw [← tab_getD hn hx, getD_lt hl, List.take_append_getElem]
theorem fact4 {n : Nat} (h1 : 1 ≤ n) (h5 : n ≤ 5) : 1 ≤ fact n ∧ fact n ≤ 120 := by
  have : ∀ n : Fin 6, 1 ≤ fact n ∧ fact n ≤ 120 := by decide
  exact this ⟨n, by omega⟩

set_option maxRecDepth 100000 in
set_option maxHeartbeats 4000000 in
theorem l8Table_any (n : Nat) (vs ys : List Int) (pv py : Value) (w : World) (hp : P5 n vs) (h1 : 1 ≤ n) (hyl : ys.length = n) (hy9 : ∀ x ∈ ys, -9 ≤ x ∧ x ≤ 9) (hv : Ints w pv vs) (hy : Ints w py ys) :
    Calls Tryz.prog 34 #[pv, py] w (RetI w (tabL vs ys)) := by
  have HV := Lib.hid hv
  have HY := Lib.hid hy
  have Hp := Lib.hid hp
  have Hvl := Lib.hid hp.len
  have Hyl := Lib.hid hyl
  have Hy9 := Lib.hid hy9
  have h5 := hp.le
  obtain ⟨F, hF⟩ : ∃ F, F = fact n := ⟨_, rfl⟩
  have hf := fact4 h1 h5
  rw [← hF] at hf
  have HF := Lib.hid hF
  obtain ⟨T, hT⟩ : ∃ T, T = tabL vs ys := ⟨_, rfl⟩
  have HT := Lib.hid hT
  have HTl := Lib.hid (show T.length = F by rw [hT, tabL_length, hp.len, hF])
  rw [← hT]
  obtain ⟨av, cv, rfl, ⟨hv1, hv2⟩, _⟩ := hv
  obtain ⟨ay, cy, rfl, ⟨hy1, hy2⟩, _⟩ := hy
  unfold maxLen at hv2 hy2
  rw [Hvl.out] at HV hv1 ⊢
  rw [hyl] at HY hy1 ⊢
  clear hp hyl hy9 hF hT
  obtain ⟨B0, hB0⟩ : ∃ B, B = w.heap.size := ⟨_, rfl⟩
  have HB0 := Lib.hid hB0
  clear hB0
  go_enter Tryz.func34, Tryz.ntmps34
  go_wp2_with fail
  refine (specPerms_any n h1 h5 _).mono ?_
  rintro e w2 ⟨u2, rfl, ho2, hb2⟩
  have hRl : (permsL n).length = F := by rw [permsL_length, HF.out]
  have HRl := Lib.hid hRl
  have e1 : (w.alloc (.cells #[] 3)).heap.size = B0 + 1 := by rw [size_alloc, HB0.out]
  obtain ⟨p2, k2, rfl, hk2, hk22⟩ := ho2.shape
  rw [hRl] at hk2 ⊢
  unfold maxLen at hk22
  have hs2 : B0 + 1 ≤ w2.heap.size := by rw [← e1]; exact hb2.size
  rw [e1] at ho2
  rw [hRl] at ho2
  have Hrows := Lib.hid ho2
  have Hb2 := Lib.hid (show Below B0 w w2 from by rw [HB0.out]; exact (below_alloc w _).trans (hb2.mono (by simp)))
  have Ho0 := Lib.hid (show OwnI 3 w2 B0 w2.heap.size (.slice (some ⟨w.heap.size, 0, none⟩) 0 0) (T.take 0) from by
    rw [List.take_zero]
    have := (OwnF.ints (xs := []) (OwnF.made0 w 3 (iv []))).below hb2
    rw [← HB0.out] at this ⊢
    exact this.mono (Nat.le_refl _) (by omega))
  clear hRl ho2 hb2 e1
  obtain ⟨M, hM⟩ : ∃ M, M = w2.heap.size := ⟨_, rfl⟩
  rw [← hM] at hs2
  have HM := Lib.hid hM
  clear hM
  go_wp2_with fail
  go_loopg [5, 7] F (fun g s5 s7 wr => ∃ k : Nat, k ≤ F ∧ g = F - k ∧ s7 = .int .i64 (k : Int) ∧ Hid (Below B0 w wr) ∧ Hid (M ≤ wr.heap.size) ∧ Hid (OwnII 22 3 wr (B0 + 1) M (.slice p2 F k2) (permsL n)) ∧ Hid (OwnI 3 wr B0 wr.heap.size s5 (T.take k)) ∧ Hid (∀ b, s5.ownBlock = some b → b = B0 ∨ M ≤ b))
  case atStart =>
    refine ⟨0, Nat.zero_le _, rfl, rfl, Hb2, Lib.hid (Nat.le_of_eq HM.out), by rw [HM.out]; exact Hrows, Ho0, Lib.hid fun b hb => .inl ?_⟩
    rw [HB0.out]; cases hb; rfl
  case round =>
    obtain ⟨k, hk, rfl, rfl, hb, hM2, hrows, ho, hbk⟩ := hrel
    obtain ⟨wx, rfl⟩ : ∃ x : World, x = wr := ⟨_, rfl⟩
    have Hb := Lib.hid hb.out
    have Hrw := Lib.hid hrows.out
    have Ho := Lib.hid ho.out
    have Hbk := Lib.hid hbk.out
    have hMx := hM2.out
    have htl : (T.take k).length = k := by rw [List.length_take, HTl.out]; omega
    obtain ⟨p5, k5, rfl, hk5, hk55⟩ := ho.out.shape
    rw [htl] at hk5 ⊢
    have Htl := Lib.hid htl
    clear hb hrows ho hbk hM2 htl
    by_cases hlt : k < F
    · have hki : (k : Int) < (F : Int) := by omega
      have HI : Hid (P5 n ((permsL n).getD k [])) := prm_p5 h1 h5 (by rw [← HF.out]; exact hlt)
      obtain ⟨f, hf1, hf2⟩ := Hrw.out.rd
      rw [HRl.out] at hf1 hf2
      have hr := hf2 k hlt
      have hr' := hr
      obtain ⟨pr, kr, er, ⟨hkr, hkr2⟩, _⟩ := hr'
      obtain ⟨row, hrow⟩ : ∃ row, row = (permsL n).getD k [] := ⟨_, rfl⟩
      rw [← hrow] at hr HI er
      rw [HI.out.len] at er
      rw [er] at hr
      have Hr := Lib.hid hr
      have Hrow := Lib.hid hrow
      obtain ⟨_, _, e0, _, hlc0⟩ := hf1
      injection e0 with e1 e2 e3
      subst e1 e3
      obtain ⟨bl, ol, rfl, hlc⟩ := hlc0 (by omega)
      have d0 := hlc k hlt
      rw [er] at d0
      clear hf2 hr er hrow hlc0 hlc e2 hkr hkr2
      have Htk := Lib.hid (tab_take (ys := ys) Hvl.out (show k < fact n by rw [← HF.out]; exact hlt))
      go_wp2_with fail
      refine (l8Local_any n vs row ys _ _ _ _ HI.out h1 Hvl.out Hyl.out Hy9.out (HV.out.below (HB0.out ▸ Hb.out)) Hr.out (HY.out.below (HB0.out ▸ Hb.out))).mono ?_
      rintro e w4 ⟨rfl, hb4⟩
      obtain ⟨R, hR⟩ : ∃ R, R = wrap64 (sumS vs ys (fstL row) (idL n) (idL n)) := ⟨_, rfl⟩
      have HR := Lib.hid hR
      rw [← hR]
      have Hb4 := Lib.hid hb4
      have hs4 := hb4.size
      have h0x : B0 ≤ wx.heap.size := by omega
      have Ho4 := Lib.hid (Ho.out.below hb4)
      have Hrw4 := Lib.hid (Hrw.out.below hb4)
      have hbd1 : k + 1 ≤ maxLen := by unfold maxLen; omega
      have hbd2 : (k + 1) * 8 ≤ 140737488355328 := by omega
      clear hb4 hR
      have hofn := Ho4.out.fn
      rw [Htl.out] at hofn
      go_wp2_with (at_builtin; go_must (refine wpList_append_G rfl (.tmp 18) (.tmp 26) 22 rfl 3 (.int .i64 0) 8 Tryz.underlying22 info_int rfl B0 wx.heap.size _ k (iv (T.take k)) rfl (hofn.below (below_alloc w4 _)) (by rw [size_alloc]; omega) (by rw [size_alloc]; omega) _ 1 _ rfl (rd_one _ _ _ rfl) (fun j _ => rfl) hbd1 hbd2 ?_; intro v5 w5 ho5 hg5 hw5))
      have hg6 : (w4.alloc (.cells #[.int .i64 R] 3)).grownBy w5 (Value.slice p5 k k5).ownBlock := hg5
      have hw6 : ∀ b, v5.ownBlock = some b → (Value.slice p5 k k5).ownBlock = some b ∨ w4.heap.size + 1 ≤ b := fun b hb => by have := hw5 b hb; rw [size_alloc] at this; exact this
      have hbk0 := Hbk.out
      rw [Htl.out] at hbk0
      have hs5 : w4.heap.size + 1 ≤ w5.heap.size := by have := hg6.size; rw [size_alloc] at this; exact this
      clear hg5 hw5
      go_wp2_with fail
      go_roundg (F - (k + 1))
      case measure => omega
      case rel =>
        refine ⟨k + 1, hlt, rfl, by go_num, Lib.hid ?_, Lib.hid (by omega), Lib.hid ?_, Lib.hid ?_, Lib.hid fun b hb => ?_⟩
        · exact ((Hb.out.trans (Hb4.out.mono h0x)).trans ((below_alloc w4 _).mono (by omega))).trans (grownBy_below hg6 hofn.blocks (Nat.le_refl _) (by rw [size_alloc]; omega))
        · exact (Hrw4.out.below (below_alloc w4 _)).grown hg6 fun b hb => by rcases hbk0 b hb with h | h <;> omega
        · have e : T.take (k + 1) = T.take k ++ [R] := by
            rw [HT.out, Htk.out, HR.out, ← loc_law Hp.out HI.out Hyl.out h1, ← Hrow.out]; rfl
          rw [e]
          exact OwnI.snoc1 (by rw [Htl.out]; exact ho5)
        · rcases hw6 b hb with h | h
          · exact hbk0 b h
          · exact .inr (by omega)
    · obtain rfl : k = F := by omega
      have hki : ¬ (k : Int) < (k : Int) := by omega
      have hof : OwnI 3 wx B0 wx.heap.size (.slice p5 k k5) T := by
        have := Ho.out
        rwa [Htl.out, List.take_of_length_le (by rw [HTl.out]; exact Nat.le_refl _)] at this
      have Hof := Lib.hid hof
      clear hof
      go_wp2_with fail
      go_ret
      exact ⟨_, rfl, HB0.out ▸ Hof.out, HB0.out ▸ Hb.out⟩

set_option maxRecDepth 100000 in
set_option maxHeartbeats 8000000 in
/-- the loop of the program's LocalTable -/
theorem implTable_any (n : Nat) (vs ys : List Int) (pv py : Value) (w : World) (hp : P5 n vs) (h1 : 1 ≤ n) (h4 : n ≤ 4) (hyl : ys.length = n) (hy9 : ∀ x ∈ ys, -9 ≤ x ∧ x ≤ 9) (hv : Ints w pv vs) (hy : Ints w py ys) :
    Calls Tryz.prog 45 #[pv, py] w fun e w' => ∃ u, e = .returned (.tuple #[u, .bool true]) ∧ OwnI 3 w' w.heap.size w'.heap.size u (tabL vs ys) ∧ Below w.heap.size w w' := by
  have HV := Lib.hid hv
  have HY := Lib.hid hy
  have Hp := Lib.hid hp
  have Hvl := Lib.hid hp.len
  have Hyl := Lib.hid hyl
  have Hy9 := Lib.hid hy9
  have h5 := hp.le
  obtain ⟨F, hF⟩ : ∃ F, F = fact n := ⟨_, rfl⟩
  have hf := fact4 h1 h5
  rw [← hF] at hf
  have HF := Lib.hid hF
  obtain ⟨T, hT⟩ : ∃ T, T = tabL vs ys := ⟨_, rfl⟩
  have HT := Lib.hid hT
  have HTl := Lib.hid (show T.length = F by rw [hT, tabL_length, hp.len, hF])
  rw [← hT]
  have Hsh := Lib.hid (show shiftB (n : Int) ys = true by
    unfold shiftB
    rw [hyl, decide_eq_true rfl, decide_eq_true hy9]; rfl)
  obtain ⟨av, cv, rfl, ⟨hv1, hv2⟩, _⟩ := hv
  obtain ⟨ay, cy, rfl, ⟨hy1, hy2⟩, _⟩ := hy
  unfold maxLen at hv2 hy2
  rw [Hvl.out] at HV hv1 ⊢
  rw [hyl] at HY hy1 ⊢
  clear hp hyl hy9 hF hT
  have hni : ¬ (4 : Int) < (n : Int) := by omega
  go_enter Tryz.func45, Tryz.ntmps45
  go_wp2_with fail
  refine (implIsPerm_b _ vs true Hp.out.ok _ HV.out).mono ?_
  rintro e w1 ⟨rfl, hb⟩
  have HB1 := Lib.hid hb
  clear hb
  go_wp2_with fail
  refine (shiftsOk_any _ _ ys _ (HY.out.below HB1.out)).mono ?_
  rintro e w1' ⟨rfl, rfl⟩
  rw [Hsh.out]
  go_wp2_with fail
  refine (double_any _ _ vs ys _ (HV.out.below HB1.out) (HY.out.below HB1.out) (by rw [Hvl.out]; exact h1) (by rw [Hvl.out]; exact h5) (by rw [Hvl.out]; exact Hyl.out) Hy9.out Hp.out.low).mono ?_
  rintro e w3 ⟨u3, rfl, hp3, hb3⟩
  have HP := Lib.hid hp3
  obtain ⟨bf, Df, rfl, _, _⟩ := hp3
  have HB3 := Lib.hid (HB1.out.trans (hb3.mono HB1.out.size))
  have hs13 := HB3.out.size
  clear hb3
  obtain ⟨B0, hB0⟩ : ∃ B, B = w3.heap.size := ⟨_, rfl⟩
  have HB0 := Lib.hid hB0
  rw [← hB0] at hs13
  clear hB0
  go_wp2_with fail
  refine (implAllPerms_any (n : Int) _).mono ?_
  have hap : allPermsL (n : Int) = permsL n := by unfold allPermsL; rw [if_pos (by omega), Int.toNat_natCast]
  rw [hap]
  clear hap
  rintro e w2 ⟨u2, rfl, ho2, hb2⟩
  have hRl : (permsL n).length = F := by rw [permsL_length, HF.out]
  have HRl := Lib.hid hRl
  have e1 : (w3.alloc (.cells #[] 3)).heap.size = B0 + 1 := by rw [size_alloc, HB0.out]
  obtain ⟨p2, k2, rfl, hk2, hk22⟩ := ho2.shape
  rw [hRl] at hk2 ⊢
  unfold maxLen at hk22
  have hs2 : B0 + 1 ≤ w2.heap.size := by rw [← e1]; exact hb2.size
  rw [e1] at ho2
  rw [hRl] at ho2
  have Hrows := Lib.hid ho2
  have Hb2 := Lib.hid (show Below B0 w3 w2 from by rw [HB0.out]; exact (below_alloc w3 _).trans (hb2.mono (by simp)))
  have Ho0 := Lib.hid (show OwnI 3 w2 B0 w2.heap.size (.slice (some ⟨w3.heap.size, 0, none⟩) 0 0) (T.take 0) from by
    rw [List.take_zero]
    have := (OwnF.ints (xs := []) (OwnF.made0 w3 3 (iv []))).below hb2
    rw [← HB0.out] at this ⊢
    exact this.mono (Nat.le_refl _) (by omega))
  clear hRl ho2 hb2 e1
  obtain ⟨M, hM⟩ : ∃ M, M = w2.heap.size := ⟨_, rfl⟩
  rw [← hM] at hs2
  have HM := Lib.hid hM
  clear hM
  go_wp2_with fail
  go_loopg [7, 33] F (fun g s7 s33 wr => ∃ k : Nat, k ≤ F ∧ g = F - k ∧ s33 = .int .i64 (k : Int) ∧ Hid (Below B0 w3 wr) ∧ Hid (M ≤ wr.heap.size) ∧ Hid (OwnII 22 3 wr (B0 + 1) M (.slice p2 F k2) (permsL n)) ∧ Hid (OwnI 3 wr B0 wr.heap.size s7 (T.take k)) ∧ Hid (∀ b, s7.ownBlock = some b → b = B0 ∨ M ≤ b))
  case atStart =>
    refine ⟨0, Nat.zero_le _, rfl, rfl, Hb2, Lib.hid (Nat.le_of_eq HM.out), by rw [HM.out]; exact Hrows, Ho0, Lib.hid fun b hb => .inl ?_⟩
    rw [HB0.out]; cases hb; rfl
  case round =>
    obtain ⟨k, hk, rfl, rfl, hb, hM2, hrows, ho, hbk⟩ := hrel
    obtain ⟨wx, rfl⟩ : ∃ x : World, x = wr := ⟨_, rfl⟩
    have Hb := Lib.hid hb.out
    have Hrw := Lib.hid hrows.out
    have Ho := Lib.hid ho.out
    have Hbk := Lib.hid hbk.out
    have hMx := hM2.out
    have htl : (T.take k).length = k := by rw [List.length_take, HTl.out]; omega
    obtain ⟨p5, k5, rfl, hk5, hk55⟩ := ho.out.shape
    rw [htl] at hk5 ⊢
    have Htl := Lib.hid htl
    have Hbw := Lib.hid (HB3.out.trans (Hb.out.mono hs13))
    clear hb hrows ho hbk hM2 htl
    by_cases hlt : k < F
    · have hki : (k : Int) < (F : Int) := by omega
      have HI : Hid (P5 n ((permsL n).getD k [])) := prm_p5 h1 h5 (by rw [← HF.out]; exact hlt)
      obtain ⟨f, hf1, hf2⟩ := Hrw.out.rd
      rw [HRl.out] at hf1 hf2
      have hr := hf2 k hlt
      have hr' := hr
      obtain ⟨pr, kr, er, ⟨hkr, hkr2⟩, _⟩ := hr'
      obtain ⟨row, hrow⟩ : ∃ row, row = (permsL n).getD k [] := ⟨_, rfl⟩
      rw [← hrow] at hr HI er
      rw [HI.out.len] at er
      rw [er] at hr
      have Hr := Lib.hid hr
      have Hrow := Lib.hid hrow
      obtain ⟨_, _, e0, _, hlc0⟩ := hf1
      injection e0 with e1 e2 e3
      subst e1 e3
      obtain ⟨bl, ol, rfl, hlc⟩ := hlc0 (by omega)
      have d0 := hlc k hlt
      rw [er] at d0
      clear hf2 hr er hrow hlc0 hlc e2 hkr hkr2
      have Htk := Lib.hid (tab_take (ys := ys) Hvl.out (show k < fact n by rw [← HF.out]; exact hlt))
      go_wp2_with fail
      refine (valueAt_any _ _ _ 10 _ (dblP vs ys) row ys _ (HP.out.below (HB0.out ▸ Hb.out)) (by omega) Hr.out (HY.out.below Hbw.out) (by rw [HI.out.len]; omega) (fun i hi => by rw [HI.out.len] at hi; rw [Hyl.out]; exact HI.out.rng hi)).mono ?_
      rintro e w4 ⟨rfl, hb4⟩
      obtain ⟨R, hR⟩ : ∃ R, R = wrap64 (Ev (dblP vs ys) (mono (pickL row ys))) := ⟨_, rfl⟩
      have HR := Lib.hid hR
      rw [← hR]
      have Hb4 := Lib.hid hb4
      have hs4 := hb4.size
      have h0x : B0 ≤ wx.heap.size := by omega
      have Ho4 := Lib.hid (Ho.out.below hb4)
      have Hrw4 := Lib.hid (Hrw.out.below hb4)
      have hbd1 : k + 1 ≤ maxLen := by unfold maxLen; omega
      have hbd2 : (k + 1) * 8 ≤ 140737488355328 := by omega
      clear hb4 hR
      have hofn := Ho4.out.fn
      rw [Htl.out] at hofn
      go_wp2_with (at_builtin; go_must (refine wpList_append_G rfl (.tmp 37) (.tmp 42) 22 rfl 3 (.int .i64 0) 8 Tryz.underlying22 info_int rfl B0 wx.heap.size _ k (iv (T.take k)) rfl (hofn.below (below_alloc w4 _)) (by rw [size_alloc]; omega) (by rw [size_alloc]; omega) _ 1 _ rfl (rd_one _ _ _ rfl) (fun j _ => rfl) hbd1 hbd2 ?_; intro v5 w5 ho5 hg5 hw5))
      have hg6 : (w4.alloc (.cells #[.int .i64 R] 3)).grownBy w5 (Value.slice p5 k k5).ownBlock := hg5
      have hw6 : ∀ b, v5.ownBlock = some b → (Value.slice p5 k k5).ownBlock = some b ∨ w4.heap.size + 1 ≤ b := fun b hb => by have := hw5 b hb; rw [size_alloc] at this; exact this
      have hbk0 := Hbk.out
      rw [Htl.out] at hbk0
      have hs5 : w4.heap.size + 1 ≤ w5.heap.size := by have := hg6.size; rw [size_alloc] at this; exact this
      clear hg5 hw5
      go_wp2_with fail
      go_roundg (F - (k + 1))
      case measure => omega
      case rel =>
        refine ⟨k + 1, hlt, rfl, by go_num, Lib.hid ?_, Lib.hid (by omega), Lib.hid ?_, Lib.hid ?_, Lib.hid fun b hb => ?_⟩
        · exact ((Hb.out.trans (Hb4.out.mono h0x)).trans ((below_alloc w4 _).mono (by omega))).trans (grownBy_below hg6 hofn.blocks (Nat.le_refl _) (by rw [size_alloc]; omega))
        · exact (Hrw4.out.below (below_alloc w4 _)).grown hg6 fun b hb => by rcases hbk0 b hb with h | h <;> omega
        · have e : T.take (k + 1) = T.take k ++ [R] := by
            rw [HT.out, Htk.out, HR.out, ← Hrow.out]; rfl
          rw [e]
          exact OwnI.snoc1 (by rw [Htl.out]; exact ho5)
        · rcases hw6 b hb with h | h
          · exact hbk0 b h
          · exact .inr (by omega)
    · obtain rfl : k = F := by omega
      have hki : ¬ (k : Int) < (k : Int) := by omega
      have hof : OwnI 3 wx B0 wx.heap.size (.slice p5 k k5) T := by
        have := Ho.out
        rwa [Htl.out, List.take_of_length_le (by rw [HTl.out]; exact Nat.le_refl _)] at this
      have Hof := Lib.hid (hof.mono hs13 (Nat.le_refl _))
      clear hof
      go_wp2_with fail
      go_ret2
      exact ⟨_, rfl, Hof.out, Hbw.out⟩

end Go.Proofs.YtlbflckoodjokaaGreat

namespace Go.Proofs.YtlbflckoodjokaaGreat
set_option linter.all false
open Go.RowKit

def tblOk (vs ys : List Int) : Bool := permOk vs && nmOk vs.length ys && decide (vs.length ≤ 4)
def tblL (vs ys : List Int) : List Int × Bool := if tblOk vs ys then (tabL vs ys, true) else ([], false)
def RetLB (w : World) (r : List Int × Bool) (e : Ending) (w' : World) : Prop := ∃ u, e = .returned (.tuple #[u, .bool r.2]) ∧ OwnI 3 w' w.heap.size w'.heap.size u r.1 ∧ Below w.heap.size w w'
theorem tblL_no {vs ys : List Int} (h : tblOk vs ys = false) : tblL vs ys = ([], false) := by unfold tblL; rw [h]; rfl
theorem tblL_yes {vs ys : List Int} (h : tblOk vs ys = true) : tblL vs ys = (tabL vs ys, true) := by unfold tblL; rw [h]; rfl
theorem tblL_len (vs ys : List Int) : (tblL vs ys).1.length ≤ 120 := by
  unfold tblL
  split
  · rename_i h
    unfold tblOk at h
    simp only [Bool.and_eq_true, decide_eq_true_eq] at h
    have h1 := h.1.1
    simp only [permOk, decide_eq_true_eq] at h1
    show (tabL vs ys).length ≤ 120
    rw [tabL_length]
    exact (fact4 h1.1 (by omega)).2
  · simp
theorem retLB_no {w w' : World} {vs ys : List Int} (h : tblOk vs ys = false) (hb : Below w.heap.size w w') : RetLB w (tblL vs ys) (.returned (.tuple #[.slice none 0 0, .bool false])) w' := by
  rw [tblL_no h]
  exact ⟨_, rfl, own_nil _ _ _ _, hb⟩

set_option maxRecDepth 100000 in
set_option maxHeartbeats 4000000 in
theorem implLocalTable_any (pv py : Value) (vs ys : List Int) (w : World) (hv : Ints w pv vs) (hy : Ints w py ys) :
    Calls Tryz.prog 45 #[pv, py] w (RetLB w (tblL vs ys)) := by
  cases hok : tblOk vs ys with
  | true =>
    have hp := hok
    unfold tblOk at hp
    simp only [Bool.and_eq_true, decide_eq_true_eq] at hp
    have HL := locIs_of hp.1.1 hp.1.1 rfl hp.1.2
    rw [tblL_yes hok]
    exact implTable_any vs.length vs ys pv py w HL.v HL.one hp.2 HL.y HL.y9 hv hy
  | false =>
  have HV := Lib.hid hv
  have HY := Lib.hid hy
  obtain ⟨av, cv, rfl, ⟨hv1, hv2⟩, _⟩ := hv
  obtain ⟨ay, cy, rfl, ⟨hy1, hy2⟩, _⟩ := hy
  unfold maxLen at hv2 hy2
  have No := Lib.hid fun w' (hb : Below w.heap.size w w') => retLB_no hok hb
  have Hok := Lib.hid hok
  clear hok
  go_enter Tryz.func45, Tryz.ntmps45
  cases h1 : permOk vs with
  | false =>
    have H1 := Lib.hid h1
    clear h1
    go_wp2_with fail
    refine (implIsPerm_b _ vs false H1.out _ HV.out).mono ?_
    rintro e w1 ⟨rfl, hb⟩
    go_wp2_with fail
    go_ret2
    exact No.out _ hb
  | true =>
  have H1 := Lib.hid h1
  clear h1
  by_cases h5 : vs.length ≤ 4
  · have h5i : ¬ (4 : Int) < (vs.length : Int) := by omega
    have hone : 1 ≤ vs.length := by have := H1.out; simp only [permOk, decide_eq_true_eq] at this; exact this.1
    have hsh : shiftB (vs.length : Int) ys = false := by
      have := Hok.out
      unfold tblOk at this
      rw [H1.out, decide_eq_true h5, nm_shift (by omega) (by omega)] at this
      simpa using this
    have Hsh := Lib.hid hsh
    clear hsh hone
    go_wp2_with fail
    refine (implIsPerm_b _ vs true H1.out _ HV.out).mono ?_
    rintro e w1 ⟨rfl, hb⟩
    have HB := Lib.hid hb
    clear hb
    go_wp2_with fail
    refine (shiftsOk_any _ _ ys _ (HY.out.below HB.out)).mono ?_
    rintro e w3 ⟨rfl, rfl⟩
    rw [Hsh.out]
    go_wp2_with fail
    go_ret2
    exact No.out _ HB.out
  · have h5i : (4 : Int) < (vs.length : Int) := by omega
    clear h5
    go_wp2_with fail
    refine (implIsPerm_b _ vs true H1.out _ HV.out).mono ?_
    rintro e w1 ⟨rfl, hb⟩
    go_wp2_with fail
    go_ret2
    exact No.out _ hb

end Go.Proofs.YtlbflckoodjokaaGreat

namespace Go.Proofs.YtlbflckoodjokaaGreat
set_option linter.all false
set_option maxRecDepth 100000
open Go.RowKit

/-- the x-th permutation, and its table -/
def pmA (n x : Nat) : List Int := (permsL n).getD x []
def tbA (n : Nat) (ys : List Int) (x : Nat) : List Int := tabL (pmA n x) ys
structure YOk (n : Nat) (ys : List Int) : Prop where
  one : 1 ≤ n
  four : n ≤ 4
  len : ys.length = n
  nine : ∀ x ∈ ys, -9 ≤ x ∧ x ≤ 9
  dst : DstY n ys
theorem yOk {n : Nat} {ys : List Int} (h : apOk (n : Int) ys = true) : YOk n ys := by
  simp only [apOk, nmOk, Bool.and_eq_true, decide_eq_true_eq] at h
  obtain ⟨⟨⟨⟨⟨a, b⟩, c⟩, d⟩, e⟩, f⟩ := h
  have hl : ys.length = n := by omega
  refine ⟨by omega, by omega, hl, d, fun i j hi hj hne he => ?_⟩
  rw [getD_lt (by omega), getD_lt (by omega)] at he
  have hp := List.pairwise_iff_getElem.1 f
  rcases Nat.lt_or_gt_of_ne hne with h | h
  · exact hp i j (by omega) (by omega) h he
  · exact hp j i (by omega) (by omega) h he.symm
theorem YOk.ap {n : Nat} {ys : List Int} (h : YOk n ys) : apOk (n : Int) ys = true := by
  have h1 := h.one
  have h2 := h.four
  have h3 := h.len
  simp only [apOk, nmOk, Bool.and_eq_true, decide_eq_true_eq]
  refine ⟨⟨⟨⟨⟨by omega, by omega⟩, by omega⟩, h.nine⟩, by omega⟩, ?_⟩
  rw [List.nodup_iff_pairwise_ne, List.pairwise_iff_getElem]
  intro i j hi hj hij he
  refine h.dst i j (by omega) (by omega) (by omega) ?_
  rw [getD_lt (by omega), getD_lt (by omega)]
  exact he
section
variable {n : Nat} {ys : List Int}
theorem pm_p5 (hy : YOk n ys) {x : Nat} (hx : x < fact n) : P5 n (pmA n x) := prm_p5 hy.one (by have := hy.four; omega) hx
theorem tb_length (hy : YOk n ys) {x : Nat} (hx : x < fact n) : (tbA n ys x).length = fact n := by unfold tbA; rw [tabL_length, (pm_p5 hy hx).len]
theorem wrap_of {a : Int} (h : a.natAbs ≤ 1000000000000000000) : wrap64 a = a := by unfold wrap64; omega
theorem tb_at (hy : YOk n ys) {x i : Nat} (hx : x < fact n) (hi : i < fact n) : (tbA n ys x).getD i 0 = FW n ys (pmA n x) (pmA n i) := by
  have hp := pm_p5 hy hx
  unfold tbA
  rw [tab_getD hp.len hi]
  have hb := FW_bound hy.len hy.one hy.four hy.nine hp (pm_p5 hy hi)
  unfold tabV
  have e : Ev (dblP (pmA n x) ys) (mono (pickL ((permsL n).getD i []) ys)) = FW n ys (pmA n x) (pmA n i) := by
    unfold FW EV dblP
    rw [hp.len]; rfl
  rw [e]
  exact wrap_of (by omega)
theorem tb_bound (hy : YOk n ys) {x i : Nat} (hx : x < fact n) (hi : i < fact n) : ((tbA n ys x).getD i 0).natAbs ≤ 1000000 := by
  rw [tb_at hy hx hi]
  exact FW_bound hy.len hy.one hy.four hy.nine (pm_p5 hy hx) (pm_p5 hy hi)
theorem tb_ne (hy : YOk n ys) {x : Nat} (hx : x < fact n) : (tbA n ys x).getD x 0 ≠ 0 := by
  rw [tb_at hy hx hx]
  exact FW_ne hy.len (pm_p5 hy hx) hy.dst
end

/-- so many times a table taken off -/
def subL (rest : List Int) (c : Int) (t : List Int) : List Int := (List.range rest.length).map fun i => rest.getD i 0 - c * t.getD i 0
theorem subL_length (rest : List Int) (c : Int) (t : List Int) : (subL rest c t).length = rest.length := by simp [subL]
theorem subL_getD {rest t : List Int} {c : Int} {i : Nat} (h : i < rest.length) : (subL rest c t).getD i 0 = rest.getD i 0 - c * t.getD i 0 := by simp [subL, List.getD_eq_getElem?_getD, h]
/-- how often a permutation goes in -/
def qoA (n : Nat) (ys rest : List Int) (x : Nat) : Int := (rest.getD x 0).tdiv ((tbA n ys x).getD x 0)
def badA (n : Nat) (ys rest : List Int) (x : Nat) : Prop := qoA n ys rest x * (tbA n ys x).getD x 0 ≠ rest.getD x 0 ∨ qoA n ys rest x < -1000000000 ∨ 1000000000 < qoA n ys rest x
instance (n : Nat) (ys rest : List Int) (x : Nat) : Decidable (badA n ys rest x) := by unfold badA; exact inferInstance
def exGo (n : Nat) (ys : List Int) : List Nat → List Int → List Cls → Option (List Cls)
  | [], _, out => some out
  | x :: l, rest, out =>
    if badA n ys rest x then none
    else if qoA n ys rest x = 0 then exGo n ys l rest out
    else exGo n ys l (subL rest (qoA n ys rest x) (tbA n ys x)) (out ++ [(trimL (pmA n x), qoA n ys rest x)])
/-- what ExpandLocal says of values that pass -/
def resE (o : Option (List Cls)) : List Cls × Bool := match o with | none => ([], false) | some out => (srtC out, true)
def expE (n : Nat) (vs ys : List Int) (ord : List Nat) : List Cls × Bool := resE (exGo n ys ord vs [])

/-- what is left is not great -/
def RestOk (n k : Nat) (rest : List Int) : Prop := rest.length = fact n ∧ ∀ i, i < fact n → (rest.getD i 0).natAbs ≤ 1000000000000 + k * 1000000000000000
theorem RestOk.mono {n k : Nat} {rest : List Int} (h : RestOk n k rest) : RestOk n (k + 1) rest := ⟨h.1, fun i hi => Nat.le_trans (h.2 i hi) (Nat.add_le_add_left (Nat.mul_le_mul_right _ (Nat.le_succ k)) _)⟩
theorem abs_mul2 {a b : Int} {A B : Nat} (h1 : a.natAbs ≤ A) (h2 : b.natAbs ≤ B) : (a * b).natAbs ≤ A * B := by rw [Int.natAbs_mul]; exact Nat.mul_le_mul h1 h2
theorem RestOk.sub {n k : Nat} {rest ys : List Int} (hy : YOk n ys) {x : Nat} (hx : x < fact n) {c : Int} (hc : c.natAbs ≤ 1000000000) (h : RestOk n k rest) : RestOk n (k + 1) (subL rest c (tbA n ys x)) := by
  refine ⟨by rw [subL_length]; exact h.1, fun i hi => ?_⟩
  rw [subL_getD (by rw [h.1]; exact hi)]
  have a := h.2 i hi
  have b := abs_mul2 hc (tb_bound hy hx hi)
  have e : (k + 1) * 1000000000000000 = k * 1000000000000000 + 1000000000 * 1000000 := Nat.succ_mul _ _
  rw [e]
  obtain ⟨X, hX⟩ : ∃ X, X = k * 1000000000000000 := ⟨_, rfl⟩
  rw [← hX] at a ⊢
  obtain ⟨Y, hY⟩ : ∃ Y, Y = 1000000000 * 1000000 := ⟨_, rfl⟩
  rw [← hY] at b ⊢
  clear hX hY e
  omega
theorem qo_good {n : Nat} {ys rest : List Int} {x : Nat} (h : ¬ badA n ys rest x) : qoA n ys rest x * (tbA n ys x).getD x 0 = rest.getD x 0 ∧ (qoA n ys rest x).natAbs ≤ 1000000000 := by
  unfold badA at h
  refine ⟨?_, by omega⟩
  by_cases e : qoA n ys rest x * (tbA n ys x).getD x 0 = rest.getD x 0
  · exact e
  · exact absurd (.inl e) h
theorem tdiv_abs (a b : Int) : (a.tdiv b).natAbs ≤ a.natAbs := by rw [Int.natAbs_tdiv]; exact Nat.div_le_self _ _
theorem tdiv_mul_abs (a b : Int) : (a.tdiv b * b).natAbs ≤ a.natAbs := by rw [Int.natAbs_mul, Int.natAbs_tdiv]; exact Nat.div_mul_le_self _ _
/-- .. and how it is asked by the remainder -/
theorem qo_mod {a b : Int} : a.tdiv b * b = a ↔ a.tmod b = 0 := by
  have := Int.mul_tdiv_add_tmod a b
  rw [Int.mul_comm] at this
  omega

/-- how the classes stand in what was done -/
def trimB (n : Nat) : Bool := decide (((List.range (fact n)).map fun x => trimL (pmA n x)).Nodup)
set_option maxRecDepth 100000 in
theorem trim_all : ∀ n : Fin 4, trimB (n.val + 1) = true := by decide +kernel
theorem trim_nodup {n : Nat} (h1 : 1 ≤ n) (h4 : n ≤ 4) : ((List.range (fact n)).map fun x => trimL (pmA n x)).Nodup := by
  have := trim_all ⟨n - 1, by omega⟩
  rw [show (⟨n - 1, by omega⟩ : Fin 4).val + 1 = n by simp; omega] at this
  exact of_decide_eq_true this
/-- classes out of some of the permutations that were done -/
def OutOk (n : Nat) (done : List Nat) (out : List Cls) : Prop := (out.map (·.1)).Sublist (done.map fun x => trimL (pmA n x))
theorem OutOk.skip {n : Nat} {done : List Nat} {out : List Cls} (h : OutOk n done out) (x : Nat) : OutOk n (done ++ [x]) out := by
  unfold OutOk at *
  rw [List.map_append]
  exact h.trans (List.sublist_append_left _ _)
theorem OutOk.snoc {n : Nat} {done : List Nat} {out : List Cls} (h : OutOk n done out) (x : Nat) (c : Int) : OutOk n (done ++ [x]) (out ++ [(trimL (pmA n x), c)]) := by
  unfold OutOk at *
  rw [List.map_append, List.map_append]
  exact h.append (List.Sublist.refl _)
theorem OutOk.nodup {n : Nat} (h1 : 1 ≤ n) (h4 : n ≤ 4) {done l : List Nat} {out : List Cls} (h : OutOk n done out) (hp : (done ++ l).Perm (List.range (fact n))) : (out.map (·.1)).Nodup := by
  refine List.Nodup.sublist h ?_
  have a : ((done ++ l).map fun x => trimL (pmA n x)).Nodup := (List.Perm.nodup_iff (hp.map _)).2 (trim_nodup h1 h4)
  rw [List.map_append] at a
  exact (List.nodup_append.1 a).1
theorem OutOk.length {n : Nat} {done l : List Nat} {out : List Cls} (h : OutOk n done out) (hp : (done ++ l).Perm (List.range (fact n))) : out.length ≤ fact n := by
  have a := h.length_le
  have b := hp.length_eq
  rw [List.length_map, List.length_map] at a
  rw [List.length_append, List.length_range] at b
  omega
theorem srtC_snoc (cs : List Cls) (c : Cls) : srtC (cs ++ [c]) = insC c (srtC cs) := by unfold srtC; rw [List.foldl_append]; rfl

end Go.Proofs.YtlbflckoodjokaaGreat

namespace Go.Proofs.YtlbflckoodjokaaGreat
set_option linter.all false
open Go.RowKit Go.Sort

variable {α : Type} [Inhabited α]
def swR (a b : Nat) : Nat → Array α → Array α
  | 0, d => d
  | k + 1, d => swp (swR a b k d) (a + k) (b + k)
theorem size_swR (a b : Nat) (d : Array α) : ∀ k, (swR a b k d).size = d.size
  | 0 => rfl
  | k + 1 => by rw [swR, size_swp, size_swR a b d k]
def rotA (m : Nat) : Nat → Nat → Nat → Array α → Array α
  | 0, _, _, d => d
  | f + 1, i, j, d => if i = j then swR (m - i) m i d else if j < i then rotA m f (i - j) j (swR (m - i) m j d) else rotA m f i (j - i) (swR (m - i) (m + j - i) i d)
theorem size_rotA (m : Nat) : ∀ (f i j : Nat) (d : Array α), (rotA m f i j d).size = d.size
  | 0, _, _, _ => rfl
  | f + 1, i, j, d => by
    rw [rotA]
    split
    · exact size_swR _ _ _ _
    · split
      · rw [size_rotA m f, size_swR]
      · rw [size_rotA m f, size_swR]
/-- the place that a search by halves finds -/
def bsA (p : Nat → Bool) : Nat → Nat → Nat → Nat
  | 0, i, _ => i
  | f + 1, i, j => if i < j then (if p ((i + j) / 2) then bsA p f ((i + j) / 2 + 1) j else bsA p f i ((i + j) / 2)) else i
theorem bsA_rng (p : Nat → Bool) : ∀ (f i j : Nat), i ≤ j → i ≤ bsA p f i j ∧ bsA p f i j ≤ j
  | 0, i, j, h => ⟨Nat.le_refl _, h⟩
  | f + 1, i, j, h => by
    rw [bsA]
    split
    · split
      · have := bsA_rng p f ((i + j) / 2 + 1) j (by omega); omega
      · have := bsA_rng p f i ((i + j) / 2) (by omega); omega
    · omega
theorem bsA_end (p : Nat → Bool) : ∀ (f i j : Nat), ¬ i < j → bsA p f i j = i
  | 0, _, _, _ => rfl
  | f + 1, i, j, h => by rw [bsA, if_neg h]
theorem bsA_up {p : Nat → Bool} {f i j : Nat} (hf : j - i ≤ f) (h : i < j) (hp : p ((i + j) / 2) = true) : bsA p f i j = bsA p (f - 1) ((i + j) / 2 + 1) j := by
  obtain ⟨t, rfl⟩ : ∃ t, f = t + 1 := ⟨f - 1, by omega⟩
  rw [bsA, if_pos h, if_pos hp]; rfl
theorem bsA_dn {p : Nat → Bool} {f i j : Nat} (hf : j - i ≤ f) (h : i < j) (hp : p ((i + j) / 2) = false) : bsA p f i j = bsA p (f - 1) i ((i + j) / 2) := by
  obtain ⟨t, rfl⟩ : ∃ t, f = t + 1 := ⟨f - 1, by omega⟩
  rw [bsA, if_pos h, hp]; rfl
def shUA (a : Nat) : Nat → Array α → Array α
  | 0, d => d
  | k + 1, d => swp (shUA a k d) (a + k) (a + k + 1)
def shDA (m : Nat) : Nat → Array α → Array α
  | 0, d => d
  | k + 1, d => swp (shDA m k d) (m - k) (m - k - 1)
theorem size_shUA (a : Nat) (d : Array α) : ∀ k, (shUA a k d).size = d.size
  | 0 => rfl
  | k + 1 => by rw [shUA, size_swp, size_shUA a d k]
theorem size_shDA (m : Nat) (d : Array α) : ∀ k, (shDA m k d).size = d.size
  | 0 => rfl
  | k + 1 => by rw [shDA, size_swp, size_shDA m d k]
section
variable (lt : α → α → Bool)
def sp1 (d : Array α) (a h : Nat) : Bool := lt d[h]! d[a]!
def sp2 (d : Array α) (m h : Nat) : Bool := !lt d[m]! d[h]!
def sp3 (d : Array α) (p c : Nat) : Bool := !lt d[p - c]! d[c]!
/-- where the search of the middle case begins and ends -/
def smLo (a m b : Nat) : Nat := if (a + b) / 2 < m then (a + b) / 2 + m - b else a
def smHi (a m b : Nat) : Nat := if (a + b) / 2 < m then (a + b) / 2 else m
def smAt (d : Array α) (a m b : Nat) : Nat := bsA (sp3 lt d ((a + b) / 2 + m - 1)) (smHi a m b - smLo a m b) (smLo a m b) (smHi a m b)
def symA : Nat → Nat → Nat → Nat → Array α → Array α
  | 0, _, _, _, d => d
  | f + 1, a, m, b, d =>
    if m - a = 1 then shUA a (bsA (sp1 lt d a) (b - m) m b - 1 - a) d
    else if b - m = 1 then shDA m (m - bsA (sp2 lt d m) (m - a) a m) d
    else
      let mid := (a + b) / 2
      let st := smAt lt d a m b
      let en := mid + m - st
      let d1 := if st < m ∧ m < en then rotA m (en - st) (m - st) (en - m) d else d
      let d2 := if a < st ∧ st < mid then symA f a st mid d1 else d1
      if mid < en ∧ en < b then symA f mid en b d2 else d2
theorem size_symA : ∀ (f a m b : Nat) (d : Array α), (symA lt f a m b d).size = d.size
  | 0, _, _, _, _ => rfl
  | f + 1, a, m, b, d => by
    rw [symA]
    split
    · exact size_shUA _ _ _
    · split
      · exact size_shDA _ _ _
      · dsimp only
        repeat' split
        all_goals simp only [size_symA f, size_rotA]
/-- the insertion sort, by another recursion -/
def insS (a b : Nat) : Nat → Nat → Array α → Array α
  | 0, _, d => d
  | f + 1, i, d => if i < b then insS a b f (i + 1) (insInner lt a i d) else d
theorem insS_eq (a b : Nat) : ∀ (f i : Nat) (d : Array α), b - i ≤ f → insOuter lt a b i d = insS lt a b f i d
  | 0, i, d, h => by rw [insOuter, if_neg (by omega), insS]
  | f + 1, i, d, h => by
    rw [insOuter, insS]
    split
    · exact insS_eq a b f (i + 1) _ (by omega)
    · rfl
end
/-- the sort of fewer than twenty, and of 24 -/
def stbA (lt : α → α → Bool) (d : Array α) : Array α :=
  if d.size < 20 then insertionSort lt d 0 d.size else symA lt d.size 0 20 d.size (insertionSort lt (insertionSort lt d 0 20) 20 d.size)
def stbS (lt : α → α → Bool) (d : Array α) : Array α :=
  if d.size < 20 then insS lt 0 d.size d.size 1 d else symA lt d.size 0 20 d.size (insS lt 20 d.size d.size 21 (insS lt 0 20 20 1 d))

end Go.Proofs.YtlbflckoodjokaaGreat

namespace Go.Proofs.YtlbflckoodjokaaGreat
set_option linter.all false
open Go.RowKit Go.Shelf Go.Sort Go.Lib

/-- a world, so many draws taken -/
def atd (w : World) (n : Nat) : World := { w with drawn := n }
theorem wp_region_quiet_z {P : Program} {id : Nat} {Q : Exit → Act → World → Prop} {a : Act} {w : World} {l : List Oper} (hm : P.follows .mixedOrders = true) (hB : Region.lexB .any l.toArray = true)
    (h : wpQuiet P l.toArray (fun w' => ∃ p : GrownBy, w' = grow (atd w p.n) p.os) (fun a' => ∀ w', (∃ p : GrownBy, w' = grow (atd w p.n) p.os) → Q .normal a' w') l a) : (Code.region id l.toArray true).wp P Q a w :=
  wp_region_quiet (C := fun w' => ∃ p : GrownBy, w' = grow (atd w p.n) p.os) hm hB ⟨⟨w.drawn + 1, #[]⟩, by rw [grow_empty]; rfl⟩ (by simpa using h)
theorem grow_atd (w : World) (n q : Nat) (os os' : Array Obj) : grow (atd (grow (atd w n) os) q) os' = grow (atd w q) (os ++ os') := by
  show grow (grow (atd w q) os) os' = _
  rw [grow_grow]
theorem grown_z {P : Program} {f : FuncId} {args : Array Value} {w : World} {n : Nat} {os : Array Obj} {v : Value}
    (h : Calls P f args (grow (atd w n) os) fun e w' => e = .returned v ∧ ∃ q os', w' = grow (atd (grow (atd w n) os) q) os') : Calls P f args (grow (atd w n) os) fun e w'' => e = .returned v ∧ ∃ p : GrownBy, w'' = grow (atd w p.n) p.os :=
  h.mono fun _ _ ⟨he, q, os', hq⟩ => ⟨he, ⟨q, os ++ os'⟩, by rw [hq, grow_atd]⟩
theorem below_grow {W w' : World} (h : Below W.heap.size W w') : ∃ q os', w' = grow (atd W q) os' := by
  refine ⟨w'.drawn, w'.heap.extract W.heap.size w'.heap.size, ?_⟩
  have hh : w'.heap = W.heap ++ w'.heap.extract W.heap.size w'.heap.size := by
    apply Array.ext_getElem?
    intro i
    by_cases hi : i < W.heap.size
    · rw [Array.getElem?_append_left hi]; exact h.block i hi
    · rw [Array.getElem?_append_right (by omega), Array.getElem?_extract]
      by_cases h2 : i < w'.heap.size
      · rw [if_pos (by omega)]; congr 1; omega
      · rw [if_neg (by omega), Array.getElem?_eq_none (by omega)]
  have h1 := h.os
  have h2 := h.tape
  have h3 := h.output
  obtain ⟨a1, a2, a3, a4, a5⟩ := w'
  obtain ⟨b1, b2, b3, b4, b5⟩ := W
  dsimp only at h1 h2 h3 hh ⊢
  unfold grow atd
  dsimp only
  rw [← hh, h1, h2, h3]

variable {P : Program} {α : Type} [Inhabited α] {enc : α → Value} {w0 W : World} {blk off : Nat} {dk d0 : Array α}
def SZ (enc : α → Value) (w0 : World) (blk off : Nat) (dk : Array α) (W : World) : Prop := ∃ n, SW enc w0 blk off dk (atd W n)
theorem SZ.start (h : Holds enc w0 blk off dk) : SZ enc w0 blk off dk w0 := ⟨w0.drawn, SW.start h⟩
theorem SZ.c1 (h : SZ enc w0 blk off dk W) (R : Row1 enc w0 blk off d0) (hs : dk.size = d0.size) (i : Nat) (hi : i < dk.size) : W.cell? ⟨blk, off + i, none⟩ = some (enc dk[i]!) := by
  obtain ⟨n, h⟩ := h
  exact h.c1 R hs i hi
theorem SZ.f1 (h : SZ enc w0 blk off dk W) (R : Row1 enc w0 blk off d0) (hs : dk.size = d0.size) (i : Nat) (hi : i < dk.size) : W.frozen? ⟨blk, off + i, none⟩ = false := by
  obtain ⟨n, h⟩ := h
  exact h.f1 R hs i hi
theorem SZ.grown (h : SZ enc w0 blk off dk W) (n : Nat) (os : Array Obj) : SZ enc w0 blk off dk (grow (atd W n) os) := by
  obtain ⟨m, h⟩ := h
  exact ⟨m, h.grown 0 os⟩
theorem SZ.cl (h : SZ enc w0 blk off dk W) (R : Row1 enc w0 blk off d0) (hs : dk.size = d0.size) (i : Nat) (hi : i < dk.size) (n : Nat) (os : Array Obj) : (grow (atd W n) os).cell? ⟨blk, off + i, none⟩ = some (enc dk[i]!) := (h.grown n os).c1 R hs i hi
theorem SZ.drew (h : SZ enc w0 blk off dk W) : SZ enc w0 blk off dk W.drew := by
  obtain ⟨m, h⟩ := h
  exact ⟨m, h⟩
theorem SZ.c2 (h : SZ enc w0 blk off dk W) (R : Row1 enc w0 blk off d0) (hs : dk.size = d0.size) (i j : Nat) (hi : i < dk.size) (hj : j < dk.size) (v : Value) :
    ∃ u, (W.setCell ⟨blk, off + i, none⟩ v).cell? ⟨blk, off + j, none⟩ = some u := by
  obtain ⟨m, h⟩ := h
  exact h.c2 R hs i j hi hj v
theorem SZ.swapped (h : SZ enc w0 blk off dk W) (R : Row1 enc w0 blk off d0) (i j : Nat) (hi : i < dk.size) (hj : j < dk.size) :
    SZ enc w0 blk off (swp dk i j) ((W.setCell ⟨blk, off + i, none⟩ (enc dk[j]!)).setCell ⟨blk, off + j, none⟩ (enc dk[i]!)).drew := by
  obtain ⟨m, h⟩ := h
  exact ⟨m, h.swap R.hblk i j hi hj⟩
/-- what is asked of the closure -/
def CmpZ (P : Program) (g : Nat) (cb : Array Value) (enc : α → Value) (cf : α → α → Int) (blk off size : Nat) (w0 : World) : Prop :=
  ∀ (W : World) (dk : Array α), SZ enc w0 blk off dk W → dk.size = size → ∀ x y : α,
    Calls P g (#[enc x, enc y] ++ cb) W fun e w' => e = .returned (.int .i64 (cf x y)) ∧ Below W.heap.size W w'
theorem SZ.cmp {g : Nat} {cb : Array Value} {cf : α → α → Int} {size : Nat} (h : SZ enc w0 blk off dk W) (hC : CmpZ P g cb enc cf blk off size w0) (hs : dk.size = size) (x y : α) (n : Nat) (os : Array Obj) :
    Calls P g (#[enc x, enc y] ++ cb) (grow (atd W n) os) fun e w' => e = .returned (.int .i64 (cf x y)) ∧ ∃ q os', w' = grow (atd (grow (atd W n) os) q) os' :=
  (hC _ dk (h.grown n os) hs x y).mono fun _ _ ⟨he, hb⟩ => ⟨he, below_grow hb⟩

end Go.Proofs.YtlbflckoodjokaaGreat
