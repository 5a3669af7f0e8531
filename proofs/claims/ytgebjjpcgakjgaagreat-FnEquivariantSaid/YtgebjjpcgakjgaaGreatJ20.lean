/-
  LocalTable: the values at all permutations, on both sides.
  LocalTable, whole, on both sides.
  Values taken apart, from short permutations to long ones. Plain.
  Go's stable sort of numbers by a closure that may make memory: what its parts leave.
-/
import Derived.Test.YtgebjjpcgakjgaaGreatJ19
import Derived.Test.YtgebjjpcgakjgaaGreatJ4
import Derived.Test.YtgebjjpcgakjgaaGreatJ5
namespace Go.Proofs.YtgebjjpcgakjgaaGreat
set_option linter.all false
open Go.RowKit

/-- the value at one permutation -/
def tabV (vs ys ws : List Int) : Int := wrap64 (Ev (dblP vs ys) (mono (pickL ws ys)))
def tabL (vs ys : List Int) : List Int := (permsL vs.length).map (tabV vs ys)
theorem tabL_length (vs ys : List Int) : (tabL vs ys).length = fact vs.length := by simp [tabL, permsL]
theorem permsL_length (n : Nat) : (permsL n).length = fact n := by simp [permsL]
def prmB (n : Nat) : Bool := (permsL n).all fun w => permOk w && decide (w.length = n)
set_option maxRecDepth 100000 in
theorem prm_all : ∀ n : Fin 6, 1 ≤ (n : Nat) → prmB n = true := by decide +kernel
theorem prm_p5 {n : Nat} (h1 : 1 ≤ n) (h5 : n ≤ 5) {x : Nat} (hx : x < fact n) : P5 n ((permsL n).getD x []) := by
  have := prm_all ⟨n, by omega⟩ h1
  unfold prmB at this
  rw [List.all_eq_true] at this
  have hm : (permsL n).getD x [] ∈ permsL n := by
    rw [List.getD_eq_getElem?_getD, List.getElem?_eq_getElem (by rw [permsL_length]; exact hx)]
    exact List.getElem_mem _
  have := this _ hm
  rw [Bool.and_eq_true, decide_eq_true_eq] at this
  exact ⟨this.1, this.2, h5⟩
theorem tab_getD {vs ys : List Int} {n x : Nat} (hn : vs.length = n) (hx : x < fact n) : (tabL vs ys).getD x 0 = tabV vs ys ((permsL n).getD x []) := by
  unfold tabL
  rw [hn, List.getD_eq_getElem?_getD, List.getElem?_map, List.getD_eq_getElem?_getD, List.getElem?_eq_getElem (by rw [permsL_length]; exact hx)]
  rfl
theorem tab_take {vs ys : List Int} {n x : Nat} (hn : vs.length = n) (hx : x < fact n) : (tabL vs ys).take (x + 1) = (tabL vs ys).take x ++ [tabV vs ys ((permsL n).getD x [])] := by
  have hl : x < (tabL vs ys).length := by rw [tabL_length, hn]; exact hx
  rw [← tab_getD hn hx, getD_lt hl, List.take_append_getElem]
theorem fact4 {n : Nat} (h1 : 1 ≤ n) (h5 : n ≤ 5) : 1 ≤ fact n ∧ fact n ≤ 120 := by
  have : ∀ n : Fin 6, 1 ≤ fact n ∧ fact n ≤ 120 := by decide
  exact this ⟨n, by omega⟩

set_option maxRecDepth 100000 in
set_option maxHeartbeats 8000000 in
/-- the loop of the program's LocalTable -/
theorem implTable_any (n : Nat) (vs ys : List Int) (pv py : Value) (w : World) (hp : P5 n vs) (h1 : 1 ≤ n) (h4 : n ≤ 4) (hyl : ys.length = n) (hy9 : ∀ x ∈ ys, -9 ≤ x ∧ x ≤ 9) (hv : Ints w pv vs) (hy : Ints w py ys) :
    Calls Tryz.prog 20 #[pv, py] w fun e w' => ∃ u, e = .returned (.tuple #[u, .bool true]) ∧ OwnI 3 w' w.heap.size w'.heap.size u (tabL vs ys) ∧ Below w.heap.size w w' := by
  have HV := Lib.hid hv
  have HY := Lib.hid hy
  have Hp := Lib.hid hp
  have Hvl := Lib.hid hp.len
  have Hyl := Lib.hid hyl
  have Hy9 := Lib.hid hy9
  have h5 := hp.le
  obtain ⟨F, hF⟩ : ∃ F, F = fact n := ⟨_, rfl⟩
  have hf := fact4 h1 h5
  rw [← hF] at hf
  have HF := Lib.hid hF
  obtain ⟨T, hT⟩ : ∃ T, T = tabL vs ys := ⟨_, rfl⟩
  have HT := Lib.hid hT
  have HTl := Lib.hid (show T.length = F by rw [hT, tabL_length, hp.len, hF])
  rw [← hT]
  have Hsh := Lib.hid (show shiftB (n : Int) ys = true by
    unfold shiftB
    rw [hyl, decide_eq_true rfl, decide_eq_true hy9]; rfl)
  obtain ⟨av, cv, rfl, ⟨hv1, hv2⟩, _⟩ := hv
  obtain ⟨ay, cy, rfl, ⟨hy1, hy2⟩, _⟩ := hy
  unfold maxLen at hv2 hy2
  rw [Hvl.out] at HV hv1 ⊢
  rw [hyl] at HY hy1 ⊢
  clear hp hyl hy9 hF hT
  have hni : ¬ (4 : Int) < (n : Int) := by omega
  go_enter Tryz.func20, Tryz.ntmps20
  go_wp2_with fail
  refine (implIsPerm_b _ vs true Hp.out.ok _ HV.out).mono ?_
  rintro e w1 ⟨rfl, hb⟩
  have HB1 := Lib.hid hb
  clear hb
  go_wp2_with fail
  refine (shiftsOk_any _ _ ys _ (HY.out.below HB1.out)).mono ?_
  rintro e w1' ⟨rfl, rfl⟩
  rw [Hsh.out]
  go_wp2_with fail
  refine (double_any _ _ vs ys _ (HV.out.below HB1.out) (HY.out.below HB1.out) (by rw [Hvl.out]; exact h1) (by rw [Hvl.out]; exact h5) (by rw [Hvl.out]; exact Hyl.out) Hy9.out Hp.out.low).mono ?_
  rintro e w3 ⟨u3, rfl, hp3, hb3⟩
  have HP := Lib.hid hp3
  obtain ⟨bf, Df, rfl, _, _⟩ := hp3
  have HB3 := Lib.hid (HB1.out.trans (hb3.mono HB1.out.size))
  have hs13 := HB3.out.size
  clear hb3
  obtain ⟨B0, hB0⟩ : ∃ B, B = w3.heap.size := ⟨_, rfl⟩
  have HB0 := Lib.hid hB0
  rw [← hB0] at hs13
  clear hB0
  go_wp2_with fail
  refine (implAllPerms_any (n : Int) _).mono ?_
  have hap : allPermsL (n : Int) = permsL n := by unfold allPermsL; rw [if_pos (by omega), Int.toNat_natCast]
  rw [hap]
  clear hap
  rintro e w2 ⟨u2, rfl, ho2, hb2⟩
  have hRl : (permsL n).length = F := by rw [permsL_length, HF.out]
  have HRl := Lib.hid hRl
  have e1 : (w3.alloc (.cells #[] 3)).heap.size = B0 + 1 := by rw [size_alloc, HB0.out]
  obtain ⟨p2, k2, rfl, hk2, hk22⟩ := ho2.shape
  rw [hRl] at hk2 ⊢
  unfold maxLen at hk22
  have hs2 : B0 + 1 ≤ w2.heap.size := by rw [← e1]; exact hb2.size
  rw [e1] at ho2
  rw [hRl] at ho2
  have Hrows := Lib.hid ho2
  have Hb2 := Lib.hid (show Below B0 w3 w2 from by rw [HB0.out]; exact (below_alloc w3 _).trans (hb2.mono (by simp)))
  have Ho0 := Lib.hid (show OwnI 3 w2 B0 w2.heap.size (.slice (some ⟨w3.heap.size, 0, none⟩) 0 0) (T.take 0) from by
    rw [List.take_zero]
    have := (OwnF.ints (xs := []) (OwnF.made0 w3 3 (iv []))).below hb2
    rw [← HB0.out] at this ⊢
    exact this.mono (Nat.le_refl _) (by omega))
  clear hRl ho2 hb2 e1
  obtain ⟨M, hM⟩ : ∃ M, M = w2.heap.size := ⟨_, rfl⟩
  rw [← hM] at hs2
  have HM := Lib.hid hM
  clear hM
  go_wp2_with fail
  go_loopg [7, 33] F (fun g s7 s33 wr => ∃ k : Nat, k ≤ F ∧ g = F - k ∧ s33 = .int .i64 (k : Int) ∧ Hid (Below B0 w3 wr) ∧ Hid (M ≤ wr.heap.size) ∧ Hid (OwnII 24 3 wr (B0 + 1) M (.slice p2 F k2) (permsL n)) ∧ Hid (OwnI 3 wr B0 wr.heap.size s7 (T.take k)) ∧ Hid (∀ b, s7.ownBlock = some b → b = B0 ∨ M ≤ b))
  case atStart =>
    refine ⟨0, Nat.zero_le _, rfl, rfl, Hb2, Lib.hid (Nat.le_of_eq HM.out), by rw [HM.out]; exact Hrows, Ho0, Lib.hid fun b hb => .inl ?_⟩
    rw [HB0.out]; cases hb; rfl
  case round =>
    obtain ⟨k, hk, rfl, rfl, hb, hM2, hrows, ho, hbk⟩ := hrel
    obtain ⟨wx, rfl⟩ : ∃ x : World, x = wr := ⟨_, rfl⟩
    have Hb := Lib.hid hb.out
    have Hrw := Lib.hid hrows.out
    have Ho := Lib.hid ho.out
    have Hbk := Lib.hid hbk.out
    have hMx := hM2.out
    have htl : (T.take k).length = k := by rw [List.length_take, HTl.out]; omega
    obtain ⟨p5, k5, rfl, hk5, hk55⟩ := ho.out.shape
    rw [htl] at hk5 ⊢
    have Htl := Lib.hid htl
    have Hbw := Lib.hid (HB3.out.trans (Hb.out.mono hs13))
    clear hb hrows ho hbk hM2 htl
    by_cases hlt : k < F
    · have hki : (k : Int) < (F : Int) := by omega
      have HI : Hid (P5 n ((permsL n).getD k [])) := prm_p5 h1 h5 (by rw [← HF.out]; exact hlt)
      obtain ⟨f, hf1, hf2⟩ := Hrw.out.rd
      rw [HRl.out] at hf1 hf2
      have hr := hf2 k hlt
      have hr' := hr
      obtain ⟨pr, kr, er, ⟨hkr, hkr2⟩, _⟩ := hr'
      obtain ⟨row, hrow⟩ : ∃ row, row = (permsL n).getD k [] := ⟨_, rfl⟩
      rw [← hrow] at hr HI er
      rw [HI.out.len] at er
      rw [er] at hr
      have Hr := Lib.hid hr
      have Hrow := Lib.hid hrow
      obtain ⟨_, _, e0, _, hlc0⟩ := hf1
      injection e0 with e1 e2 e3
      subst e1 e3
      obtain ⟨bl, ol, rfl, hlc⟩ := hlc0 (by omega)
      have d0 := hlc k hlt
      rw [er] at d0
      clear hf2 hr er hrow hlc0 hlc e2 hkr hkr2
      have Htk := Lib.hid (tab_take (ys := ys) Hvl.out (show k < fact n by rw [← HF.out]; exact hlt))
      go_wp2_with fail
      refine (valueAt_any _ _ _ 10 _ (dblP vs ys) row ys _ (HP.out.below (HB0.out ▸ Hb.out)) (by omega) Hr.out (HY.out.below Hbw.out) (by rw [HI.out.len]; omega) (fun i hi => by rw [HI.out.len] at hi; rw [Hyl.out]; exact HI.out.rng hi)).mono ?_
      rintro e w4 ⟨rfl, hb4⟩
      obtain ⟨R, hR⟩ : ∃ R, R = wrap64 (Ev (dblP vs ys) (mono (pickL row ys))) := ⟨_, rfl⟩
      have HR := Lib.hid hR
      rw [← hR]
      have Hb4 := Lib.hid hb4
      have hs4 := hb4.size
      have h0x : B0 ≤ wx.heap.size := by omega
      have Ho4 := Lib.hid (Ho.out.below hb4)
      have Hrw4 := Lib.hid (Hrw.out.below hb4)
      have hbd1 : k + 1 ≤ maxLen := by unfold maxLen; omega
      have hbd2 : (k + 1) * 8 ≤ 140737488355328 := by omega
      clear hb4 hR
      have hofn := Ho4.out.fn
      rw [Htl.out] at hofn
      go_wp2_with (at_builtin; go_must (refine wpList_append_G rfl (.tmp 37) (.tmp 42) 24 rfl 3 (.int .i64 0) 8 Tryz.underlying24 info_int rfl B0 wx.heap.size _ k (iv (T.take k)) rfl (hofn.below (below_alloc w4 _)) (by rw [size_alloc]; omega) (by rw [size_alloc]; omega) _ 1 _ rfl (rd_one _ _ _ rfl) (fun j _ => rfl) hbd1 hbd2 ?_; intro v5 w5 ho5 hg5 hw5))
      have hg6 : (w4.alloc (.cells #[.int .i64 R] 3)).grownBy w5 (Value.slice p5 k k5).ownBlock := hg5
      have hw6 : ∀ b, v5.ownBlock = some b → (Value.slice p5 k k5).ownBlock = some b ∨ w4.heap.size + 1 ≤ b := fun b hb => by have := hw5 b hb; rw [size_alloc] at this; exact this
      have hbk0 := Hbk.out
      rw [Htl.out] at hbk0
      have hs5 : w4.heap.size + 1 ≤ w5.heap.size := by have := hg6.size; rw [size_alloc] at this; exact this
      clear hg5 hw5
      go_wp2_with fail
      go_roundg (F - (k + 1))
      case measure => omega
      case rel =>
        refine ⟨k + 1, hlt, rfl, by go_num, Lib.hid ?_, Lib.hid (by omega), Lib.hid ?_, Lib.hid ?_, Lib.hid fun b hb => ?_⟩
        · exact ((Hb.out.trans (Hb4.out.mono h0x)).trans ((below_alloc w4 _).mono (by omega))).trans (grownBy_below hg6 hofn.blocks (Nat.le_refl _) (by rw [size_alloc]; omega))
        · exact (Hrw4.out.below (below_alloc w4 _)).grown hg6 fun b hb => by rcases hbk0 b hb with h | h <;> omega
        · have e : T.take (k + 1) = T.take k ++ [R] := by
            rw [HT.out, Htk.out, HR.out, ← Hrow.out]; rfl
          rw [e]
          exact OwnI.snoc1 (by rw [Htl.out]; exact ho5)
        · rcases hw6 b hb with h | h
          · exact hbk0 b h
          · exact .inr (by omega)
    · obtain rfl : k = F := by omega
      have hki : ¬ (k : Int) < (k : Int) := by omega
      have hof : OwnI 3 wx B0 wx.heap.size (.slice p5 k k5) T := by
        have := Ho.out
        rwa [Htl.out, List.take_of_length_le (by rw [HTl.out]; exact Nat.le_refl _)] at this
      have Hof := Lib.hid (hof.mono hs13 (Nat.le_refl _))
      clear hof
      go_wp2_with fail
      go_ret2
      exact ⟨_, rfl, Hof.out, Hbw.out⟩

end Go.Proofs.YtgebjjpcgakjgaaGreat

namespace Go.Proofs.YtgebjjpcgakjgaaGreat
set_option linter.all false
open Go.RowKit

def tblOk (vs ys : List Int) : Bool := permOk vs && nmOk vs.length ys && decide (vs.length ≤ 4)
def tblL (vs ys : List Int) : List Int × Bool := if tblOk vs ys then (tabL vs ys, true) else ([], false)
def RetLB (w : World) (r : List Int × Bool) (e : Ending) (w' : World) : Prop := ∃ u, e = .returned (.tuple #[u, .bool r.2]) ∧ OwnI 3 w' w.heap.size w'.heap.size u r.1 ∧ Below w.heap.size w w'
theorem tblL_no {vs ys : List Int} (h : tblOk vs ys = false) : tblL vs ys = ([], false) := by unfold tblL; rw [h]; rfl
theorem tblL_yes {vs ys : List Int} (h : tblOk vs ys = true) : tblL vs ys = (tabL vs ys, true) := by unfold tblL; rw [h]; rfl
theorem tblL_len (vs ys : List Int) : (tblL vs ys).1.length ≤ 120 := by
  unfold tblL
  split
  · rename_i h
    unfold tblOk at h
    simp only [Bool.and_eq_true, decide_eq_true_eq] at h
    have h1 := h.1.1
    simp only [permOk, decide_eq_true_eq] at h1
    show (tabL vs ys).length ≤ 120
    rw [tabL_length]
    exact (fact4 h1.1 (by omega)).2
  · simp
theorem retLB_no {w w' : World} {vs ys : List Int} (h : tblOk vs ys = false) (hb : Below w.heap.size w w') : RetLB w (tblL vs ys) (.returned (.tuple #[.slice none 0 0, .bool false])) w' := by
  rw [tblL_no h]
  exact ⟨_, rfl, own_nil _ _ _ _, hb⟩

set_option maxRecDepth 100000 in
set_option maxHeartbeats 4000000 in
theorem implLocalTable_any (pv py : Value) (vs ys : List Int) (w : World) (hv : Ints w pv vs) (hy : Ints w py ys) :
    Calls Tryz.prog 20 #[pv, py] w (RetLB w (tblL vs ys)) := by
  cases hok : tblOk vs ys with
  | true =>
    have hp := hok
    unfold tblOk at hp
    simp only [Bool.and_eq_true, decide_eq_true_eq] at hp
    have HL := locIs_of hp.1.1 hp.1.1 rfl hp.1.2
    rw [tblL_yes hok]
    exact implTable_any vs.length vs ys pv py w HL.v HL.one hp.2 HL.y HL.y9 hv hy
  | false =>
  have HV := Lib.hid hv
  have HY := Lib.hid hy
  obtain ⟨av, cv, rfl, ⟨hv1, hv2⟩, _⟩ := hv
  obtain ⟨ay, cy, rfl, ⟨hy1, hy2⟩, _⟩ := hy
  unfold maxLen at hv2 hy2
  have No := Lib.hid fun w' (hb : Below w.heap.size w w') => retLB_no hok hb
  have Hok := Lib.hid hok
  clear hok
  go_enter Tryz.func20, Tryz.ntmps20
  cases h1 : permOk vs with
  | false =>
    have H1 := Lib.hid h1
    clear h1
    go_wp2_with fail
    refine (implIsPerm_b _ vs false H1.out _ HV.out).mono ?_
    rintro e w1 ⟨rfl, hb⟩
    go_wp2_with fail
    go_ret2
    exact No.out _ hb
  | true =>
  have H1 := Lib.hid h1
  clear h1
  by_cases h5 : vs.length ≤ 4
  · have h5i : ¬ (4 : Int) < (vs.length : Int) := by omega
    have hone : 1 ≤ vs.length := by have := H1.out; simp only [permOk, decide_eq_true_eq] at this; exact this.1
    have hsh : shiftB (vs.length : Int) ys = false := by
      have := Hok.out
      unfold tblOk at this
      rw [H1.out, decide_eq_true h5, nm_shift (by omega) (by omega)] at this
      simpa using this
    have Hsh := Lib.hid hsh
    clear hsh hone
    go_wp2_with fail
    refine (implIsPerm_b _ vs true H1.out _ HV.out).mono ?_
    rintro e w1 ⟨rfl, hb⟩
    have HB := Lib.hid hb
    clear hb
    go_wp2_with fail
    refine (shiftsOk_any _ _ ys _ (HY.out.below HB.out)).mono ?_
    rintro e w3 ⟨rfl, rfl⟩
    rw [Hsh.out]
    go_wp2_with fail
    go_ret2
    exact No.out _ HB.out
  · have h5i : (4 : Int) < (vs.length : Int) := by omega
    clear h5
    go_wp2_with fail
    refine (implIsPerm_b _ vs true H1.out _ HV.out).mono ?_
    rintro e w1 ⟨rfl, hb⟩
    go_wp2_with fail
    go_ret2
    exact No.out _ hb

end Go.Proofs.YtgebjjpcgakjgaaGreat

namespace Go.Proofs.YtgebjjpcgakjgaaGreat
set_option linter.all false
set_option maxRecDepth 100000
open Go.RowKit

/-- the x-th permutation, and its table -/
def pmA (n x : Nat) : List Int := (permsL n).getD x []
def tbA (n : Nat) (ys : List Int) (x : Nat) : List Int := tabL (pmA n x) ys
structure YOk (n : Nat) (ys : List Int) : Prop where
  one : 1 ≤ n
  four : n ≤ 4
  len : ys.length = n
  nine : ∀ x ∈ ys, -9 ≤ x ∧ x ≤ 9
  dst : DstY n ys
theorem yOk {n : Nat} {ys : List Int} (h : apOk (n : Int) ys = true) : YOk n ys := by
  simp only [apOk, nmOk, Bool.and_eq_true, decide_eq_true_eq] at h
  obtain ⟨⟨⟨⟨⟨a, b⟩, c⟩, d⟩, e⟩, f⟩ := h
  have hl : ys.length = n := by omega
  refine ⟨by omega, by omega, hl, d, fun i j hi hj hne he => ?_⟩
  rw [getD_lt (by omega), getD_lt (by omega)] at he
  have hp := List.pairwise_iff_getElem.1 f
  rcases Nat.lt_or_gt_of_ne hne with h | h
  · exact hp i j (by omega) (by omega) h he
  · exact hp j i (by omega) (by omega) h he.symm
theorem YOk.ap {n : Nat} {ys : List Int} (h : YOk n ys) : apOk (n : Int) ys = true := by
  have h1 := h.one
  have h2 := h.four
  have h3 := h.len
  simp only [apOk, nmOk, Bool.and_eq_true, decide_eq_true_eq]
  refine ⟨⟨⟨⟨⟨by omega, by omega⟩, by omega⟩, h.nine⟩, by omega⟩, ?_⟩
  rw [List.nodup_iff_pairwise_ne, List.pairwise_iff_getElem]
  intro i j hi hj hij he
  refine h.dst i j (by omega) (by omega) (by omega) ?_
  rw [getD_lt (by omega), getD_lt (by omega)]
  exact he
section
variable {n : Nat} {ys : List Int}
theorem pm_p5 (hy : YOk n ys) {x : Nat} (hx : x < fact n) : P5 n (pmA n x) := prm_p5 hy.one (by have := hy.four; omega) hx
theorem tb_length (hy : YOk n ys) {x : Nat} (hx : x < fact n) : (tbA n ys x).length = fact n := by unfold tbA; rw [tabL_length, (pm_p5 hy hx).len]
theorem wrap_of {a : Int} (h : a.natAbs ≤ 1000000000000000000) : wrap64 a = a := by unfold wrap64; omega
theorem tb_at (hy : YOk n ys) {x i : Nat} (hx : x < fact n) (hi : i < fact n) : (tbA n ys x).getD i 0 = FW n ys (pmA n x) (pmA n i) := by
  have hp := pm_p5 hy hx
  unfold tbA
  rw [tab_getD hp.len hi]
  have hb := FW_bound hy.len hy.one hy.four hy.nine hp (pm_p5 hy hi)
  unfold tabV
  have e : Ev (dblP (pmA n x) ys) (mono (pickL ((permsL n).getD i []) ys)) = FW n ys (pmA n x) (pmA n i) := by
    unfold FW EV dblP
    rw [hp.len]; rfl
  rw [e]
  exact wrap_of (by omega)
theorem tb_bound (hy : YOk n ys) {x i : Nat} (hx : x < fact n) (hi : i < fact n) : ((tbA n ys x).getD i 0).natAbs ≤ 1000000 := by
  rw [tb_at hy hx hi]
  exact FW_bound hy.len hy.one hy.four hy.nine (pm_p5 hy hx) (pm_p5 hy hi)
theorem tb_ne (hy : YOk n ys) {x : Nat} (hx : x < fact n) : (tbA n ys x).getD x 0 ≠ 0 := by
  rw [tb_at hy hx hx]
  exact FW_ne hy.len (pm_p5 hy hx) hy.dst
end

/-- so many times a table taken off -/
def subL (rest : List Int) (c : Int) (t : List Int) : List Int := (List.range rest.length).map fun i => rest.getD i 0 - c * t.getD i 0
theorem subL_length (rest : List Int) (c : Int) (t : List Int) : (subL rest c t).length = rest.length := by simp [subL]
theorem subL_getD {rest t : List Int} {c : Int} {i : Nat} (h : i < rest.length) : (subL rest c t).getD i 0 = rest.getD i 0 - c * t.getD i 0 := by simp [subL, List.getD_eq_getElem?_getD, h]
/-- how often a permutation goes in -/
def qoA (n : Nat) (ys rest : List Int) (x : Nat) : Int := (rest.getD x 0).tdiv ((tbA n ys x).getD x 0)
def badA (n : Nat) (ys rest : List Int) (x : Nat) : Prop := qoA n ys rest x * (tbA n ys x).getD x 0 ≠ rest.getD x 0 ∨ qoA n ys rest x < -1000000000 ∨ 1000000000 < qoA n ys rest x
instance (n : Nat) (ys rest : List Int) (x : Nat) : Decidable (badA n ys rest x) := by unfold badA; exact inferInstance
def exGo (n : Nat) (ys : List Int) : List Nat → List Int → List Cls → Option (List Cls)
  | [], _, out => some out
  | x :: l, rest, out =>
    if badA n ys rest x then none
    else if qoA n ys rest x = 0 then exGo n ys l rest out
    else exGo n ys l (subL rest (qoA n ys rest x) (tbA n ys x)) (out ++ [(trimL (pmA n x), qoA n ys rest x)])
/-- what ExpandLocal says of values that pass -/
def resE (o : Option (List Cls)) : List Cls × Bool := match o with | none => ([], false) | some out => (srtC out, true)
def expE (n : Nat) (vs ys : List Int) (ord : List Nat) : List Cls × Bool := resE (exGo n ys ord vs [])

/-- what is left is not great -/
def RestOk (n k : Nat) (rest : List Int) : Prop := rest.length = fact n ∧ ∀ i, i < fact n → (rest.getD i 0).natAbs ≤ 1000000000000 + k * 1000000000000000
theorem RestOk.mono {n k : Nat} {rest : List Int} (h : RestOk n k rest) : RestOk n (k + 1) rest := ⟨h.1, fun i hi => Nat.le_trans (h.2 i hi) (Nat.add_le_add_left (Nat.mul_le_mul_right _ (Nat.le_succ k)) _)⟩
theorem abs_mul2 {a b : Int} {A B : Nat} (h1 : a.natAbs ≤ A) (h2 : b.natAbs ≤ B) : (a * b).natAbs ≤ A * B := by rw [Int.natAbs_mul]; exact Nat.mul_le_mul h1 h2
theorem RestOk.sub {n k : Nat} {rest ys : List Int} (hy : YOk n ys) {x : Nat} (hx : x < fact n) {c : Int} (hc : c.natAbs ≤ 1000000000) (h : RestOk n k rest) : RestOk n (k + 1) (subL rest c (tbA n ys x)) := by
  refine ⟨by rw [subL_length]; exact h.1, fun i hi => ?_⟩
  rw [subL_getD (by rw [h.1]; exact hi)]
  have a := h.2 i hi
  have b := abs_mul2 hc (tb_bound hy hx hi)
  have e : (k + 1) * 1000000000000000 = k * 1000000000000000 + 1000000000 * 1000000 := Nat.succ_mul _ _
  rw [e]
  obtain ⟨X, hX⟩ : ∃ X, X = k * 1000000000000000 := ⟨_, rfl⟩
  rw [← hX] at a ⊢
  obtain ⟨Y, hY⟩ : ∃ Y, Y = 1000000000 * 1000000 := ⟨_, rfl⟩
  rw [← hY] at b ⊢
  clear hX hY e
  omega
theorem qo_good {n : Nat} {ys rest : List Int} {x : Nat} (h : ¬ badA n ys rest x) : qoA n ys rest x * (tbA n ys x).getD x 0 = rest.getD x 0 ∧ (qoA n ys rest x).natAbs ≤ 1000000000 := by
  unfold badA at h
  refine ⟨?_, by omega⟩
  by_cases e : qoA n ys rest x * (tbA n ys x).getD x 0 = rest.getD x 0
  · exact e
  · exact absurd (.inl e) h
theorem tdiv_abs (a b : Int) : (a.tdiv b).natAbs ≤ a.natAbs := by rw [Int.natAbs_tdiv]; exact Nat.div_le_self _ _
theorem tdiv_mul_abs (a b : Int) : (a.tdiv b * b).natAbs ≤ a.natAbs := by rw [Int.natAbs_mul, Int.natAbs_tdiv]; exact Nat.div_mul_le_self _ _
/-- .. and how it is asked by the remainder -/
theorem qo_mod {a b : Int} : a.tdiv b * b = a ↔ a.tmod b = 0 := by
  have := Int.mul_tdiv_add_tmod a b
  rw [Int.mul_comm] at this
  omega

/-- how the classes stand in what was done -/
def trimB (n : Nat) : Bool := decide (((List.range (fact n)).map fun x => trimL (pmA n x)).Nodup)
set_option maxRecDepth 100000 in
theorem trim_all : ∀ n : Fin 4, trimB (n.val + 1) = true := by decide +kernel
theorem trim_nodup {n : Nat} (h1 : 1 ≤ n) (h4 : n ≤ 4) : ((List.range (fact n)).map fun x => trimL (pmA n x)).Nodup := by
  have := trim_all ⟨n - 1, by omega⟩
  rw [show (⟨n - 1, by omega⟩ : Fin 4).val + 1 = n by simp; omega] at this
  exact of_decide_eq_true this
/-- classes out of some of the permutations that were done -/
def OutOk (n : Nat) (done : List Nat) (out : List Cls) : Prop := (out.map (·.1)).Sublist (done.map fun x => trimL (pmA n x))
theorem OutOk.skip {n : Nat} {done : List Nat} {out : List Cls} (h : OutOk n done out) (x : Nat) : OutOk n (done ++ [x]) out := by
  unfold OutOk at *
  rw [List.map_append]
  exact h.trans (List.sublist_append_left _ _)
theorem OutOk.snoc {n : Nat} {done : List Nat} {out : List Cls} (h : OutOk n done out) (x : Nat) (c : Int) : OutOk n (done ++ [x]) (out ++ [(trimL (pmA n x), c)]) := by
  unfold OutOk at *
  rw [List.map_append, List.map_append]
  exact h.append (List.Sublist.refl _)
theorem OutOk.nodup {n : Nat} (h1 : 1 ≤ n) (h4 : n ≤ 4) {done l : List Nat} {out : List Cls} (h : OutOk n done out) (hp : (done ++ l).Perm (List.range (fact n))) : (out.map (·.1)).Nodup := by
  refine List.Nodup.sublist h ?_
  have a : ((done ++ l).map fun x => trimL (pmA n x)).Nodup := (List.Perm.nodup_iff (hp.map _)).2 (trim_nodup h1 h4)
  rw [List.map_append] at a
  exact (List.nodup_append.1 a).1
theorem OutOk.length {n : Nat} {done l : List Nat} {out : List Cls} (h : OutOk n done out) (hp : (done ++ l).Perm (List.range (fact n))) : out.length ≤ fact n := by
  have a := h.length_le
  have b := hp.length_eq
  rw [List.length_map, List.length_map] at a
  rw [List.length_append, List.length_range] at b
  omega
theorem srtC_snoc (cs : List Cls) (c : Cls) : srtC (cs ++ [c]) = insC c (srtC cs) := by unfold srtC; rw [List.foldl_append]; rfl

end Go.Proofs.YtgebjjpcgakjgaaGreat

namespace Go.Proofs.YtgebjjpcgakjgaaGreat
set_option linter.all false
open Go.RowKit Go.Shelf Go.Sort Go.Lib

variable {α : Type} [Inhabited α]
theorem swInj {a b : Int} (h : a = b) : Value.int .i64 a = .int .i64 b := by rw [h]

set_option maxHeartbeats 4000000 in
set_option maxRecDepth 1000000 in
theorem swapRange_any (enc : α → Value) (fv : Value) (blk off cap a b n : Nat) (d0 d : Array α) (w0 w : World) (R : Row1 enc w0 blk off d0) (hs : d0.size = d.size) (S : SZ enc w0 blk off d w) (ha : a + n ≤ d.size) (hb : b + n ≤ d.size) (hsz : d.size < 4611686018427387904) :
    Calls Tryz.prog 98 #[.slice (some ⟨blk, off, none⟩) d.size cap, .int .i64 (a : Int), .int .i64 (b : Int), .int .i64 (n : Int), fv] w fun e w' => e = .returned (.tuple #[]) ∧ SZ enc w0 blk off (swR a b n d) w' := by
  have hcl0 := R.hO.cells
  simp only [Value.cells] at hcl0
  have hst := R.hO.store Tryz.prog
  have mixed := Tryz.insI.mixed
  have S0 : Aside (SZ enc w0 blk off d w) := S
  clear S
  go_enter Tryz.func98, Tryz.ntmps98
  go_wp2
  go_loopg [10] n (fun g1 vi wr => ∃ (i : Nat) (dk : Array α), vi = .int .i64 i ∧ i ≤ n ∧ n - i ≤ g1 ∧ dk.size = d.size ∧ Aside (SZ enc w0 blk off dk wr) ∧ Hid (dk = swR a b i d))
  case atStart => exact ⟨0, d, by go_num, by omega, by omega, rfl, S0, rfl⟩
  case round =>
    clear S0
    obtain ⟨i, dk, rfl, hin, hg1, hsk, S1, HD⟩ := hrel
    by_cases hlt : i < n
    · have hltz : (i : Int) < (n : Int) := by omega
      obtain ⟨iN1, hiN1⟩ : ∃ zz, zz = a + i := ⟨_, rfl⟩
      obtain ⟨jN1, hjN1⟩ : ∃ zz, zz = b + i := ⟨_, rfl⟩
      have eaN1 : ((a : Int) + (i : Int)).toNat = iN1 := by omega
      have paN1 : (0 : Int) ≤ (a : Int) + (i : Int) := by omega
      have baN1 : (a : Int) + (i : Int) < (d.size : Int) := by omega
      have raN1 : IntKind.i64.wrap ((a : Int) + (i : Int)) = (a : Int) + (i : Int) := by rw [IntKind.wrap_i64]; omega
      have ecN1 : ((b : Int) + (i : Int)).toNat = jN1 := by omega
      have pcN1 : (0 : Int) ≤ (b : Int) + (i : Int) := by omega
      have bcN1 : (b : Int) + (i : Int) < (d.size : Int) := by omega
      have rcN1 : IntKind.i64.wrap ((b : Int) + (i : Int)) = (b : Int) + (i : Int) := by rw [IntKind.wrap_i64]; omega
      obtain ⟨xN1, hxN1⟩ : ∃ x, x = dk[a + i]! := ⟨_, rfl⟩
      obtain ⟨yN1, hyN1⟩ : ∃ x, x = dk[b + i]! := ⟨_, rfl⟩
      have S2 : Aside (SZ enc w0 blk off (swp dk (a + i) (b + i)) ((wr.setCell ⟨blk, off + iN1, none⟩ (enc yN1)).setCell ⟨blk, off + jN1, none⟩ (enc xN1)).drew) := by rw [hiN1, hjN1, hxN1, hyN1]; exact S1.out.swapped R (a + i) (b + i) (by omega) (by omega)
      have cN1a := S1.out.c1 R (by omega) (a + i) (by omega)
      have cN1b := S1.out.c1 R (by omega) (b + i) (by omega)
      have fN1a := S1.out.f1 R (by omega) (a + i) (by omega)
      have fN1b := S1.out.f1 R (by omega) (b + i) (by omega)
      obtain ⟨uN1, cN1c⟩ := S1.out.c2 R (by omega) (a + i) (b + i) (by omega) (by omega) (enc yN1)
      rw [← hjN1, ← hiN1] at cN1c
      rw [← hxN1, ← hiN1] at cN1a
      rw [← hyN1, ← hjN1] at cN1b
      rw [← hiN1] at fN1a
      rw [← hjN1] at fN1b
      clear S1 hxN1 hyN1 hiN1 hjN1
      go_wp2_with fail
      go_big_region_o
      clear cN1a cN1b cN1c fN1a fN1b
      generalize ((wr.setCell ⟨blk, off + iN1, none⟩ (enc yN1)).setCell ⟨blk, off + jN1, none⟩ (enc xN1)).drew = w2 at S2 ⊢
      clear eaN1 ecN1 paN1 baN1 raN1 pcN1 bcN1 rcN1
      go_wp2
      go_roundg (n - (i + 1))
      case measure => omega
      case rel => exact ⟨i + 1, swp dk (a + i) (b + i), by first | rfl | go_num | (congr 1; omega), by omega, Nat.le_refl _, by rw [size_swp]; exact hsk, S2, (show Hid _ from by rw [HD.out]; exact rfl)⟩
    · have hltz : ¬ (i : Int) < (n : Int) := by omega
      go_wp2
      go_end0
      have hin2 : i = n := by omega
      refine ⟨rfl, ?_⟩
      have := S1.out
      rw [HD.out, hin2] at this
      exact this

set_option maxHeartbeats 4000000 in
set_option maxRecDepth 1000000 in
theorem rotate_any (enc : α → Value) (fv : Value) (blk off cap a m b : Nat) (d0 d : Array α) (w0 w : World) (R : Row1 enc w0 blk off d0) (hs : d0.size = d.size) (S : SZ enc w0 blk off d w) (ham : a < m) (hmb : m < b) (hb : b ≤ d.size) (hsz : d.size < 4611686018427387904) :
    Calls Tryz.prog 79 #[.slice (some ⟨blk, off, none⟩) d.size cap, .int .i64 (a : Int), .int .i64 (m : Int), .int .i64 (b : Int), fv] w fun e w' => e = .returned (.tuple #[]) ∧ SZ enc w0 blk off (rotA m (b - a) (m - a) (b - m) d) w' := by
  obtain ⟨K, hK⟩ : ∃ K, K = rotA m (b - a) (m - a) (b - m) d := ⟨_, rfl⟩
  rw [← hK]
  have HK := Lib.hid hK
  clear hK
  have S0 : Aside (SZ enc w0 blk off d w) := S
  clear S
  have hw1 : IntKind.i64.wrap ((m : Int) - (a : Int)) = ((m - a : Nat) : Int) := by rw [IntKind.wrap_i64]; omega
  have hw2 : IntKind.i64.wrap ((b : Int) - (m : Int)) = ((b - m : Nat) : Int) := by rw [IntKind.wrap_i64]; omega
  have hz1 : (m : Int) - (a : Int) = ((m - a : Nat) : Int) := by omega
  have hz2 : (b : Int) - (m : Int) = ((b - m : Nat) : Int) := by omega
  have Hz1 := Lib.hid hz1
  have Hz2 := Lib.hid hz2
  clear hz1 hz2 hw1 hw2
  go_enter Tryz.func79, Tryz.ntmps79
  go_wp2
  go_loopg [10, 11] (b - a) (fun g1 vi vj wr => ∃ (i j : Nat) (dk : Array α), vi = .int .i64 i ∧ vj = .int .i64 j ∧ 1 ≤ i ∧ 1 ≤ j ∧ i ≤ m - a ∧ j ≤ b - m ∧ i + j ≤ g1 ∧ dk.size = d.size ∧ Aside (SZ enc w0 blk off dk wr) ∧ Hid (rotA m g1 i j dk = K))
  case atStart => exact ⟨m - a, b - m, d, by first | exact swInj Hz1.out | go_num, by first | exact swInj Hz2.out | go_num, by omega, by omega, Nat.le_refl _, Nat.le_refl _, by omega, rfl, S0, HK.out.symm⟩
  case round =>
    clear S0
    obtain ⟨i, j, dk, rfl, rfl, hi1, hj1, him, hjb, hg1, hsk, S1, HD⟩ := hrel
    have hmi : (m : Int) - (i : Int) = ((m - i : Nat) : Int) := by omega
    have Hmi := Lib.hid hmi
    clear hmi
    have Hsk := Lib.hid hsk
    obtain ⟨gg, hgg⟩ : ∃ gg, gk = gg + 1 := ⟨gk - 1, by omega⟩
    by_cases hij : i = j
    · have e0 : ((i : Int) != (j : Int)) = false := by simp [hij]
      have Hij := Lib.hid hij
      clear hij hsk
      go_wp2_with fail
      rw [Hmi.out, ← Hsk.out]
      refine (swapRange_any enc fv blk off cap (m - i) m i d0 dk w0 _ R (by rw [Hsk.out]; exact hs) S1.out (by have := Hsk.out; omega) (by have := Hsk.out; have := Hij.out; omega) (by rw [Hsk.out]; exact hsz)).mono ?_
      rintro e w2 ⟨rfl, hS2⟩
      go_wp2_with fail
      go_end0
      refine ⟨rfl, ?_⟩
      have := HD.out
      rw [hgg, rotA, if_pos Hij.out] at this
      rw [← this]
      exact hS2
    · have e0 : ((i : Int) != (j : Int)) = true := by simp; omega
      by_cases hji : j < i
      · have hjiz : (j : Int) < (i : Int) := by omega
        have Hij := Lib.hid hij
        clear hij hsk
        go_wp2_with fail
        rw [Hmi.out, ← Hsk.out]
        refine (swapRange_any enc fv blk off cap (m - i) m j d0 dk w0 _ R (by rw [Hsk.out]; exact hs) S1.out (by have := Hsk.out; omega) (by have := Hsk.out; omega) (by rw [Hsk.out]; exact hsz)).mono ?_
        rintro e w2 ⟨rfl, hS2⟩
        have S3 : Aside (SZ enc w0 blk off (swR (m - i) m j dk) w2) := hS2
        clear hS2 S1
        rw [Hsk.out]
        go_wp2_with fail
        go_roundg gg
        case measure => omega
        case rel => exact ⟨i - j, j, _, by first | go_num | exact swInj (by omega), rfl, by omega, hj1, by omega, hjb, by omega, by rw [size_swR]; exact Hsk.out, S3, (show Hid _ from by
          have := HD.out
          rw [hgg, rotA, if_neg Hij.out, if_pos hji] at this
          exact this)⟩
      · have hjiz : ¬ (j : Int) < (i : Int) := by omega
        have hmj : (m : Int) + (j : Int) - (i : Int) = ((m + j - i : Nat) : Int) := by omega
        have Hmj := Lib.hid hmj
        have Hij := Lib.hid hij
        clear hij hsk hmj
        go_wp2_with fail
        rw [Hmi.out, Hmj.out, ← Hsk.out]
        refine (swapRange_any enc fv blk off cap (m - i) (m + j - i) i d0 dk w0 _ R (by rw [Hsk.out]; exact hs) S1.out (by have := Hsk.out; omega) (by have := Hsk.out; omega) (by rw [Hsk.out]; exact hsz)).mono ?_
        rintro e w2 ⟨rfl, hS2⟩
        have S3 : Aside (SZ enc w0 blk off (swR (m - i) (m + j - i) i dk) w2) := hS2
        clear hS2 S1
        rw [Hsk.out]
        go_wp2_with fail
        go_roundg gg
        case measure => omega
        case rel => exact ⟨i, j - i, _, rfl, by first | go_num | exact swInj (by have := Hij.out; omega), hi1, by have := Hij.out; omega, him, by omega, by omega, by rw [size_swR]; exact Hsk.out, S3, (show Hid _ from by
          have := HD.out
          rw [hgg, rotA, if_neg Hij.out, if_neg hji] at this
          exact this)⟩


set_option maxHeartbeats 16000000 in
set_option maxRecDepth 1000000 in
theorem insertion_any (enc : α → Value) (cf : α → α → Int) (g : Nat) (cb : Array Value) (blk off cap a b : Nat) (d0 d : Array α) (w0 w : World)
    (eg : ∀ args w, (callFunc g args).run Tryz.prog w = .ok (.enter g args) w) (hcmp : CmpZ Tryz.prog g cb enc cf blk off d0.size w0) (R : Row1 enc w0 blk off d0) (hs : d0.size = d.size) (S : SZ enc w0 blk off d w) (hab : a ≤ b) (hb : b ≤ d.size) (hsz : d.size < 4611686018427387904) :
    Calls Tryz.prog 73 #[.slice (some ⟨blk, off, none⟩) d.size cap, .int .i64 (a : Int), .int .i64 (b : Int), .func (.func g) #[] cb] w fun e w' => e = .returned (.tuple #[]) ∧ SZ enc w0 blk off (Sort.insertionSort (ltOf cf) d a b) w' := by
  have hcl0 := R.hO.cells
  simp only [Value.cells] at hcl0
  have hst := R.hO.store Tryz.prog
  have mixed := Tryz.insI.mixed
  have HC : Aside _ := hcmp
  have S0 : Aside (SZ enc w0 blk off d w) := S
  clear S
  clear hcmp
  go_enter Tryz.func73, Tryz.ntmps73
  go_wp2
  go_loopg [8] (b - a) (fun g1 vi wr => ∃ (i : Nat) (dk : Array α), vi = .int .i64 i ∧ a < i ∧ i ≤ b + 1 ∧ b + 1 - i ≤ g1 + 1 ∧ dk.size = d.size ∧ Aside (SZ enc w0 blk off dk wr) ∧ Hid (insOuter (ltOf cf) a b i dk = insOuter (ltOf cf) a b (a + 1) d))
  case atStart => exact ⟨a + 1, d, by go_num, by omega, by omega, by omega, rfl, S0, rfl⟩
  case round =>
    clear S0
    obtain ⟨i, dk, rfl, hai, hib, hg1, hsk, S1, HO⟩ := hrel
    by_cases hlt : i < b
    · have hltz : (i : Int) < (b : Int) := by omega
      go_wp2
      go_loopg [9] i (fun g2 vj wr2 => ∃ (j : Nat) (dj : Array α), vj = .int .i64 j ∧ a ≤ j ∧ j ≤ i ∧ j ≤ g2 ∧ dj.size = d.size ∧ Aside (SZ enc w0 blk off dj wr2) ∧ Hid (insInner (ltOf cf) a j dj = insInner (ltOf cf) a i dk))
      case atStart => exact ⟨i, dk, rfl, by omega, Nat.le_refl _, Nat.le_refl _, hsk, S1, rfl⟩
      case round =>
        clear S1
        obtain ⟨j, dj, rfl, haj, hji, hg2, hsj, SJ, HI⟩ := hrel
        have out : (j ≤ a ∨ (ltOf cf) dj[j]! dj[j - 1]! = false) → Hid (insOuter (ltOf cf) a b (i + 1) dj = insOuter (ltOf cf) a b (a + 1) d) := fun hs => by
          show _ = _
          rw [← HO.out, insOuter_go _ _ _ _ _ hlt, ← HI.out, insInner_stop _ _ _ _ hs]
        have OUT : Aside _ := out
        clear out
        by_cases hja : a < j
        · have hjaz : (a : Int) < (j : Int) := by omega
          obtain ⟨jp, hjp⟩ : ∃ q, q + 1 = j := ⟨j - 1, by omega⟩
          have zjp : (j : Int) = (jp : Int) + 1 := by omega
          have hjad : decide ((jp : Int) + 1 > (a : Int)) = true := decide_eq_true (by omega)
          have hjaz' : (a : Int) < (jp : Int) + 1 := by omega
          cases hlv : (ltOf cf) dj[j]! dj[j - 1]! with
          | true =>
            obtain ⟨iN2, hiN2⟩ : ∃ zz, zz = j := ⟨_, rfl⟩
            obtain ⟨jN2, hjN2⟩ : ∃ zz, zz = j - 1 := ⟨_, rfl⟩
            have eaN2 : ((jp : Int) + 1).toNat = iN2 := by omega
            have paN2 : (0 : Int) ≤ (jp : Int) + 1 := by omega
            have baN2 : (jp : Int) + 1 < (d.size : Int) := by omega
            have raN2 : IntKind.i64.wrap ((jp : Int) + 1) = (jp : Int) + 1 := by rw [IntKind.wrap_i64]; omega
            have ecN2 : ((jp : Int)).toNat = jN2 := by omega
            have pcN2 : (0 : Int) ≤ (jp : Int) := by omega
            have bcN2 : (jp : Int) < (d.size : Int) := by omega
            have rcN2 : IntKind.i64.wrap ((jp : Int)) = (jp : Int) := by rw [IntKind.wrap_i64]; omega
            obtain ⟨xN2, hxN2⟩ : ∃ x, x = dj[j]! := ⟨_, rfl⟩
            obtain ⟨yN2, hyN2⟩ : ∃ x, x = dj[j - 1]! := ⟨_, rfl⟩
            have lN2a := SJ.out.cl R (by omega) (j) (by omega)
            have lN2b := SJ.out.cl R (by omega) (j - 1) (by omega)
            rw [← hxN2, ← hiN2] at lN2a
            rw [← hyN2, ← hjN2] at lN2b
            have hcN2 := SJ.out.cmp HC.out (by omega) xN2 yN2
            have hvN2 : cf xN2 yN2 < 0 := by rw [hxN2, hyN2]; exact of_decide_eq_true hlv
            have hdN2 : decide (cf xN2 yN2 < 0) = true := decide_eq_true hvN2
            clear hxN2 hyN2 hiN2 hjN2
            go_wp2_with fail
            refine wp_region_quiet_z (by assumption) (by kernel_rfl) ?_
            repeat (quiet_step (first | (go_at_fn g; refine grown_z (hcN2 _ _))))
            refine wpQuiet_nil ?_
            intro _ hw'
            obtain ⟨⟨nq, osq⟩, hw''⟩ := hw'
            subst hw''
            have S2 : Aside (SZ enc w0 blk off dj (grow (atd wr nq) osq)) := SJ.out.grown nq osq
            clear lN2a lN2b hcN2 SJ
            generalize grow (atd wr nq) osq = w2 at S2 ⊢
            clear nq osq
            clear eaN2 ecN2 paN2 baN2 raN2 pcN2 bcN2 rcN2
            go_wp2_with fail
            obtain ⟨iN3, hiN3⟩ : ∃ zz, zz = j := ⟨_, rfl⟩
            obtain ⟨jN3, hjN3⟩ : ∃ zz, zz = j - 1 := ⟨_, rfl⟩
            have eaN3 : ((jp : Int) + 1).toNat = iN3 := by omega
            have paN3 : (0 : Int) ≤ (jp : Int) + 1 := by omega
            have baN3 : (jp : Int) + 1 < (d.size : Int) := by omega
            have raN3 : IntKind.i64.wrap ((jp : Int) + 1) = (jp : Int) + 1 := by rw [IntKind.wrap_i64]; omega
            have ecN3 : ((jp : Int)).toNat = jN3 := by omega
            have pcN3 : (0 : Int) ≤ (jp : Int) := by omega
            have bcN3 : (jp : Int) < (d.size : Int) := by omega
            have rcN3 : IntKind.i64.wrap ((jp : Int)) = (jp : Int) := by rw [IntKind.wrap_i64]; omega
            obtain ⟨xN3, hxN3⟩ : ∃ x, x = dj[j]! := ⟨_, rfl⟩
            obtain ⟨yN3, hyN3⟩ : ∃ x, x = dj[j - 1]! := ⟨_, rfl⟩
            have S3 : Aside (SZ enc w0 blk off (swp dj (j) (j - 1)) ((w2.setCell ⟨blk, off + iN3, none⟩ (enc yN3)).setCell ⟨blk, off + jN3, none⟩ (enc xN3)).drew) := by rw [hiN3, hjN3, hxN3, hyN3]; exact S2.out.swapped R (j) (j - 1) (by omega) (by omega)
            have cN3a := S2.out.c1 R (by omega) (j) (by omega)
            have cN3b := S2.out.c1 R (by omega) (j - 1) (by omega)
            have fN3a := S2.out.f1 R (by omega) (j) (by omega)
            have fN3b := S2.out.f1 R (by omega) (j - 1) (by omega)
            obtain ⟨uN3, cN3c⟩ := S2.out.c2 R (by omega) (j) (j - 1) (by omega) (by omega) (enc yN3)
            rw [← hjN3, ← hiN3] at cN3c
            rw [← hxN3, ← hiN3] at cN3a
            rw [← hyN3, ← hjN3] at cN3b
            rw [← hiN3] at fN3a
            rw [← hjN3] at fN3b
            clear S2 hxN3 hyN3 hiN3 hjN3
            go_wp2_with fail
            go_big_region_o
            clear cN3a cN3b cN3c fN3a fN3b
            generalize ((w2.setCell ⟨blk, off + iN3, none⟩ (enc yN3)).setCell ⟨blk, off + jN3, none⟩ (enc xN3)).drew = w3 at S3 ⊢
            clear eaN3 ecN3 paN3 baN3 raN3 pcN3 bcN3 rcN3
            go_wp2
            go_roundg (j - 1)
            case measure => omega
            case rel => exact ⟨j - 1, swp dj j (j - 1), by first | rfl | go_num | (congr 1; omega), by omega, by omega, Nat.le_refl _, by rw [size_swp]; exact hsj, S3, (show Hid _ from by rw [← HI.out, insInner_go (ltOf cf) a j dj hja hlv]; exact rfl)⟩
          | false =>
            obtain ⟨iN4, hiN4⟩ : ∃ zz, zz = j := ⟨_, rfl⟩
            obtain ⟨jN4, hjN4⟩ : ∃ zz, zz = j - 1 := ⟨_, rfl⟩
            have eaN4 : ((jp : Int) + 1).toNat = iN4 := by omega
            have paN4 : (0 : Int) ≤ (jp : Int) + 1 := by omega
            have baN4 : (jp : Int) + 1 < (d.size : Int) := by omega
            have raN4 : IntKind.i64.wrap ((jp : Int) + 1) = (jp : Int) + 1 := by rw [IntKind.wrap_i64]; omega
            have ecN4 : ((jp : Int)).toNat = jN4 := by omega
            have pcN4 : (0 : Int) ≤ (jp : Int) := by omega
            have bcN4 : (jp : Int) < (d.size : Int) := by omega
            have rcN4 : IntKind.i64.wrap ((jp : Int)) = (jp : Int) := by rw [IntKind.wrap_i64]; omega
            obtain ⟨xN4, hxN4⟩ : ∃ x, x = dj[j]! := ⟨_, rfl⟩
            obtain ⟨yN4, hyN4⟩ : ∃ x, x = dj[j - 1]! := ⟨_, rfl⟩
            have lN4a := SJ.out.cl R (by omega) (j) (by omega)
            have lN4b := SJ.out.cl R (by omega) (j - 1) (by omega)
            rw [← hxN4, ← hiN4] at lN4a
            rw [← hyN4, ← hjN4] at lN4b
            have hcN4 := SJ.out.cmp HC.out (by omega) xN4 yN4
            have hvN4 : ¬ cf xN4 yN4 < 0 := by rw [hxN4, hyN4]; exact of_decide_eq_false hlv
            have hdN4 : decide (cf xN4 yN4 < 0) = false := decide_eq_false hvN4
            clear hxN4 hyN4 hiN4 hjN4
            go_wp2_with fail
            refine wp_region_quiet_z (by assumption) (by kernel_rfl) ?_
            repeat (quiet_step (first | (go_at_fn g; refine grown_z (hcN4 _ _))))
            refine wpQuiet_nil ?_
            intro _ hw'
            obtain ⟨⟨nq, osq⟩, hw''⟩ := hw'
            subst hw''
            have S2 : Aside (SZ enc w0 blk off dj (grow (atd wr nq) osq)) := SJ.out.grown nq osq
            clear lN4a lN4b hcN4 SJ
            generalize grow (atd wr nq) osq = w2 at S2 ⊢
            clear nq osq
            clear eaN4 ecN4 paN4 baN4 raN4 pcN4 bcN4 rcN4
            go_wp2_with fail
            go_roundg (b - (i + 1))
            case measure => omega
            case rel => exact ⟨i + 1, dj, by go_num, by omega, by omega, by omega, hsj, S2, OUT.out (Or.inr hlv)⟩
        · have hjaz : decide ((j : Int) > (a : Int)) = false := decide_eq_false (by omega)
          have hjaz' : ¬ (a : Int) < (j : Int) := by omega
          go_wp2_with fail
          go_big_region_o
          have S2 : Aside (SZ enc w0 blk off dj wr.drew) := SJ.out.drew
          clear SJ
          generalize wr.drew = w2 at S2 ⊢
          go_wp2
          go_roundg (b - (i + 1))
          case measure => omega
          case rel => exact ⟨i + 1, dj, by go_num, by omega, by omega, by omega, hsj, S2, OUT.out (Or.inl (by omega))⟩
    · have hltz : ¬ (i : Int) < (b : Int) := by omega
      go_wp2
      go_end0
      exact ⟨rfl, by unfold Sort.insertionSort; rw [← HO.out, insOuter_stop _ _ _ _ _ hlt]; exact S1.out⟩

end Go.Proofs.YtgebjjpcgakjgaaGreat
