/-
  Reduced words: what the program counts and lists. Plain.
  The program's exchange of two places.
  beginnings: the numbers with which a reduced word can begin, and what is behind.
  The program's FormatInt, at numbers of one digit, and FormatPerm.
  counted and CountReduced: how many reduced words a permutation has, with a map of what is known.
  NewSession: what both make, and the law's helpers on sessions whose classes and shape are empty.
-/
import Derived.Test.YtpfefjdefopccaaJ12
import Derived.Test.YtpfefjdefopccaaJ11
import Derived.Test.YtpfefjdefopccaaJ3
import Derived.BigRegion
import Derived.Test.YtpfefjdefopccaaJ4
import Derived.Test.YtpfefjdefopccaaJ7
import Derived.Deep.RegionHeld3
import Derived.Test.YtpfefjdefopccaaJ1
import Derived.WalkSpells
import Derived.Test.YtpfefjdefopccaaChecked
import Derived.WideKeyEntry
import Derived.Maps.OwnSet
import Derived.Maps.OwnOps
namespace Go.Proofs.Ytpfefjdefopccaa
set_option linter.all false
set_option maxRecDepth 100000
open Go.RowKit

/-- the numbers with which a reduced word can begin -/
def begK (w : List Int) : List Nat := (List.range (w.length - 1)).filter fun k => decide ((invL w).getD (k + 1) 0 < (invL w).getD k 0)
/-- what is behind it -/
def rstK (w : List Int) (k : Nat) : List Int := swapL w ((invL w).getD k 0).toNat ((invL w).getD (k + 1) 0).toNat
def cntF : Nat → List Int → Nat
  | 0, _ => 1
  | f + 1, w => if begK w = [] then 1 else ((begK w).map fun k => cntF f (rstK w k)).sum
def cntR (w : List Int) : Nat := cntF (lnN w) w
def allF : Nat → List Int → List (List Int)
  | 0, _ => [[]]
  | f + 1, w => if begK w = [] then [[]] else (begK w).flatMap fun k => (allF f (rstK w k)).map fun l => (k : Int) :: l
def allR (w : List Int) : List (List Int) := allF (lnN w) w
def rwB (w : List Int) : Bool := (decide (begK w = []) == decide (lnN w = 0)) && decide (lnN w ≤ 10) && decide (lnN w = lenP w) && (begK w).all fun k => permOk (rstK w k) && decide (lnN (rstK w k) + 1 = lnN w) && decide (cmpL (sw k (idL w.length)) (rstK w k) = w)
theorem rw_all : all5 rwB = true := by decide +kernel
def cnB (w : List Int) : Bool := decide (1 ≤ cntR w ∧ cntR w ≤ 768)
theorem cn_all : all5 cnB = true := by decide +kernel
section
variable {n : Nat} {w : List Int}
theorem cnt_le (h : P5 n w) : 1 ≤ cntR w ∧ cntR w ≤ 768 := of_decide_eq_true (all5_at cn_all h.ok (by have := h.len; have := h.le; omega))
theorem beg_nil (h : P5 n w) : (begK w = [] ↔ lnN w = 0) ∧ lnN w ≤ 10 ∧ lnN w = lenP w := by
  have := all5_at rw_all h.ok (by have := h.len; have := h.le; omega)
  simp only [rwB, Bool.and_eq_true, decide_eq_true_eq, beq_iff_eq, decide_eq_decide] at this
  exact ⟨this.1.1.1, this.1.1.2, this.1.2⟩
theorem beg_lt (h : P5 n w) {k : Nat} (hk : k ∈ begK w) : k + 1 < n := by
  have := List.mem_range.1 (List.mem_filter.1 hk).1
  have := h.len
  omega
theorem beg_len (h : P5 n w) : (begK w).length ≤ 4 := by
  have := List.length_filter_le (fun k => decide ((invL w).getD (k + 1) 0 < (invL w).getD k 0)) (List.range (w.length - 1))
  have h1 := h.len
  have h2 := h.le
  unfold begK
  simp only [List.length_range] at this
  omega
theorem rst_ok (h : P5 n w) {k : Nat} (hk : k ∈ begK w) : P5 n (rstK w k) ∧ lnN (rstK w k) + 1 = lnN w ∧ cmpL (sw k (idL n)) (rstK w k) = w := by
  have := all5_at rw_all h.ok (by have := h.len; have := h.le; omega)
  simp only [rwB, Bool.and_eq_true, decide_eq_true_eq, List.all_eq_true] at this
  have := this.2 k hk
  rw [h.len] at this
  exact ⟨⟨this.1.1, by unfold rstK; rw [swapL_length]; exact h.len, h.le⟩, this.1.2, this.2⟩
theorem cnt_fuel : ∀ (f g : Nat) (w : List Int), P5 n w → lnN w ≤ f → lnN w ≤ g → cntF f w = cntF g w
  | 0, 0, _, _, _, _ => rfl
  | 0, g + 1, w, h, hf, _ => by
    have := (beg_nil h).1.2 (by omega)
    simp [cntF, this]
  | f + 1, 0, w, h, _, hg => by
    have := (beg_nil h).1.2 (by omega)
    simp [cntF, this]
  | f + 1, g + 1, w, h, hf, hg => by
    unfold cntF
    by_cases e : begK w = []
    · rw [if_pos e, if_pos e]
    · rw [if_neg e, if_neg e]
      congr 1
      refine List.map_congr_left fun k hk => ?_
      obtain ⟨h1, h2, _⟩ := rst_ok h hk
      exact cnt_fuel f g _ h1 (by omega) (by omega)
theorem all_fuel : ∀ (f g : Nat) (w : List Int), P5 n w → lnN w ≤ f → lnN w ≤ g → allF f w = allF g w
  | 0, 0, _, _, _, _ => rfl
  | 0, g + 1, w, h, hf, _ => by
    have := (beg_nil h).1.2 (by omega)
    simp [allF, this]
  | f + 1, 0, w, h, _, hg => by
    have := (beg_nil h).1.2 (by omega)
    simp [allF, this]
  | f + 1, g + 1, w, h, hf, hg => by
    unfold allF
    by_cases e : begK w = []
    · rw [if_pos e, if_pos e]
    · rw [if_neg e, if_neg e, List.flatMap_def, List.flatMap_def]
      congr 1
      refine List.map_congr_left fun k hk => ?_
      obtain ⟨h1, h2, _⟩ := rst_ok h hk
      rw [all_fuel f g _ h1 (by omega) (by omega)]
theorem cnt_step (h : P5 n w) : cntR w = if begK w = [] then 1 else ((begK w).map fun k => cntR (rstK w k)).sum := by
  unfold cntR
  rw [cnt_fuel (lnN w) (lnN w + 1) w h (Nat.le_refl _) (by omega)]
  show (if begK w = [] then 1 else _) = _
  by_cases e : begK w = []
  · rw [if_pos e, if_pos e]
  · rw [if_neg e, if_neg e]
    congr 1
    refine List.map_congr_left fun k hk => ?_
    obtain ⟨h1, h2, _⟩ := rst_ok h hk
    exact cnt_fuel _ _ _ h1 (by omega) (Nat.le_refl _)
theorem all_step (h : P5 n w) : allR w = if begK w = [] then [[]] else (begK w).flatMap fun k => (allR (rstK w k)).map fun l => (k : Int) :: l := by
  unfold allR
  rw [all_fuel (lnN w) (lnN w + 1) w h (Nat.le_refl _) (by omega)]
  show (if begK w = [] then [[]] else _) = _
  by_cases e : begK w = []
  · rw [if_pos e, if_pos e]
  · rw [if_neg e, if_neg e, List.flatMap_def, List.flatMap_def]
    congr 1
    refine List.map_congr_left fun k hk => ?_
    obtain ⟨h1, h2, _⟩ := rst_ok h hk
    rw [all_fuel _ _ _ h1 (by omega) (Nat.le_refl _)]
theorem all_len : ∀ (f : Nat) (w : List Int), (allF f w).length = cntF f w
  | 0, _ => rfl
  | f + 1, w => by
    unfold allF cntF
    by_cases e : begK w = []
    · rw [if_pos e, if_pos e]; rfl
    · rw [if_neg e, if_neg e, List.length_flatMap]
      congr 1
      refine List.map_congr_left fun k _ => ?_
      rw [List.length_map, all_len f]
/-- a reduced word of w -/
def RwOf (n : Nat) (w : List Int) (l : List Int) : Prop := ∃ r : List Nat, l = r.map (fun (k : Nat) => (k : Int)) ∧ play r (idL n) = w ∧ r.length = lnN w ∧ ∀ j ∈ r, j + 1 < n
theorem all_ok : ∀ (f : Nat) (w : List Int), P5 n w → lnN w ≤ f → ∀ l ∈ allF f w, RwOf n w l
  | 0, w, h, hf, l, hl => by
    rw [List.mem_singleton.1 hl]
    exact ⟨[], rfl, (id_of_len h (by omega)).symm, by simp; omega, by simp⟩
  | f + 1, w, h, hf, l, hl => by
    unfold allF at hl
    by_cases e : begK w = []
    · rw [if_pos e] at hl
      rw [List.mem_singleton.1 hl]
      have h0 := (beg_nil h).1.1 e
      exact ⟨[], rfl, (id_of_len h h0).symm, by simp [h0], by simp⟩
    · rw [if_neg e] at hl
      obtain ⟨k, hk, hl⟩ := List.mem_flatMap.1 hl
      obtain ⟨m, hm, rfl⟩ := List.mem_map.1 hl
      obtain ⟨h1, h2, h3⟩ := rst_ok h hk
      obtain ⟨r, rfl, hp, hr, hj⟩ := all_ok f _ h1 (by omega) m hm
      have hkn := beg_lt h hk
      have hj2 : ∀ j ∈ k :: r, j + 1 < n := by
        intro j hj'
        rcases List.mem_cons.1 hj' with rfl | hj'
        · exact hkn
        · exact hj j hj'
      refine ⟨k :: r, rfl, ?_, by rw [List.length_cons, hr]; omega, hj2⟩
      show play r (sw k (idL n)) = w
      have e2 : play r (cmpL (sw k (idL n)) (idL n)) = w := by
        rw [← cmpL_play r (idL n) (idL_length n) hj, hp, h3]
      rwa [cmpL_id (by rw [sw_length, idL_length])] at e2
theorem allR_ok (h : P5 n w) {l : List Int} (hl : l ∈ allR w) : RwOf n w l := all_ok _ w h (Nat.le_refl _) l hl
theorem allR_len (w : List Int) : (allR w).length = cntR w := all_len _ w
end

end Go.Proofs.Ytpfefjdefopccaa

namespace Go.Proofs.Ytpfefjdefopccaa
set_option linter.all false
open Go.RowKit

set_option maxRecDepth 100000 in
set_option maxHeartbeats 1000000 in
theorem exchanged_any (v : Value) (xs : List Int) (i j : Nat) (w : World) (h : Ints w v xs) (hi : i < xs.length) (hj : j < xs.length) (hij : i ≠ j) (hl : xs.length ≤ 1000) :
    Calls Try.prog 26 #[v, .int .i64 (i : Int), .int .i64 (j : Int)] w (RetI w (swapL xs i j)) := by
  have Hh := Lib.hid h
  obtain ⟨p, cap, rfl, ⟨hx1, hx⟩, hxc⟩ := h
  unfold maxLen at hx
  clear hxc
  go_enter Try.func26, Try.ntmps26
  go_wp2_with fail
  refine (clone_any _ xs _ Hh.out (by omega)).mono ?_
  rintro e w1 ⟨u, rfl, ho, hb⟩
  have hofn := ho.fn
  obtain ⟨pu, ku, rfl, hku, hku2⟩ := ho.shape
  unfold maxLen at hku2
  obtain ⟨g, rfl, hg1, hg2, hg3⟩ := hofn.at_ (by omega)
  obtain ⟨x, hx'⟩ : ∃ x, x = xs.getD i 0 := ⟨_, rfl⟩
  obtain ⟨y, hy'⟩ : ∃ y, y = xs.getD j 0 := ⟨_, rfl⟩
  have f1 := hofn.frozen i
  have f2 := hofn.frozen j
  have d1 := hofn.cell hi
  have d2 := hofn.cell hj
  unfold iv at d1 d2
  rw [← hx'] at d1
  rw [← hy'] at d2
  obtain ⟨z, d3⟩ : ∃ z, (w1.setCell ⟨g, i, none⟩ (.int .i64 y)).cell? ⟨g, j, none⟩ = some z := ⟨_, (hofn.set i (.int .i64 y)).cell hj⟩
  have d3' : (w1.drew.setCell ⟨g, i, none⟩ (.int .i64 y)).cell? ⟨g, j, none⟩ = some z := d3
  obtain ⟨n, hn⟩ : ∃ n, n = xs.length := ⟨_, rfl⟩
  have Hn := Lib.hid hn
  have Ho := Lib.hid ho
  have Hb := Lib.hid hb
  have Hx := Lib.hid hx'
  have Hy := Lib.hid hy'
  have hi2 : (i : Int) < (n : Int) := by omega
  have hj2 : (j : Int) < (n : Int) := by omega
  rw [← hn] at hx1 hku hi hj ⊢
  clear hofn ho hb hn hx' hy'
  go_wp2_with fail
  have hji : j ≠ i := fun e => hij e.symm
  go_region
  go_wp2_with fail
  go_ret
  refine ⟨_, rfl, ?_, ((Hb.out.setCell (p := ⟨g, i, none⟩) hg1 _).setCell (p := ⟨g, j, none⟩) hg1 _).drew⟩
  unfold swapL
  rw [← Hx.out, ← Hy.out]
  have o1 := (Ho.out.setG (by rw [← Hn.out]; exact hi) y).setG (t := j) (by rw [List.length_set, ← Hn.out]; exact hj) x
  rw [← Hn.out] at o1
  have := o1.mono (Nat.le_refl _) (show w1.heap.size ≤ ((w1.setCell ⟨g, i, none⟩ (.int .i64 y)).setCell ⟨g, j, none⟩ (.int .i64 x)).heap.size by simp)
  exact this.below (Below.refl _ _).drew

end Go.Proofs.Ytpfefjdefopccaa

namespace Go.Proofs.Ytpfefjdefopccaa
set_option linter.all false
set_option maxRecDepth 100000
open Go.RowKit

/-! ### a list and a list of lists, both made by the call, growing beside each other -/
structure Bg (w : World) (lo : Nat) (v5 : Value) (ns : List Int) (v6 : Value) (rows : List (List Int)) (f : Nat → Value) : Prop where
  num : OwnI 3 w lo w.heap.size v5 ns
  out : OwnF w lo w.heap.size 24 v6 rows.length f
  row : ∀ i, i < rows.length → OwnI 3 w lo w.heap.size (f i) (rows.getD i [])
  far : ∀ i j, i < j → j < rows.length → ∀ k, (f i).ownBlock = some k → (f j).ownBlock ≠ some k
  sep : ∀ i, i < rows.length → ∀ k, (f i).ownBlock = some k → v5.ownBlock ≠ some k
section
variable {w w' : World} {lo : Nat} {v5 v6 v' x : Value} {ns xs : List Int} {rows : List (List Int)} {f : Nat → Value}
theorem Bg.ii (h : Bg w lo v5 ns v6 rows f) : OwnII 24 3 w lo w.heap.size v6 rows := ⟨f, h.out, h.row, h.far⟩
theorem Bg.below (h : Bg w lo v5 ns v6 rows f) (hb : Below w.heap.size w w') : Bg w' lo v5 ns v6 rows f :=
  ⟨(h.num.below hb).mono (Nat.le_refl _) hb.size, (h.out.below hb).mono (Nat.le_refl _) hb.size, fun i hi => ((h.row i hi).below hb).mono (Nat.le_refl _) hb.size, h.far, h.sep⟩
theorem Bg.snocN (h : Bg w lo v5 ns v6 rows f) {y : Int} (ho : OwnI 3 w' lo w'.heap.size v' (ns ++ [y])) (hg : w.grownBy w' v5.ownBlock) (hw : ∀ b, v'.ownBlock = some b → v5.ownBlock = some b ∨ w.heap.size ≤ b) :
    Bg w' lo v' (ns ++ [y]) v6 rows f := by
  refine ⟨ho, (h.out.grown hg fun k hk e => ?_).mono (Nat.le_refl _) hg.size, fun i hi => ?_, h.far, fun i hi k hk e => ?_⟩
  · exact own_types h.out h.num (by decide) hk e
  · have hy := h.row i hi
    have : OwnI 3 w' lo w.heap.size (f i) (rows.getD i []) := ⟨ownsRow_of_block hy.1 fun k hk => hg.block k (Own.block hy hk).2.2 fun e => h.sep i hi k hk e.symm, hy.2⟩
    exact this.mono (Nat.le_refl _) hg.size
  · rcases hw k e with h1 | h1
    · exact h.sep i hi k hk h1
    · have := (Own.block (h.row i hi) hk).2.2
      omega
theorem Bg.snocR {mid hi : Nat} (h : Bg w lo v5 ns v6 rows f) (hx : OwnI 3 w' mid hi x xs) (hm : w.heap.size ≤ mid) {w1 : World} (hb : Below w.heap.size w w') (hmh : mid ≤ hi) (hhi : hi ≤ w'.heap.size) (hlo : lo ≤ w.heap.size)
    (hg : w'.grownBy w1 v6.ownBlock) (hv : OwnF w1 lo w1.heap.size 24 v' (rows.length + 1) (fun j => if j < rows.length then f j else x)) :
    Bg w1 lo v5 ns v' (rows ++ [xs]) (fun j => if j < rows.length then f j else x) := by
  have hB := h.below hb
  have hrow : ∀ (y : Value) (ys : List Int) (lo1 hi1 : Nat), OwnI 3 w' lo1 hi1 y ys → OwnI 3 w1 lo1 hi1 y ys := fun y ys lo1 hi1 hy =>
    ⟨ownsRow_of_block hy.1 fun k hk => hg.block k (Own.block hy hk).2.2 fun e => own_types hB.out hy (by decide) e.symm hk, hy.2⟩
  have hs1 := hb.size
  have hs2 := hg.size
  refine ⟨(hrow _ _ _ _ hB.num).mono (Nat.le_refl _) hg.size, by rw [List.length_append]; exact hv, fun i hi => ?_, fun i j hij hj k hk => ?_, fun i hi k hk => ?_⟩
  · rw [List.length_append] at hi
    simp only [List.length_singleton] at hi
    by_cases hlt : i < rows.length
    · have e : (rows ++ [xs]).getD i [] = rows.getD i [] := by simp [List.getD_eq_getElem?_getD, List.getElem?_append_left hlt]
      simp only [hlt, if_true]
      rw [e]
      exact (hrow _ _ _ _ (hB.row i hlt)).mono (Nat.le_refl _) hg.size
    · have e : (rows ++ [xs]).getD i [] = xs := by
        have : i = rows.length := by omega
        subst this
        simp [List.getD_eq_getElem?_getD]
      simp only [hlt, if_false]
      rw [e]
      exact (hrow _ _ _ _ hx).mono (by omega) (by omega)
  · rw [List.length_append] at hj
    simp only [List.length_singleton] at hj
    by_cases hlt : j < rows.length
    · simp only [hlt, if_true]
      simp only [show i < rows.length by omega, if_true] at hk
      exact h.far i j hij hlt k hk
    · have hil : i < rows.length := by omega
      simp only [hlt, if_false]
      simp only [hil, if_true] at hk
      intro e
      have h5 := (Own.block (h.row i hil) hk).2.2
      have h6 := (Own.block hx e).1
      omega
  · rw [List.length_append] at hi
    simp only [List.length_singleton] at hi
    by_cases hlt : i < rows.length
    · simp only [hlt, if_true] at hk
      exact h.sep i hlt k hk
    · simp only [hlt, if_false] at hk
      intro e
      have h5 := (Own.block h.num e).2.2
      have h6 := (Own.block hx hk).1
      omega
end

/-! ### what it answers -/
def bgA (xs : List Int) (t : Nat) : List Nat := (List.range t).filter fun k => decide ((invL xs).getD (k + 1) 0 < (invL xs).getD k 0)
theorem bgA_succ_yes {xs : List Int} {t : Nat} (h : (invL xs).getD (t + 1) 0 < (invL xs).getD t 0) : bgA xs (t + 1) = bgA xs t ++ [t] := by
  unfold bgA
  rw [List.range_succ, List.filter_append, List.filter_cons_of_pos (by exact decide_eq_true h)]; rfl
theorem bgA_succ_no {xs : List Int} {t : Nat} (h : ¬ (invL xs).getD (t + 1) 0 < (invL xs).getD t 0) : bgA xs (t + 1) = bgA xs t := by
  unfold bgA
  rw [List.range_succ, List.filter_append, List.filter_cons_of_neg (by simpa using h)]; simp
theorem bgA_all (xs : List Int) : bgA xs (xs.length - 1) = begK xs := rfl
def bgN (xs : List Int) (t : Nat) : List Int := (bgA xs t).map fun (k : Nat) => (k : Int)
def bgR (xs : List Int) (t : Nat) : List (List Int) := (bgA xs t).map (rstK xs)
theorem bgA_len (xs : List Int) (t : Nat) : (bgA xs t).length ≤ t := by
  have := List.length_filter_le (fun k => decide ((invL xs).getD (k + 1) 0 < (invL xs).getD k 0)) (List.range t)
  simp only [List.length_range] at this
  exact this
theorem invK_rng (xs : List Int) (j : Nat) : ∀ k, 0 ≤ invK xs k j ∧ (invK xs k j < (k : Int) ∨ invK xs k j = 0)
  | 0 => ⟨Int.le_refl _, .inr rfl⟩
  | k + 1 => by
    have := invK_rng xs j k
    unfold invK
    split <;> omega
theorem invL_rng {xs : List Int} {j : Nat} (h : j < xs.length) : 0 ≤ (invL xs).getD j 0 ∧ (invL xs).getD j 0 < (xs.length : Int) := by
  rw [invL_getD h]
  have := invK_rng xs j xs.length
  omega

theorem keep2w {wr W W' : World} {a0 a1 : Addr} {v0 v1 : Value} (hb : Below wr.heap.size W W') (h0 : a0.block < wr.heap.size) (h1 : a1.block < wr.heap.size) (h : (W.cell? a0 = some v0 ∧ W.cell? a1 = some v1) ∧ Below wr.heap.size wr W) :
    (W'.cell? a0 = some v0 ∧ W'.cell? a1 = some v1) ∧ Below wr.heap.size wr W' := ⟨⟨(hb.cell h0).trans h.1.1, (hb.cell h1).trans h.1.2⟩, h.2.trans hb⟩

set_option maxHeartbeats 2000000 in
theorem beginnings_any (v : Value) (xs : List Int) (w : World) (h : Ints w v xs) (hp : permOk xs = true) :
    Calls Try.prog 42 #[v] w fun e w' => ∃ u1 u2 f, e = .returned (.tuple #[u1, u2]) ∧ Bg w' w.heap.size u1 (bgN xs (xs.length - 1)) u2 (bgR xs (xs.length - 1)) f ∧ Below w.heap.size w w' := by
  have Hh := Lib.hid h
  have Hp := Lib.hid hp
  obtain ⟨p, cap, rfl, ⟨hx1, hx⟩, hxc⟩ := h
  unfold maxLen at hx
  obtain ⟨hl1, hl7, hr, _⟩ := of_decide_eq_true hp
  obtain ⟨N, hN⟩ : ∃ N, N = xs.length - 1 := ⟨_, rfl⟩
  have hN1 : ((xs.length : Int) - 1) = (N : Int) := by omega
  have HN := Lib.hid (show xs.length = N + 1 by omega)
  rw [← hN]
  clear hp hr hxc hN
  go_enter Try.func42, Try.ntmps42
  go_wp2_with fail
  refine (implInverse_any _ xs _ Hh.out Hp.out).mono ?_
  rintro e w1 ⟨u, rfl, ho, hb⟩
  obtain ⟨pu, ku, rfl, ⟨hu1, hu2⟩, hcu⟩ := ho.ints
  have Hb := Lib.hid hb
  obtain ⟨bu, ou, rfl, hcv⟩ := hcu (by rw [invL_length]; omega)
  have Hcu := Lib.hid hcv
  obtain ⟨L, hL⟩ : ∃ L, L = (invL xs).length := ⟨_, rfl⟩
  rw [← hL] at hu1 ⊢
  have hLx : L = N + 1 := by rw [hL, invL_length, HN.out]
  have hLi : (N : Int) < (L : Int) := by omega
  have HL := Lib.hid hL
  unfold maxLen at hu2
  clear ho hb hcu hcv hL hLx
  go_wp2_with fail
  go_loopg [5, 6, 15] N (fun g s5 s6 i wr => ∃ (k : Nat) (f : Nat → Value), k ≤ N ∧ g = N - k ∧ i = .int .i64 k ∧ Hid (Bg wr w1.heap.size s5 (bgN xs k) s6 (bgR xs k) f) ∧ Hid (Below w1.heap.size w1 wr))
  case atStart =>
    refine ⟨0, fun _ => undef, Nat.zero_le _, rfl, rfl, ?_, below_alloc2 _ _ _⟩
    have h3 : (w1.alloc (.cells #[] 3)).heap.size = w1.heap.size + 1 := size_alloc _ _
    have h2 : OwnF ((w1.alloc (.cells #[] 3)).alloc (.cells #[] 24)) w1.heap.size ((w1.alloc (.cells #[] 3)).alloc (.cells #[] 24)).heap.size 24 (.slice (some ⟨w1.heap.size + 1, 0, none⟩) 0 0) (bgR xs 0).length (fun _ => undef) := by
      have := (OwnF.made0 (w1.alloc (.cells #[] 3)) 24 (fun _ => undef)).mono (lo' := w1.heap.size) (hi' := ((w1.alloc (.cells #[] 3)).alloc (.cells #[] 24)).heap.size) (by simp) (by simp)
      rw [h3] at this
      exact this
    refine Bg.mk ?_ h2 (fun i hi => absurd hi (by simp [bgR, bgA])) (fun i j _ hj => absurd hj (by simp [bgR, bgA])) (fun i hi => absurd hi (by simp [bgR, bgA]))
    have := OwnF.made0 w1 3 (iv [])
    exact (OwnF.ints (xs := []) (this.below (below_alloc _ _))).mono (Nat.le_refl _) (by simp)
  case round =>
    obtain ⟨k, f, hk, rfl, rfl, hB, hbw⟩ := hrel
    obtain ⟨wo, rfl⟩ : ∃ x : World, x = wr := ⟨_, rfl⟩
    obtain ⟨p5, k5, rfl, _, _⟩ := hB.out.num.shape
    obtain ⟨p6, k6, rfl, _, _⟩ := hB.out.out.shape
    by_cases hlt : k < N
    · have hki : (k : Int) < (N : Int) := by omega
      obtain ⟨x0, hx0⟩ := Int.eq_ofNat_of_zero_le (invL_rng (xs := xs) (j := k) (by have := HN.out; omega)).1
      obtain ⟨x1, hx1'⟩ := Int.eq_ofNat_of_zero_le (invL_rng (xs := xs) (j := k + 1) (by have := HN.out; omega)).1
      have hl0 : x0 < xs.length := by have := (invL_rng (xs := xs) (j := k) (by have := HN.out; omega)).2; omega
      have hl1' : x1 < xs.length := by have := (invL_rng (xs := xs) (j := k + 1) (by have := HN.out; omega)).2; omega
      have cu0 := cell_below hbw.out (Hcu.out k (by rw [invL_length]; have := HN.out; omega))
      have cu1 := cell_below hbw.out (Hcu.out (k + 1) (by rw [invL_length]; have := HN.out; omega))
      unfold iv at cu0 cu1
      rw [hx0] at cu0
      rw [hx1'] at cu1
      have Hx0 := Lib.hid hx0
      have Hx1 := Lib.hid hx1'
      have hwk : IntKind.i64.wrap ((k : Int) + 1) = (k : Int) + 1 := k64 (by omega) (by omega)
      have hk0 : (0 : Int) ≤ (k : Int) + 1 := by omega
      have hkn : ((k : Int) + 1).toNat = k + 1 := by omega
      have hkL : (k : Int) < (L : Int) := by omega
      have hkL1 : (k : Int) + 1 < (L : Int) := by omega
      clear hx0 hx1'
      go_wp2_with fail
      go_region
      by_cases hd : (x1 : Int) < (x0 : Int)
      · have hne : x0 ≠ x1 := by omega
        have hd2 : decide ((x1 : Int) < (x0 : Int)) = true := decide_eq_true hd
        have e1 : bgA xs (k + 1) = bgA xs k ++ [k] := bgA_succ_yes (by rw [Hx0.out, Hx1.out]; exact hd)
        have E1 := Lib.hid e1
        have hbn : (bgA xs k).length ≤ 6 := Nat.le_trans (bgA_len xs k) (by omega)
        obtain ⟨ns, hns⟩ : ∃ ns, ns = bgN xs k := ⟨_, rfl⟩
        obtain ⟨rows, hrows⟩ : ∃ rows, rows = bgR xs k := ⟨_, rfl⟩
        have hnl : ns.length ≤ 6 := by rw [hns, bgN, List.length_map]; exact hbn
        have hrl : rows.length ≤ 6 := by rw [hrows, bgR, List.length_map]; exact hbn
        rw [← hns, ← hrows] at hB ⊢
        have HB := Lib.hid hB.out
        have Hns := Lib.hid hns
        have Hrows := Lib.hid hrows
        have Hc1 := Lib.hid (show ns.length + 1 ≤ maxLen by unfold maxLen; omega)
        have Hc2 := Lib.hid (show (ns.length + 1) * 8 ≤ 140737488355328 by omega)
        have Hd1 := Lib.hid (show rows.length + 1 ≤ maxLen by unfold maxLen; omega)
        have Hd2 := Lib.hid (show (rows.length + 1) * 24 ≤ 140737488355328 by omega)
        have Hhx := Lib.hid (Hh.out.below Hb.out)
        clear e1 hbn hns hrows hB
        go_wp2_with (at_builtin; go_must (refine wpList_append_G rfl (.tmp 28) (.tmp 30) 24 rfl 3 (.int .i64 0) 8 Try.underlying24 info_int rfl w1.heap.size wo.heap.size _ ns.length (iv ns) rfl ((HB.out.num.below (below_alloc _ _).drew).fn) (by simp; have := hbw.out.size; omega) (by simp) _ _ _ rfl (rd_one _ _ _ rfl) (fun j _ => rfl) Hc1.out Hc2.out ?_; intro v' w3 ho3 hg3 hw3))
        have hB3 := (HB.out.below (below_alloc wo (.cells #[.int .i64 (k : Int)] 3)).drew).snocN (OwnI.snoc1 ho3) hg3 hw3
        have hs3 : wo.heap.size + 1 ≤ w3.heap.size := by have := hg3.size; simpa using this
        have hs1 := hbw.out.size
        have hb3 : Below w1.heap.size w1 w3 := hbw.out.trans (((below_alloc wo _).drew.mono hs1).trans (grownBy_below hg3 HB.out.num.fn.blocks (Nat.le_refl _) (by simp; omega)))
        have d0 := cell_below hb3 (Hcu.out k (by rw [invL_length]; have := HN.out; omega))
        have d1 := cell_below hb3 (Hcu.out (k + 1) (by rw [invL_length]; have := HN.out; omega))
        unfold iv at d0 d1
        rw [Hx0.out] at d0
        rw [Hx1.out] at d1
        have HB3 := Lib.hid hB3
        have Hb3 := Lib.hid hb3
        have Hx3 := Lib.hid (Hhx.out.below hb3)
        obtain ⟨p5', k5', rfl, _, _⟩ := hB3.num.shape
        have hbz : Below w1.heap.size w1 w3.drew := Hb3.out.drew
        have hbu : bu < w1.heap.size := World.block_lt_of_cell? _ _ (Hcu.out k (by rw [invL_length]; have := HN.out; omega))
        have hs31 : w1.heap.size ≤ w3.heap.size := by omega
        have hx7 : xs.length ≤ 1000 := by omega
        clear hB3 ho3 hg3 hw3 cu0 cu1 hb3
        go_wp2_with fail
        go_region_held3 (fun w' => (w'.cell? ⟨bu, ou + k, none⟩ = some (.int .i64 (x0 : Int)) ∧ w'.cell? ⟨bu, ou + (k + 1), none⟩ = some (.int .i64 (x1 : Int))) ∧ Below w1.heap.size w1 w')
          (first | with_reducible assumption | exact ⟨⟨d0, d1⟩, hbz⟩ | exact keep2w (hb4.mono (by first | exact hs31 | exact Nat.le_refl _)) hbu hbu (by assumption) | exact keep2w ((below_alloc w4 _).mono (Nat.le_trans hs31 hbB4.size)) hbu hbu (by assumption) | exact keep2w hb6 hbu hbu (by assumption))
          (first
            | (go_at_call 26; refine (exchanged_any _ xs x0 x1 _ (held_ints Hhx.out (by assumption)) hl0 hl1' hne hx7).mono ?_; rintro e w4 ⟨u4, rfl, ho4, hb4⟩; obtain ⟨p4, k4, rfl, _, _⟩ := ho4.shape; have hbB4 : Below w3.heap.size w3 w4 := by first | exact hb4 | exact below_trans (Below.refl _ _).drew hb4)
            | (refine step_append_F rfl (.tmp 32) (.tmp 44) 30 rfl 24 (.slice none 0 0) 24 Try.underlying30 info_sl rfl w1.heap.size w3.heap.size _ rows.length f rfl (HB3.out.out.below (hbB4.trans ((below_alloc w4 _).mono hbB4.size))) (by have := hbB4.size; simp; omega) (by have := hbB4.size; simp; omega) _ 1 _ rfl (rd_one _ _ _ rfl) (fun j _ => rfl) Hd1.out Hd2.out ?_; intro v6 w6 ho6 hg6; have hb6 := grownBy_below2 hg6 (HB3.out.out.below (hbB4.trans ((below_alloc w4 _).mono hbB4.size))) (Nat.le_refl _) (by have := hbB4.size; simp; omega)))
        have hs4 := hbB4.size
        have hs6 := hg6.size
        simp only [size_alloc] at hs6
        have hB6 := HB3.out.snocR (w' := w4.alloc (.cells #[.slice p4 (swapL xs x0 x1).length k4] 24)) (xs := swapL xs x0 x1) (mid := w3.heap.size) (hi := w4.heap.size) (by first | exact ho4.below (below_alloc _ _) | exact OwnI.below (ho4 : OwnI 3 w4 w3.heap.size w4.heap.size _ _) (below_alloc _ _)) (Nat.le_refl _) (hbB4.trans ((below_alloc w4 _).mono hbB4.size)) hs4 (by simp) hs31 hg6 ho6
        have hb7 : Below w1.heap.size w1 w6 := Hb3.out.trans ((hbB4.mono hs31).trans (((below_alloc w4 _).mono (Nat.le_trans hs31 hs4)).trans hb6))
        have er : swapL xs x0 x1 = rstK xs k := by unfold rstK; rw [Hx0.out, Hx1.out, Int.toNat_natCast, Int.toNat_natCast]
        have e5 : bgN xs (k + 1) = ns ++ [(k : Int)] := by unfold bgN; rw [E1.out, List.map_append, Hns.out]; rfl
        have e6 : bgR xs (k + 1) = rows ++ [swapL xs x0 x1] := by rw [er]; unfold bgR; rw [E1.out, List.map_append, Hrows.out]; rfl
        rw [show (ns ++ [(k : Int)]).length = ns.length + 1 by simp, ← e5, ← e6] at hB6
        have HB6 := Lib.hid hB6
        have Hb7 := Lib.hid hb7
        obtain ⟨p6', k6', rfl, _, _⟩ := ho6.shape
        clear hB6 hb7 er e5 e6 ho6 hg6 hb6 ho4 hb4 hbB4
        go_wp2_with fail
        go_roundg (N - (k + 1))
        case measure => omega
        case rel => exact ⟨k + 1, _, by omega, rfl, by go_num, HB6.out, Hb7.out⟩
      · have e1 : bgA xs (k + 1) = bgA xs k := bgA_succ_no (by rw [Hx0.out, Hx1.out]; exact hd)
        have hd2 : decide ((x1 : Int) < (x0 : Int)) = false := decide_eq_false hd
        have E5 := Lib.hid (show bgN xs (k + 1) = bgN xs k by unfold bgN; rw [e1])
        have E6 := Lib.hid (show bgR xs (k + 1) = bgR xs k by unfold bgR; rw [e1])
        clear e1
        go_wp2_with fail
        go_roundg (N - (k + 1))
        case measure => omega
        case rel => exact ⟨k + 1, f, by omega, rfl, by go_num, by rw [E5.out, E6.out]; exact hB.out.below (Below.refl _ _).drew, hbw.out.drew⟩
    · obtain rfl : k = N := by omega
      have hs1 := Hb.out.size
      have hs2 := hbw.out.size
      go_wp2_with fail
      go_ret2
      exact ⟨_, _, f, rfl, ⟨hB.out.num.mono hs1 (Nat.le_refl _), hB.out.out.mono hs1 (Nat.le_refl _), fun i hi => (hB.out.row i hi).mono hs1 (Nat.le_refl _), hB.out.far, hB.out.sep⟩, below_trans Hb.out hbw.out⟩

end Go.Proofs.Ytpfefjdefopccaa

namespace Go.Proofs.Ytpfefjdefopccaa
set_option linter.all false
set_option maxRecDepth 100000
open Go.RowKit

/-- the text of a digit -/
def digB (n : Nat) : ByteArray := ⟨#[UInt8.ofNat (48 + n)]⟩
theorem enc_digit {n : Nat} (hn : n < 10) : Utf8.encode (48 + (n : Int)) = digB n := by
  match n, hn with
  | 0, _ | 1, _ | 2, _ | 3, _ | 4, _ | 5, _ | 6, _ | 7, _ | 8, _ | 9, _ => rfl
set_option maxHeartbeats 1000000 in
theorem FormatInt_small (n : Nat) (w : World) (hn : n < 10) :
    Calls Try.prog 62 #[.int .i64 (n : Int)] w fun e w' => e = .returned (.string (digB n)) ∧ w' = w := by
  have h1 : decide ((n : Int) < 0) = false := by simp
  have h2 : decide ((n : Int) < 10) = true := by simp; omega
  have h3 : ¬ ((n : Int) < 0) := by omega
  go_enter Try.func62, Try.ntmps62
  go_wp2_with fail
  rw [enc_digit hn]
  go_ret
  exact ⟨rfl, rfl⟩

/-- a permutation as the program writes it -/
def fmtL (xs : List Int) : List UInt8 := xs.map fun x => UInt8.ofNat (48 + (x.toNat + 1))
def fmtA (xs : List Int) : ByteArray := ⟨(fmtL xs).toArray⟩
theorem fmtA_size (xs : List Int) : (fmtA xs).size = xs.length := by simp [fmtA, ByteArray.size, fmtL]
theorem fmtA_snoc (xs : List Int) (x : Int) : fmtA (xs ++ [x]) = fmtA xs ++ digB (x.toNat + 1) := by
  apply ByteArray.ext
  rw [ByteArray.data_append]
  simp [fmtA, fmtL, digB]

set_option maxHeartbeats 1000000 in
theorem FormatPerm_any (v : Value) (xs : List Int) (w : World) (h : Ints w v xs) (hp : permOk xs = true) :
    Calls Try.prog 54 #[v] w fun e w' => e = .returned (.string (fmtA xs)) ∧ Below w.heap.size w w' := by
  have Hh := Lib.hid h
  have Hp := Lib.hid hp
  obtain ⟨p, cap, rfl, ⟨hx1, hx⟩, hxc⟩ := h
  unfold maxLen at hx
  obtain ⟨hl1, hl7, hr, _⟩ := of_decide_eq_true hp
  have Hr := Lib.hid hr
  clear hp hr
  go_enter Try.func54, Try.ntmps54
  go_wp2_with fail
  refine (implIsPerm_any _ xs _ Hh.out).mono ?_
  rintro e w1 ⟨rfl, hb1⟩
  rw [Hp.out]
  have Hb1 := Lib.hid hb1
  clear hb1
  go_wp2_with fail
  go_loopg [3, 11] xs.length (fun g s3 i wr => ∃ k : Nat, k ≤ xs.length ∧ g = xs.length - k ∧ i = .int .i64 k ∧ Below w.heap.size w wr ∧ s3 = .string (fmtA (xs.take k)))
  case atStart => exact ⟨0, Nat.zero_le _, rfl, rfl, Hb1.out, rfl⟩
  case round =>
    obtain ⟨k, hk, rfl, rfl, hb, rfl⟩ := hrel
    by_cases hlt : k < xs.length
    · obtain ⟨b, off, rfl, hc⟩ := hxc (by omega)
      have c1 := cell_below hb (hc k hlt)
      obtain ⟨m, hm, hm7⟩ : ∃ m : Nat, xs.getD k 0 = (m : Int) ∧ m < xs.length := by
        have := Hr.out _ (getD_mem hlt)
        exact ⟨(xs.getD k 0).toNat, by omega, by omega⟩
      unfold iv at c1
      rw [hm] at c1
      have hsn := fmtA_snoc (xs.take k) (xs.getD k 0)
      rw [← take_snoc xs k hlt, hm, Int.toNat_natCast] at hsn
      have Hs := Lib.hid hsn
      obtain ⟨s, hs⟩ : ∃ s, s = fmtA (xs.take k) := ⟨_, rfl⟩
      have hz : s.size = k := by rw [hs, fmtA_size, List.length_take]; omega
      have HS := Lib.hid hs
      have Hb := Lib.hid hb
      rw [← hs]
      clear hxc hc hm hs hsn hb
      have hdz : (digB (m + 1)).size = 1 := rfl
      go_wp2_with fail
      refine (FormatInt_small (m + 1) _ (by omega)).mono ?_
      rintro e w2 ⟨rfl, rfl⟩
      go_wp2_with fail
      go_roundg (xs.length - (k + 1))
      case measure => omega
      case rel => exact ⟨k + 1, by omega, rfl, by go_num, Hb.out, by rw [Hs.out, HS.out]⟩
    · obtain rfl : k = xs.length := by omega
      have Hb := Lib.hid hb
      clear hb
      go_wp2_with fail
      go_ret
      rw [List.take_length]
      exact ⟨rfl, Hb.out⟩

end Go.Proofs.Ytpfefjdefopccaa

namespace Go.Proofs.Ytpfefjdefopccaa
set_option linter.all false
set_option maxRecDepth 100000
open Go.RowKit Go.Maps Go.WideMaps

abbrev DS := DataW Unit
theorem undS : Try.prog.underlying 9 = some .string := by kernel_rfl
theorem undMS : Try.prog.underlying 65 = some (.map 9 3) := by kernel_rfl
theorem undSI : Try.prog.underlying 3 = some (.int .i64) := by kernel_rfl
theorem slaw : Keyed Try.prog 9 := string_keyed undS
theorem zeroSI (w : World) : (zeroValue 3).run Try.prog w = .ok (.int .i64 0) w := by kernel_rfl
abbrev OwnSm (w : World) (b m : Nat) (D : DS) : Prop := w.ownsMap Try.prog 9 (plainElem (H := Unit) Try.prog 3) b m D
/-- the key of a permutation -/
def keyS (xs : List Int) : Lit := .string (fmtA xs).data.toList
theorem keyS_of {xs : List Int} (h : xs.length ≤ 7) : keyOf Try.prog 9 (.string (fmtA xs)) = some (keyS xs) :=
  keyOf_string_mk undS (by rw [fmtA_size]; unfold maxLen; omega)
theorem keyS_inj {n : Nat} {v u : List Int} (hv : P5 n v) (hu : P5 n u) (h : keyS v = keyS u) : v = u := by
  have h1 : fmtL v = fmtL u := by
    unfold keyS at h
    injection h with h
  obtain ⟨_, _, hr, _⟩ := of_decide_eq_true hv.ok
  obtain ⟨_, _, hr', _⟩ := of_decide_eq_true hu.ok
  refine getD_eq_list (by rw [hv.len, hu.len]) fun j hj => ?_
  have hj' : j < u.length := by rw [hu.len, ← hv.len]; exact hj
  have h2 := congrArg (fun l => l[j]?) h1
  simp only [fmtL, List.getElem?_map, List.getElem?_eq_getElem hj, List.getElem?_eq_getElem hj', Option.map_some, Option.some.injEq] at h2
  rw [← getD_lt hj, ← getD_lt hj'] at h2
  have a := hr _ (getD_mem hj)
  have b := hr' _ (getD_mem hj')
  have l1 := hv.len
  have l2 := hu.len
  have l3 := hv.le
  have h3 := congrArg UInt8.toNat h2
  simp only [UInt8.toNat_ofNat'] at h3
  omega
/-- what is known is right -/
def MemoOk (n : Nat) (D : DS) : Prop := ∀ u, P5 n u → Maps.has D (keyS u) = true → ∀ z, D.atKey (keyS u) z = .lit (.int .i64 (cntR u : Nat))
theorem memo_nil (n : Nat) : MemoOk n (.map []) := fun u _ h => by simp [Maps.has] at h
theorem memo_put {n : Nat} {D : DS} {w : World} {b m : Nat} (ho : OwnSm w b m D) (h : MemoOk n D) {xs : List Int} (hx : P5 n xs) : MemoOk n (D.put (keyS xs) (.lit (.int .i64 (cntR xs : Nat)))) := fun u hu hh z => by
  by_cases e : keyS u = keyS xs
  · obtain rfl := keyS_inj hu hx e
    exact atKey_put_same ho.isMap (slaw.key (keyS_of (by have := hu.len; have := hu.le; omega))) _ _
  · rw [has_put_other e] at hh
    rw [atKey_put_other e]
    exact h u hu hh z

theorem sum_take {g : List Int → Nat} {rows : List (List Int)} {t : Nat} (h : t < rows.length) : ((rows.take (t + 1)).map g).sum = ((rows.take t).map g).sum + g (rows.getD t []) := by
  rw [List.take_succ_eq_append_getElem h, List.map_append, List.sum_append]
  simp [List.getD_eq_getElem?_getD, h]
theorem bgR_all (xs : List Int) : bgR xs (xs.length - 1) = (begK xs).map (rstK xs) := by unfold bgR; rw [bgA_all]
theorem pow5_step (f : Nat) (hf : f ≤ 10) : 4 * 5 ^ f + 1 ≤ 5 ^ (f + 1) ∧ 5 ^ (f + 1) ≤ 100000000 := by
  have h1 : 1 ≤ 5 ^ f := Nat.one_le_pow f 5 (by decide)
  have h2 : 5 ^ f ≤ 5 ^ 10 := Nat.pow_le_pow_right (by decide) hf
  rw [Nat.pow_succ]
  omega

theorem grown_of_below {w w' : World} (h : Below w.heap.size w w') (r : Option Nat) : w.grownBy w' r := ⟨h.os, h.tape, h.output, h.size, fun i hi _ => h.block i hi⟩
theorem RdII.getN {w : World} {v : Value} {rows : List (List Int)} {f : Nat → Value} (h : Rd w v rows.length f) (hr : ∀ i, i < rows.length → Ints w (f i) (rows.getD i [])) : RdII w v rows := ⟨f, h, hr⟩

set_option maxHeartbeats 2000000 in
theorem counted_go (n : Nat) (f : Nat) : ∀ (xs : List Int) (v : Value) (w : World) (b m : Nat) (D : DS), f ≤ 10 → lnN xs ≤ f → P5 n xs → Ints w v xs → OwnSm w b m D → MemoOk n D → m + 5 ^ f ≤ 1000000000 →
    Calls Try.prog 41 #[v, .map (some b)] w fun e w' => e = .returned (.int .i64 (cntR xs : Nat)) ∧ ∃ D' m', OwnSm w' b m' D' ∧ MemoOk n D' ∧ m' ≤ m + 5 ^ f ∧ w.grownBy w' (some b) := by
  induction f using Nat.strongRecOn with
  | _ f ih =>
    intro xs v w b m D hf hl hp hv ho hm hm2
    have Ih := Lib.hid ih
    have Hv := Lib.hid hv
    have Hp := Lib.hid hp
    have Ho := Lib.hid ho
    have Hm := Lib.hid hm
    have hx7 : xs.length ≤ 7 := by have := hp.len; have := hp.le; omega
    have hkey := keyS_of hx7
    obtain ⟨key, hkd⟩ : ∃ k, k = keyS xs := ⟨_, rfl⟩
    rw [← hkd] at hkey
    have Hkey := Lib.hid hkey
    have Hkd := Lib.hid hkd
    obtain ⟨p, cap, rfl, ⟨hx1, hx⟩, _⟩ := hv
    have Hl := Lib.hid hl
    obtain ⟨s1, hs1⟩ : ∃ s, s = fmtA xs := ⟨_, rfl⟩
    have Hs1 := Lib.hid hs1
    unfold maxLen at hx
    have hbw := ho.lt
    have h5 : 1 ≤ 5 ^ f := Nat.one_le_pow f 5 (by decide)
    have Hm2 := Lib.hid hm2
    have HmL : Hid (m < maxLen) := Lib.hid (by unfold maxLen; omega)
    clear hm2
    have H5 := Lib.hid h5
    rw [← hs1] at hkey
    have Hkey := Lib.hid hkey
    clear ih hp ho hm hkey hkd hl hs1 h5
    go_enter Try.func41, Try.ntmps41
    go_wp2_with fail
    refine (FormatPerm_any _ xs _ Hv.out Hp.out.ok).mono ?_
    rintro e w1 ⟨rfl, hb1⟩
    rw [← Hs1.out]
    have Ho1 : Hid (OwnSm w1 b m D) := Lib.hid (Ho.out.kept (grown_of_below hb1 none) (by simp))
    have Hb1 := Lib.hid hb1
    clear hb1
    have Hhas : Maps.has D key = true → ∀ c : Int, D.atKey key (.lit (.int .i64 0)) = .lit (.int .i64 c) → c = (cntR xs : Nat) := fun hh c hat => by
      have := Hm.out xs Hp.out (by rw [← Hkd.out]; exact hh) (.lit (.int .i64 0))
      rw [← Hkd.out, hat] at this
      injection this with this
      injection this
    have HHas := Lib.hid Hhas
    clear Hhas
    cases hh : Maps.has D key with
    | true =>
      go_wp2_with (at_lookup; refine wpList_lookup_own_ok_int _ rfl _ _ 65 rfl 9 3 .i64 slaw undMS undSI (zeroSI _) b m D rfl Ho1.out _ _ rfl Hkey.out ?_; intro c hat hwc)
      go_ret
      exact ⟨ret_int (HHas.out hh c hat), D, m, Ho1.out, Hm.out, by have := H5.out; omega, grown_of_below Hb1.out _⟩
    | false =>
      obtain ⟨rows, hrows⟩ : ∃ r, r = bgR xs (xs.length - 1) := ⟨_, rfl⟩
      obtain ⟨nums, hnums⟩ : ∃ r, r = bgN xs (xs.length - 1) := ⟨_, rfl⟩
      obtain ⟨T, hT⟩ : ∃ T, T = rows.length := ⟨_, rfl⟩
      have hT4 : T ≤ 4 := by rw [hT, hrows, bgR_all, List.length_map]; exact beg_len Hp.out
      have HT := Lib.hid hT
      have Hrows := Lib.hid hrows
      go_wp2_with (at_lookup; refine wpList_lookup_own_ok_int _ rfl _ _ 65 rfl 9 3 .i64 slaw undMS undSI (zeroSI _) b m D rfl Ho1.out _ _ rfl Hkey.out ?_; intro c hat hwc; clear hat hwc)
      refine (beginnings_any _ xs _ (Hv.out.below Hb1.out) Hp.out.ok).mono ?_
      rintro e w2 ⟨u1, u2, g, rfl, hB, hb2⟩
      rw [← hrows, ← hnums] at hB
      obtain ⟨q1, k1, rfl, _, _⟩ := hB.num.shape
      obtain ⟨q2, k2, rfl, _, _⟩ := hB.out.shape
      have HB := Lib.hid hB
      have Ho2 : Hid (OwnSm w2 b m D) := Lib.hid (Ho1.out.kept (grown_of_below hb2 none) (by simp))
      have Hb2 := Lib.hid hb2
      have hrd := hB.out.rd
      rw [← hT] at hrd ⊢
      have Hrd := Lib.hid hrd
      clear hh hT hrows hnums hB hb2 hrd
      rcases Nat.eq_zero_or_pos T with h0 | h0
      · subst h0
        have HCC : Hid ((1 : Int) = (cntR xs : Nat)) := Lib.hid (by
          have e0 : begK xs = [] := by
            have := HT.out
            rw [Hrows.out, bgR_all, List.length_map] at this
            exact List.length_eq_zero_iff.1 this.symm
          rw [cnt_step Hp.out, if_pos e0]; rfl)
        go_wp2_with fail
        go_loopg [10, 33] 0 (fun gg s10 i wr => gg = 0 ∧ i = .int .i64 0 ∧ s10 = .int .i64 1 ∧ wr = w2)
        case atStart => exact ⟨rfl, rfl, rfl, rfl⟩
        case round =>
          obtain ⟨rfl, rfl, rfl, rfl⟩ := hrel
          go_wp2_with (at_mapUpdate; refine wpList_mapUpdate_own _ rfl _ _ _ 65 rfl 9 3 slaw undMS _ b m D rfl Ho2.out HmL.out _ _ key rfl rfl Hkey.out (.lit (.int .i64 (cntR xs : Nat))) [] (by rw [← HCC.out]; exact plainElem_int undSI rfl) ?_; intro w9 ho9 hg9)
          go_ret
          refine ⟨ret_int HCC.out, _, m + 1, ho9, ?_, by have := H5.out; omega, (grown_of_below Hb1.out _).trans ((grown_of_below Hb2.out _).trans hg9)⟩
          have := memo_put Ho2.out Hm.out Hp.out
          rw [← Hkd.out] at this
          exact this
      · obtain ⟨f', rfl⟩ : ∃ f', f = f' + 1 := by
          refine ⟨f - 1, ?_⟩
          have h1 : lnN xs ≠ 0 := fun e => by
            have e0 := (beg_nil Hp.out).1.2 e
            have := HT.out
            rw [Hrows.out, bgR_all, List.length_map, e0] at this
            simp at this; omega
          have := Hl.out
          omega
        obtain ⟨hpw1, hpw2⟩ := pow5_step f' (by omega)
        obtain ⟨F5, hF5⟩ : ∃ F, F = 5 ^ f' := ⟨_, rfl⟩
        rw [← hF5] at hpw1
        have HF5 := Lib.hid hF5
        have Hpw := Lib.hid hpw1
        have Hpw2 := Lib.hid hpw2
        have hF6 : F5 ≤ 25000000 := by omega
        have hne : ((T : Int) == 0) = false := by simp; omega
        have Hrow : Hid (∀ i, i < T → P5 n (rows.getD i []) ∧ lnN (rows.getD i []) ≤ f' ∧ cntR (rows.getD i []) ≤ 768) := Lib.hid fun i hi => by
          rw [Hrows.out, bgR_all]
          have hi2 : i < (begK xs).length := by
            have := HT.out
            rw [Hrows.out, bgR_all, List.length_map] at this
            omega
          have e : ((begK xs).map (rstK xs)).getD i [] = rstK xs ((begK xs)[i]) := by simp [List.getD_eq_getElem?_getD, hi2]
          rw [e]
          obtain ⟨r1, r2, _⟩ := rst_ok Hp.out (List.getElem_mem hi2)
          exact ⟨r1, by have := Hl.out; omega, (cnt_le r1).2⟩
        have HSum : Hid ((rows.map cntR).sum = cntR xs) := Lib.hid (by
          have e0 : begK xs ≠ [] := fun e0 => by
            have := HT.out
            rw [Hrows.out, bgR_all, List.length_map, e0] at this
            simp at this; omega
          rw [cnt_step Hp.out, if_neg e0, Hrows.out, bgR_all, List.map_map]; rfl)
        have Hbsz := Hb1.out.size
        have Hbsz2 := Hb2.out.size
        clear hpw1 hpw2 hF5
        go_wp2_with fail
        go_loopg [10, 33] T (fun gg s10 i wr => ∃ (t S M : Nat) (DD : DS), t ≤ T ∧ gg = T - t ∧ i = .int .i64 t ∧ s10 = .int .i64 S ∧ S ≤ 768 * t ∧ M ≤ m + t * F5 ∧ Hid (S = ((rows.take t).map cntR).sum) ∧ Hid (OwnSm wr b M DD) ∧ Hid (MemoOk n DD) ∧ Hid (w2.grownBy wr (some b)))
        case atStart => exact ⟨0, 0, m, D, Nat.zero_le _, rfl, rfl, rfl, Nat.le_refl _, by omega, by simp [Hid], Ho2.out, Hm.out, World.grownBy.refl _ _⟩
        case round =>
          obtain ⟨t, S, M, DD, ht, rfl, rfl, rfl, hS, hM, hs, hO, hMo, hg⟩ := hrel
          obtain ⟨wo, rfl⟩ : ∃ x : World, x = wr := ⟨_, rfl⟩
          by_cases hlt : t < T
          · have hti : (t : Int) < (T : Int) := by omega
            have hM2 : M + 5 ^ f' ≤ 1000000000 := by
              have h1 : t * F5 ≤ 3 * F5 := Nat.mul_le_mul (by omega) (Nat.le_refl _)
              have h2 := Hpw.out
              have h3 := Hm2.out
              rw [← HF5.out]; omega
            have HM2 := Lib.hid hM2
            have hOo : OwnF wo w1.heap.size w2.heap.size 24 (.slice q2 rows.length k2) rows.length g := HB.out.out.keep fun k h1 _ h3 => hg.out.block k h3 (fun e => by injection e; omega)
            rw [← HT.out] at hOo
            obtain ⟨b2, rfl, _, _, _⟩ := hOo.at_ (by omega)
            have c1 := hOo.cell hlt
            have hro := HB.out.row t (by rw [← HT.out]; exact hlt)
            have hro2 : OwnI 3 wo w1.heap.size w2.heap.size (g t) (rows.getD t []) := Own.keep hro fun k h1 _ h3 => hg.out.block k h3 (fun e => by injection e; omega)
            have hrw := hro2.ints
            obtain ⟨r1, r2, r3⟩ := Hrow.out t hlt
            have hsn := sum_take (g := cntR) (rows := rows) (t := t) (by rw [← HT.out]; exact hlt)
            obtain ⟨C, hC⟩ : ∃ C, C = cntR (rows.getD t []) := ⟨_, rfl⟩
            rw [← hC] at r3 hsn
            have HC := Lib.hid hC
            have Hsn := Lib.hid hsn
            have Hr1 := Lib.hid r1
            have Hr2 := Lib.hid r2
            obtain ⟨x, hx'⟩ : ∃ x, x = g t := ⟨_, rfl⟩
            rw [← hx'] at c1 hrw
            have Hrw := Lib.hid hrw
            have HMM : Hid (M + 1 ≤ m + 5 ^ (f' + 1)) := Lib.hid (by
              have h1 : t * F5 ≤ 3 * F5 := Nat.mul_le_mul (by omega) (Nat.le_refl _)
              have h2 := Hpw.out
              omega)
            have Hmt : Hid (∀ m', m' ≤ M + 5 ^ f' → m' ≤ m + (t + 1) * F5) := Lib.hid fun m' h => by
              rw [← HF5.out] at h
              rw [Nat.succ_mul]; omega
            obtain ⟨px, kx, hxe, _⟩ := hrw
            subst hxe
            clear hOo hro hro2 r1 r2 hsn hC hx' hM2
            go_wp2_with fail
            refine (Ih.out f' (by omega) (rows.getD t []) _ _ b M DD (by omega) Hr2.out Hr1.out Hrw.out hO.out hMo.out HM2.out).mono ?_
            rintro e w5 ⟨rfl, D5, m5, ho5, hm5, hl5, hg5⟩
            rw [← HC.out]
            have Ho5 := Lib.hid ho5
            have Hm5 := Lib.hid hm5
            have Hg5 := Lib.hid (hg.out.trans hg5)
            have Hl5 := Lib.hid hl5
            clear ho5 hm5 hl5 hg5
            go_wp2_with fail
            go_roundg (T - (t + 1))
            case measure => omega
            case rel => exact ⟨t + 1, S + C, m5, D5, by omega, rfl, by go_num, by go_num, by omega, Hmt.out _ Hl5.out, by rw [Hsn.out, ← hs.out]; rfl, Ho5.out, Hm5.out, Hg5.out⟩
          · obtain rfl : t = T := by omega
            have hcc : (S : Int) = (cntR xs : Nat) := by
              have := hs.out
              rw [HT.out, List.take_length, HSum.out] at this
              rw [this]
            have HCC := Lib.hid hcc
            have hMM : M + 1 ≤ m + 5 ^ (f' + 1) := by
              have h1 : t * F5 ≤ 4 * F5 := Nat.mul_le_mul hT4 (Nat.le_refl _)
              have h2 := Hpw.out
              omega
            have HMM := Lib.hid hMM
            have HML : Hid (M < maxLen) := Lib.hid (by have := Hm2.out; unfold maxLen; omega)
            clear hcc hMM
            go_wp2_with (at_mapUpdate; refine wpList_mapUpdate_own _ rfl _ _ _ 65 rfl 9 3 slaw undMS _ b M DD rfl hO.out HML.out _ _ key rfl rfl Hkey.out (.lit (.int .i64 (cntR xs : Nat))) [] (by rw [← HCC.out]; exact plainElem_int undSI (WalkArith.wf_i64 (by omega))) ?_; intro w9 ho9 hg9)
            go_ret
            refine ⟨ret_int HCC.out, _, M + 1, ho9, ?_, HMM.out, (grown_of_below Hb1.out _).trans ((grown_of_below Hb2.out _).trans (hg.out.trans hg9))⟩
            have := memo_put hO.out hMo.out Hp.out
            rw [← Hkd.out] at this
            exact this

set_option maxHeartbeats 1000000 in
theorem CountReduced_any (n : Nat) (xs : List Int) (v : Value) (w : World) (hp : P5 n xs) (hv : Ints w v xs) :
    Calls Try.prog 22 #[v] w fun e w' => e = .returned (.int .i64 (cntR xs : Nat)) ∧ Below w.heap.size w w' := by
  have Hv := Lib.hid hv
  have Hp := Lib.hid hp
  have hl := (beg_nil hp).2.1
  obtain ⟨p, cap, rfl, ⟨hx1, hx⟩, _⟩ := hv
  clear hp
  have hmm := @run_makeMap Try.prog
  go_enter Try.func22, Try.ntmps22
  go_wp2_with fail
  refine (implIsPerm_any _ xs _ Hv.out).mono ?_
  rintro e w1 ⟨rfl, hb1⟩
  rw [Hp.out.ok]
  have Hb1 := Lib.hid hb1
  clear hb1
  go_wp2_with fail
  refine (counted_go n 10 xs _ _ w1.heap.size 0 (.map []) (Nat.le_refl _) hl Hp.out ((Hv.out.below Hb1.out).below (below_alloc _ _)) (World.ownsMap_made _ _ _ _) (memo_nil n) (by decide)).mono ?_
  rintro e w2 ⟨rfl, D', m', _, _, _, hg⟩
  go_wp2_with fail
  go_ret
  refine ⟨rfl, Hb1.out.trans ?_⟩
  have hs := Hb1.out.size
  exact ((below_alloc _ _).mono hs).trans ⟨hg.os, hg.tape, hg.output, hg.size, fun i hi => hg.block i (by simp; omega) (fun e => by injection e; omega)⟩

end Go.Proofs.Ytpfefjdefopccaa

namespace Go.Proofs.Ytpfefjdefopccaa
set_option linter.all false
open Go.RowKit

theorem blk5 {w : World} {b : Nat} {x0 x1 x2 x3 x4 : Value} {T : TypeId} (h : w.heap[b]? = some (.cells #[x0, x1, x2, x3, x4] T (0, 0))) :
    w.cell? ⟨b, 0, none⟩ = some x0 ∧ w.cell? ⟨b, 1, none⟩ = some x1 ∧ w.cell? ⟨b, 2, none⟩ = some x2 ∧ w.cell? ⟨b, 3, none⟩ = some x3 ∧ w.cell? ⟨b, 4, none⟩ = some x4 ∧ (∀ j, w.frozen? ⟨b, j, none⟩ = false) ∧ b < w.heap.size :=
  ⟨cell_of_blk h rfl, cell_of_blk h rfl, cell_of_blk h rfl, cell_of_blk h rfl, cell_of_blk h rfl, free_of_blk h, blk_lt h⟩
theorem ints_nil (w : World) (p : Option Addr) : Ints w (.slice p 0 0) [] := ⟨p, 0, rfl, ⟨Nat.le_refl _, Nat.zero_le _⟩, fun h => absurd h (by simp)⟩
theorem own_nil (T : TypeId) (w : World) (lo hi : Nat) : OwnI T w lo hi (.slice none 0 0) [] := ⟨World.ownsRow_nil _ _ _ _, fun k hk => by simp [Value.ownBlock] at hk⟩

end Go.Proofs.Ytpfefjdefopccaa
