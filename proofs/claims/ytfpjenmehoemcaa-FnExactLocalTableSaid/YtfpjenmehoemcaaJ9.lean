/-
  Values of permutations' polynomials at numbers that a permutation picks: the recursion, where they vanish, and the products over inversions. Plain.
  double: the double Schubert polynomial of a permutation.
  slices.Index and slices.Contains at []int.
  Lists of numbers compared; permutations trimmed: both sides.
  What the program asks of numbers; its exchange of two places; the search among permutations.
  Localize on both sides.
  NewSession: what both make, and the law's helpers on sessions whose classes and shape are empty.
-/
import Derived.Test.YtfpjenmehoemcaaJ8
import Derived.Test.YtfpjenmehoemcaaJ7
import Derived.Test.YtfpjenmehoemcaaJ6
import Derived.Test.YtfpjenmehoemcaaJ4
import Derived.BigRegion
namespace Go.Proofs.Ytfpjenmehoemcaa
set_option linter.all false
open Go.RowKit

/-! ### at all numbers -/
theorem abs_le_sum {l : List Int} {i : Nat} : (l.getD i 0).natAbs ≤ (l.map Int.natAbs).sum := by
  induction l generalizing i with
  | nil => simp
  | cons x l ih =>
    cases i with
    | zero => simp
    | succ i =>
      have := ih (i := i)
      simp only [List.getD_cons_succ, List.map_cons, List.sum_cons]
      omega
/-- numbers moved apart by multiples of N -/
def mvd (N : Int) (m : Nat) (l : List Int) : List Int := (List.range m).map fun (i : Nat) => l.getD i 0 + N * (i : Int)
theorem mvd_length (N : Int) (m : Nat) (l : List Int) : (mvd N m l).length = m := by simp [mvd]
theorem mvd_getD {N : Int} {m : Nat} {l : List Int} {i : Nat} (h : i < m) : (mvd N m l).getD i 0 = l.getD i 0 + N * (i : Int) := by simp [mvd, List.getD_eq_getElem?_getD, h]
theorem mvd_mg {N : Int} {m : Nat} {l : List Int} (hl : l.length = m) (i : Nat) : Mg N (l.getD i 0) ((mvd N m l).getD i 0) := by
  by_cases h : i < m
  · rw [mvd_getD h]; exact ⟨-(i : Int), by rw [Int.mul_neg]; omega⟩
  · have a : l.getD i 0 = 0 := by rw [List.getD_eq_getElem?_getD, List.getElem?_eq_none (by omega)]; rfl
    have b : (mvd N m l).getD i 0 = 0 := by rw [List.getD_eq_getElem?_getD, List.getElem?_eq_none (by rw [mvd_length]; omega)]; rfl
    rw [a, b]; exact Mg.refl _ _
theorem mvd_ne {N : Int} {m : Nat} {l : List Int} (hN : 2 * ((l.map Int.natAbs).sum : Int) < N) {i j : Nat} (hij : i < j) (hj : j < m) : (mvd N m l).getD i 0 ≠ (mvd N m l).getD j 0 := by
  rw [mvd_getD (by omega), mvd_getD hj]
  intro e
  have a := abs_le_sum (l := l) (i := i)
  have b := abs_le_sum (l := l) (i := j)
  have c := Int.mul_le_mul_of_nonneg_left (show (1 : Int) ≤ (j : Int) - (i : Int) by omega) (show 0 ≤ N by omega)
  rw [Int.mul_one, Int.mul_sub] at c
  omega
theorem EV_mg {N : Int} {T : Pl} {v x x' : List Int} (h : ∀ i, Mg N (x.getD i 0) (x'.getD i 0)) : Mg N (EV T v x) (EV T v x') := Ev_mg (mono_mg h) _
theorem sw_mg {N : Int} {x x' : List Int} {k : Nat} (hk : k + 1 < x.length) (hk' : k + 1 < x'.length) (h : ∀ i, Mg N (x.getD i 0) (x'.getD i 0)) (i : Nat) : Mg N ((sw k x).getD i 0) ((sw k x').getD i 0) := by
  rw [sw_getD hk, sw_getD hk']
  split
  · exact h k
  · split
    · exact h (k + 1)
    · exact h i
theorem way_all {T : Pl} (hT : Pos7 T) {n : Nat} {v : List Int} (hv : P5 n v) {k : Nat} (hk : k + 1 < n) (ha : ascB k v = true) {x : List Int} (hx : x.length = 7) : WayAt T n v k x := by
  have h5 := hv.le
  unfold WayAt
  have key : (x.getD k 0 - x.getD (k + 1) 0) * EV T v x - (EV T (sw k v) x - EV T (sw k v) (sw k x)) = 0 := by
    refine Mg.zero (2 * ((x.map Int.natAbs).sum : Int)) fun N hN hN0 => ?_
    have hm := mvd_mg (N := N) hx
    have hl := mvd_length N 7 x
    have hd : Dst n (mvd N 7 x) := ⟨hl, fun i j hij hj => mvd_ne hN hij (by omega)⟩
    have hw := way_dst hT (upN v) v hv rfl k hk ha _ hd
    unfold WayAt at hw
    have e : (mvd N 7 x).getD k 0 - (mvd N 7 x).getD (k + 1) 0 = (mvd N 7 x).getD k 0 - (mvd N 7 x).getD (k + 1) 0 := rfl
    have := (((hm k).sub (hm (k + 1))).mul (EV_mg (T := T) (v := v) hm)).sub ((EV_mg (T := T) (v := sw k v) hm).sub (EV_mg (T := T) (v := sw k v) (sw_mg (x := x) (x' := mvd N 7 x) (k := k) (by omega) (by omega) hm)))
    rw [hw, Int.sub_self] at this
    exact this
  omega
/-! ### at the numbers that a permutation picks -/
theorem pickL_length (w ys : List Int) : (pickL w ys).length = 7 := by simp [pickL]
theorem pickL_at {w ys : List Int} {i : Nat} (h : i < w.length) (h7 : w.length ≤ 7) : (pickL w ys).getD i 0 = ys.getD (w.getD i 0).toNat 0 := by
  rw [pickL_getD _ _ (by omega)]; unfold pick; rw [if_pos h]
theorem pickL_sw {w ys : List Int} {k : Nat} (hk : k + 1 < w.length) (h7 : w.length ≤ 7) : pickL (sw k w) ys = sw k (pickL w ys) := by
  refine getD_eq_list (by rw [sw_length, pickL_length, pickL_length]) fun t ht => ?_
  rw [pickL_length] at ht
  have hk7 : k + 1 < (pickL w ys).length := by rw [pickL_length]; omega
  rw [sw_getD hk7, pickL_at (by omega) h7, pickL_at hk h7, pickL_getD _ _ ht, pickL_getD _ _ ht]
  unfold pick
  rw [sw_length, sw_getD hk]
  by_cases h1 : t = k + 1
  · rw [if_pos h1, if_pos h1, if_pos (by omega)]
  · by_cases h2 : t = k
    · rw [if_neg h1, if_pos h2, if_neg h1, if_pos h2, if_pos (by omega)]
    · rw [if_neg h1, if_neg h2, if_neg h1, if_neg h2]
theorem pickL_mg {N : Int} {w ys ys' : List Int} (h : ∀ i, Mg N (ys.getD i 0) (ys'.getD i 0)) (i : Nat) : Mg N ((pickL w ys).getD i 0) ((pickL w ys').getD i 0) := by
  by_cases h7 : i < 7
  · rw [pickL_getD _ _ h7, pickL_getD _ _ h7]
    unfold pick
    split
    · exact h _
    · exact Mg.refl _ _
  · have a : ∀ y, (pickL w y).getD i 0 = 0 := fun y => by rw [List.getD_eq_getElem?_getD, List.getElem?_eq_none (by rw [pickL_length]; omega)]; rfl
    rw [a, a]; exact Mg.refl _ _
/-- the value of v at w -/
def FW (n : Nat) (ys v w : List Int) : Int := EV (topI n ys n) v (pickL w ys)
theorem FW_mg {N : Int} {n : Nat} {ys ys' v w : List Int} (h : ∀ i, Mg N (ys.getD i 0) (ys'.getD i 0)) : Mg N (FW n ys v w) (FW n ys' v w) :=
  ((PMg.low (PMg.top h n n) 10 v) _).trans (Ev_mg (mono_mg (pickL_mg h)) _)
def df (ys w : List Int) (k : Nat) : Int := ys.getD (w.getD (k + 1) 0).toNat 0 - ys.getD (w.getD k 0).toNat 0
theorem FW_rec {n : Nat} {ys v w : List Int} (hv : P5 n v) (hw : P5 n w) {k : Nat} (hk : k + 1 < n) :
    FW n ys v (sw k w) = FW n ys v w + (if ascB k v then 0 else df ys w k * FW n ys (sw k v) w) := by
  have hT := Pos7.top n ys n
  have h5 := hv.le
  have hl := hw.len
  unfold FW
  rw [pickL_sw (by omega) (by omega)]
  have hx7 := pickL_length w ys
  cases ha : ascB k v with
  | true =>
    have a := way_all hT hv hk ha hx7
    have b := way_all hT hv hk ha (x := sw k (pickL w ys)) (by rw [sw_length, hx7])
    rw [a.sym (by omega) b]; simp
  | false =>
    have hd := hv.desc hk ha
    have a := way_all hT (hv.sw hk) hk hd.2 hx7
    unfold WayAt at a
    rw [sw_sw (by have := hv.len; omega), pickL_at (by omega) (by omega), pickL_at (by omega) (by omega)] at a
    unfold df
    rw [if_neg (by decide)]
    obtain ⟨A, hA⟩ : ∃ A, A = ys.getD (w.getD k 0).toNat 0 := ⟨_, rfl⟩
    obtain ⟨B, hB⟩ : ∃ B, B = ys.getD (w.getD (k + 1) 0).toNat 0 := ⟨_, rfl⟩
    rw [← hA, ← hB] at a ⊢
    rw [show B - A = -(A - B) by omega, Int.neg_mul, a]
    omega
theorem FW_way {n : Nat} {ys v w : List Int} (hv : P5 n v) (hw : P5 n w) {k : Nat} (hk : k + 1 < n) (ha : ascB k v = true) :
    df ys w k * FW n ys v w = FW n ys (sw k v) (sw k w) - FW n ys (sw k v) w := by
  have hvs := hv.sw hk
  have := FW_rec (ys := ys) hvs hw hk
  rw [(hv.asc hk ha).2, sw_sw (by have := hv.len; omega)] at this
  simp at this
  omega

/-! ### products -/
def prodP (ys : List Int) : List (Int × Int) → Int
  | [] => 1
  | p :: l => (ys.getD p.1.toNat 0 - ys.getD p.2.toNat 0) * prodP ys l
theorem prodP_append (ys : List Int) (a b : List (Int × Int)) : prodP ys (a ++ b) = prodP ys a * prodP ys b := by
  induction a with
  | nil => simp [prodP]
  | cons p l ih => rw [List.cons_append, prodP, prodP, ih, Int.mul_assoc]
theorem prodP_perm (ys : List Int) {a b : List (Int × Int)} (h : a.Perm b) : prodP ys a = prodP ys b := by
  induction h with
  | nil => rfl
  | cons x _ ih => rw [prodP, prodP, ih]
  | swap x y l => simp only [prodP]; rw [Int.mul_left_comm]
  | trans _ _ a b => exact a.trans b
theorem prodP_zero (ys : List Int) {l : List (Int × Int)} (h : ∃ p ∈ l, p.1 = p.2) : prodP ys l = 0 := by
  obtain ⟨p, hp, e⟩ := h
  induction l with
  | nil => cases hp
  | cons q l ih =>
    rw [prodP]
    rcases List.mem_cons.1 hp with rfl | hp
    · rw [e, Int.sub_self, Int.zero_mul]
    · rw [ih hp, Int.mul_zero]
theorem prodP_mg {N : Int} {ys ys' : List Int} (h : ∀ i, Mg N (ys.getD i 0) (ys'.getD i 0)) : ∀ l, Mg N (prodP ys l) (prodP ys' l)
  | [] => Mg.refl _ _
  | p :: l => ((h _).sub (h _)).mul (prodP_mg h l)
theorem mono_rs {x e : List Int} {i : Nat} (hi : i < 7) (he : e.length = 7) (hp : ∀ a ∈ e, (0 : Int) ≤ a) (hx : x.length = 7) : mono x (rsE i e) = x.getD i 0 * mono x e := by
  obtain ⟨a0, a1, a2, a3, a4, a5, a6, rfl⟩ := list7 he
  obtain ⟨x0, x1, x2, x3, x4, x5, x6, rfl⟩ := list7 hx
  have h0 := hp a0 (by simp)
  have h1 := hp a1 (by simp)
  have h2 := hp a2 (by simp)
  have h3 := hp a3 (by simp)
  have h4 := hp a4 (by simp)
  have h5 := hp a5 (by simp)
  have h6 := hp a6 (by simp)
  have t : ∀ a : Int, 0 ≤ a → (a + 1).toNat = a.toNat + 1 := fun a h => by omega
  have : i = 0 ∨ i = 1 ∨ i = 2 ∨ i = 3 ∨ i = 4 ∨ i = 5 ∨ i = 6 := by omega
  rcases this with rfl | rfl | rfl | rfl | rfl | rfl | rfl <;> (simp [mono, monoK, rsE, t _ h0, t _ h1, t _ h2, t _ h3, t _ h4, t _ h5, t _ h6, Int.pow_succ]; ac_rfl)
theorem rs_val {x : List Int} {i : Nat} (hi : i < 7) (hx : x.length = 7) : ∀ {P : Pl}, Pos7 P → Ev (rsP i P) (mono x) = x.getD i 0 * Ev P (mono x)
  | [], _ => by simp [rsP, Ev]
  | p :: l, h => by
    have ih := rs_val hi hx (P := l) fun q hq => h q (List.mem_cons_of_mem _ hq)
    have hp := h p List.mem_cons_self
    show p.2 * mono x (rsE i p.1) + Ev (rsP i l) (mono x) = _ * (p.2 * mono x p.1 + Ev l (mono x))
    rw [ih, mono_rs hi hp.1 hp.2 hx, Int.mul_add, Int.mul_left_comm]
/-- the factors of the longest permutation's polynomial at w -/
def tpJ (w : List Int) (i : Nat) : Nat → List (Int × Int)
  | 0 => []
  | m + 1 => (w.getD i 0, (m : Int)) :: tpJ w i m
def tpI (n : Nat) (w : List Int) : Nat → List (Int × Int)
  | 0 => []
  | i + 1 => tpJ w i (n - 1 - i) ++ tpI n w i
theorem top_val {n : Nat} {w ys : List Int} (hl : w.length = n) (h5 : n ≤ 5) : ∀ i, i ≤ n → Ev (topI n ys i) (mono (pickL w ys)) = prodP ys (tpI n w i)
  | 0, _ => by simp [topI, tpI, Ev, prodP, mono, monoK]
  | i + 1, hi => by
    rw [topI, tpI, prodP_append]
    have hx := pickL_length w ys
    have : ∀ m, Ev (topJ i ys m (topI n ys i)) (mono (pickL w ys)) = prodP ys (tpJ w i m) * prodP ys (tpI n w i) ∧ Pos7 (topJ i ys m (topI n ys i)) := fun m => by
      induction m with
      | zero => exact ⟨by rw [topJ, tpJ, prodP, Int.one_mul]; exact top_val hl h5 i (by omega), Pos7.top n ys i⟩
      | succ m ih =>
        refine ⟨?_, (ih.2.rs i).append (ih.2.scl _)⟩
        rw [topJ, tpJ, prodP, Ev_append, Ev_scl, Ev_mul, rs_val (by omega) hx ih.2, ih.1, pickL_at (by omega) (by omega)]
        simp only [Int.toNat_natCast]
        obtain ⟨A, hA⟩ : ∃ A, A = prodP ys (tpJ w i m) := ⟨_, rfl⟩
        obtain ⟨B, hB⟩ : ∃ A, A = prodP ys (tpI n w i) := ⟨_, rfl⟩
        rw [← hA, ← hB]
        grind
    exact (this _).1
/-- the inversions, as pairs of numbers -/
def invs (v : List Int) : List (Int × Int) := (List.range v.length).flatMap fun j => ((List.range j).filter fun i => decide (v.getD j 0 < v.getD i 0)).map fun i => (v.getD i 0, v.getD j 0)
def vanB (w : List Int) : Bool := if upN w = 0 then (tpI w.length w w.length).isPerm (invs w) && (fasc w).isNone && decide (w = (idL w.length).reverse) else (tpI w.length w w.length).any (fun p => decide (p.1 = p.2)) && (fasc w).isSome
def invB (v : List Int) : Bool := (List.range (v.length - 1)).all fun k => !ascB k v || (invs (sw k v)).isPerm ((v.getD (k + 1) 0, v.getD k 0) :: invs v)
set_option maxRecDepth 100000 in
theorem van_all : all5 vanB = true := by decide +kernel
set_option maxRecDepth 100000 in
theorem inv_all : all5 invB = true := by decide +kernel
theorem van_0 {n : Nat} {w : List Int} (hw : P5 n w) (h0 : upN w = 0) : (tpI n w n).Perm (invs w) ∧ fasc w = none ∧ w = (idL n).reverse := by
  have := all5_at van_all hw.ok (by have := hw.len; have := hw.le; omega)
  unfold vanB at this
  rw [if_pos h0, hw.len] at this
  simpa [List.isPerm_iff, and_assoc] using this
theorem van_1 {n : Nat} {w : List Int} (hw : P5 n w) (h0 : upN w ≠ 0) : (∃ p ∈ tpI n w n, p.1 = p.2) ∧ ∃ k, fasc w = some k := by
  have := all5_at van_all hw.ok (by have := hw.len; have := hw.le; omega)
  unfold vanB at this
  rw [if_neg h0, hw.len] at this
  simp only [Bool.and_eq_true, List.any_eq_true, decide_eq_true_eq, Option.isSome_iff_exists] at this
  exact this
theorem inv_sw {n : Nat} {v : List Int} (hv : P5 n v) {k : Nat} (hk : k + 1 < n) (ha : ascB k v = true) : (invs (sw k v)).Perm ((v.getD (k + 1) 0, v.getD k 0) :: invs v) := by
  have := all5_at inv_all hv.ok (by have := hv.len; have := hv.le; omega)
  simp only [invB, List.all_eq_true, List.mem_range] at this
  have := this k (by have := hv.len; omega)
  rw [ha] at this
  simpa [List.isPerm_iff] using this
def DstY (n : Nat) (ys : List Int) : Prop := ∀ i j, i < n → j < n → i ≠ j → ys.getD i 0 ≠ ys.getD j 0
theorem df_ne {n : Nat} {ys w : List Int} (hy : DstY n ys) (hw : P5 n w) {k : Nat} (hk : k + 1 < n) : df ys w k ≠ 0 := by
  obtain ⟨a, ha, han⟩ := hw.rng (j := k) (by omega)
  obtain ⟨b, hb, hbn⟩ := hw.rng (j := k + 1) hk
  unfold df
  rw [ha, hb, Int.toNat_natCast, Int.toNat_natCast]
  have hne : b ≠ a := fun e => by
    have hp := hw.ok
    simp only [permOk, decide_eq_true_eq] at hp
    have := List.pairwise_iff_getElem.1 hp.2.2.2 k (k + 1) (by have := hw.len; omega) (by have := hw.len; omega) (by omega)
    rw [← getD_lt, ← getD_lt, ha, hb, e] at this
    exact this rfl
  have := hy b a hbn han hne
  omega
theorem sw_inj {n : Nat} {v w : List Int} (hv : P5 n v) (hw : P5 n w) {k : Nat} (hk : k + 1 < n) (h : sw k w = sw k v) : w = v := by
  rw [← sw_sw (x := w) (k := k) (by have := hw.len; omega), h, sw_sw (by have := hv.len; omega)]
theorem up_near {n : Nat} {w : List Int} (hw : P5 n w) {k : Nat} (hk : k + 1 < n) : upN w ≤ upN (sw k w) + 1 := by
  cases ha : ascB k w with
  | true => have := (hw.asc hk ha).1; omega
  | false => have := (hw.desc hk ha).1; omega
theorem van_dst {n : Nat} {ys : List Int} (hy : DstY n ys) : ∀ (m : Nat) (v : List Int), P5 n v → upN v = m → (∀ w, P5 n w → m ≤ upN w → w ≠ v → FW n ys v w = 0) ∧ FW n ys v v = prodP ys (invs v) := by
  intro m
  induction m with
  | zero =>
    intro v hv hm
    obtain ⟨h1, h2, h3⟩ := van_0 hv hm
    have hval : ∀ w, P5 n w → FW n ys v w = prodP ys (tpI n w n) := fun w hw => by
      unfold FW EV
      rw [show lowP 10 v (topI n ys n) = topI n ys n by rw [lowP, h2]]
      exact top_val hw.len hw.le n (Nat.le_refl _)
    refine ⟨fun w hw _ hne => ?_, by rw [hval v hv, prodP_perm ys h1]⟩
    rw [hval w hw]
    refine prodP_zero ys (van_1 hw fun h0 => hne ?_).1
    rw [h3, (van_0 hw h0).2.2]
  | succ m ih =>
    intro v hv hm
    obtain ⟨_, k, hk⟩ := van_1 hv (by omega)
    have hkl := fasc_lt hk
    have hkn : k + 1 < n := by have := hv.len; omega
    have ha : ascB k v = true := decide_eq_true hkl.2.1
    have hu := hv.asc hkn ha
    obtain ⟨z1, z2⟩ := ih (sw k v) (hv.sw hkn) (by omega)
    refine ⟨fun w hw hle hne => ?_, ?_⟩
    · have a := FW_way (ys := ys) hv hw hkn ha
      have b := up_near hw hkn
      rw [z1 w hw (by omega) (fun e => by rw [e] at hle; omega), z1 (sw k w) (hw.sw hkn) (by omega) (fun e => hne (sw_inj hv hw hkn e)), Int.sub_self] at a
      exact cancel (df_ne hy hw hkn) a
    · have a := FW_way (ys := ys) hv hv hkn ha
      rw [z2, z1 v hv (by omega) (fun e => by rw [← e] at hu; omega), prodP_perm ys (inv_sw hv hkn ha), prodP] at a
      have b := df_ne hy hv hkn
      have : df ys v k * (FW n ys v v - prodP ys (invs v)) = 0 := by
        rw [Int.mul_sub, a]
        simp only [df]
        omega
      have := cancel b this
      omega
theorem mvd_dst {N : Int} {n : Nat} {ys : List Int} (hN : 2 * ((ys.map Int.natAbs).sum : Int) < N) : DstY n (mvd N n ys) := fun i j hi hj hne => by
  rcases Nat.lt_or_gt_of_ne hne with h | h
  · exact mvd_ne hN h hj
  · exact fun e => mvd_ne hN h hi e.symm
theorem FW_zero {n : Nat} {ys v w : List Int} (hv : P5 n v) (hw : P5 n w) (hy : ys.length = n) (hle : upN v ≤ upN w) (hne : w ≠ v) : FW n ys v w = 0 :=
  Mg.zero (2 * ((ys.map Int.natAbs).sum : Int)) fun N hN _ => by
    have a := FW_mg (n := n) (v := v) (w := w) (mvd_mg (N := N) hy)
    rw [(van_dst (mvd_dst hN) _ v hv rfl).1 w hw hle hne] at a
    exact a
theorem FW_self {n : Nat} {ys v : List Int} (hv : P5 n v) (hy : ys.length = n) : FW n ys v v = prodP ys (invs v) := by
  have : FW n ys v v - prodP ys (invs v) = 0 :=
    Mg.zero (2 * ((ys.map Int.natAbs).sum : Int)) fun N hN _ => by
      have a := (FW_mg (n := n) (v := v) (w := v) (mvd_mg (N := N) hy)).sub (prodP_mg (mvd_mg (N := N) hy) (invs v))
      rw [(van_dst (mvd_dst hN) _ v hv rfl).2, Int.sub_self] at a
      exact a
  omega

/-! ### the reference's sums -/
theorem sumS_snoc {n : Nat} {ys : List Int} {k : Nat} (hk : k + 1 < n) : ∀ (r : List Nat) (v u h : List Int), P5 n v → P5 n h → u.length = n → (∀ j ∈ r, j + 1 < n) →
    sumS v ys (r ++ [k]) u h = sumS v ys r u h + (if ascB k v then 0 else df ys (play r u) k * sumS (sw k v) ys r u h)
  | [], v, u, h, hv, hh, hu, _ => by
    simp only [List.nil_append, sumS, play, List.foldl_nil, df]
    congr 1
    cases ha : ascB k h with
    | true =>
      have a := (hh.asc hk ha).2
      by_cases e : sw k h = v
      · have e2 : h = sw k v := by rw [← e, sw_sw (by have := hh.len; omega)]
        rw [← e, a, sw_sw (by have := hh.len; omega)]
        simp
      · have e2 : ¬ h = sw k v := fun e2 => e (by rw [e2, sw_sw (by have := hv.len; omega)])
        simp [e, e2]
    | false =>
      cases hb : ascB k v with
      | true => simp
      | false =>
        have e2 : ¬ h = sw k v := fun e2 => by
          have := (hv.desc hk hb).2
          rw [← e2, ha] at this
          cases this
        simp [e2]
  | j :: r, v, u, h, hv, hh, hu, hr => by
    have hj : j + 1 < n := hr j List.mem_cons_self
    have hr' : ∀ j ∈ r, j + 1 < n := fun i hi => hr i (List.mem_cons_of_mem _ hi)
    have i1 := sumS_snoc (ys := ys) hk r v (sw j u) h hv hh (by rw [sw_length]; exact hu) hr'
    have i2 := sumS_snoc (ys := ys) hk r v (sw j u) (sw j h) hv (hh.sw hj) (by rw [sw_length]; exact hu) hr'
    rw [List.cons_append, sumS, i1, i2, sumS, sumS]
    show _ = _ + (if ascB k v then 0 else df ys (play r (sw j u)) k * _)
    cases ascB k v <;> cases ascB j h <;> simp <;> grind
theorem play_p5 {n : Nat} : ∀ (r : List Nat) (u : List Int), P5 n u → (∀ j ∈ r, j + 1 < n) → P5 n (play r u)
  | [], u, h, _ => h
  | j :: r, u, h, hr => play_p5 r (sw j u) (h.sw (hr j List.mem_cons_self)) fun i hi => hr i (List.mem_cons_of_mem _ hi)
theorem play_snoc (r : List Nat) (k : Nat) (u : List Int) : play (r ++ [k]) u = sw k (play r u) := by simp [play]
theorem id_most {n : Nat} {v : List Int} (hv : P5 n v) (h1 : 1 ≤ n) : upN v ≤ upN (idL n) ∧ lnN (idL n) = 0 ∧ invs (idL n) = [] := by
  have h5 := hv.le
  have a := (wrd_at hv).2.2.2
  have b := (wrd_at (P5.id h1 h5)).2.2.2
  have c : ∀ n : Fin 6, lnN (idL n) = 0 ∧ invs (idL n) = [] := by decide
  have d := c ⟨n, by omega⟩
  simp only at d
  refine ⟨by omega, d⟩
theorem sum_val {n : Nat} {ys : List Int} (hy : ys.length = n) (h1 : 1 ≤ n) (h5 : n ≤ 5) : ∀ (m : Nat) (r : List Nat) (v : List Int), r.length = m → P5 n v → (∀ j ∈ r, j + 1 < n) → FW n ys v (play r (idL n)) = sumS v ys r (idL n) (idL n) := by
  intro m
  induction m with
  | zero =>
    intro r v hr hv _
    obtain rfl := List.eq_nil_of_length_eq_zero hr
    have hi := P5.id h1 h5
    have a := id_most hv h1
    show FW n ys v (idL n) = _
    rw [sumS]
    by_cases e : idL n = v
    · rw [if_pos e, ← e, FW_self hi hy, a.2.2]; rfl
    · rw [if_neg e]
      exact FW_zero hv hi hy a.1 e
  | succ m ih =>
    intro r v hr hv hrk
    have hne : r ≠ [] := fun e => by rw [e] at hr; cases hr
    obtain ⟨r', k, rfl⟩ : ∃ r' k, r = r' ++ [k] := ⟨r.dropLast, r.getLast hne, (List.dropLast_concat_getLast hne).symm⟩
    have hk : k + 1 < n := hrk k (by simp)
    have hrk' : ∀ j ∈ r', j + 1 < n := fun j hj => hrk j (by simp [hj])
    have hl : r'.length = m := by simpa using hr
    have hi := P5.id h1 h5
    rw [play_snoc, FW_rec hv (play_p5 r' _ hi hrk') hk, sumS_snoc hk r' v _ _ hv hi hi.len hrk', ih r' v hl hv hrk', ih r' (sw k v) hl (hv.sw hk) hrk']
/-- the two ways to reckon a value agree -/
theorem loc_law {n : Nat} {v w ys : List Int} (hv : P5 n v) (hw : P5 n w) (hy : ys.length = n) (h1 : 1 ≤ n) : Ev (dblP v ys) (mono (pickL w ys)) = sumS v ys (fstL w) (idL n) (idL n) := by
  have h := wrd_at hw
  have := sum_val hy h1 hw.le _ (fstL w) v rfl hv h.2.1
  rw [h.1] at this
  rw [← this]
  unfold FW EV dblP
  rw [hv.len]

end Go.Proofs.Ytfpjenmehoemcaa

namespace Go.Proofs.Ytfpjenmehoemcaa
set_option linter.all false
open Go.RowKit Go.Maps Go.WideMaps Go.WideElems Go.MapKept Go.ChangeMaps Go.ChangeShapes

/-- how many factors there are ahead of row i -/
def topS (n : Nat) : Nat → Nat
  | 0 => 0
  | i + 1 => topS n i + (n - 1 - i)
theorem topS_le {n i j : Nat} (hn : n ≤ 5) (hi : i < n) (hj : j ≤ n - 1 - i) : topS n i + j ≤ 10 := by
  have h : ∀ n : Fin 6, ∀ i : Fin 6, (i : Nat) < n → topS n i + (n - 1 - i) ≤ 10 := by decide
  have := h ⟨n, by omega⟩ ⟨i, by omega⟩ hi
  simp only at this
  omega
theorem topS_end {n : Nat} (hn : n ≤ 5) : topS n n ≤ 10 := by
  have h : ∀ n : Fin 6, topS n n ≤ 10 := by decide
  exact h ⟨n, by omega⟩

set_option maxRecDepth 100000 in
set_option maxHeartbeats 4000000 in
theorem double_any (vw vy : Value) (xs ys : List Int) (w : World) (hw : Ints w vw xs) (hy : Ints w vy ys) (h1 : 1 ≤ xs.length) (h5 : xs.length ≤ 5) (hyl : ys.length = xs.length) (hb : ∀ x ∈ ys, -9 ≤ x ∧ x ≤ 9) (hok : lowOk 10 xs = true) :
    Calls Try.prog 23 #[vw, vy] w fun e w' => ∃ u', e = .returned u' ∧ PolV w' u' 10 10240000000000 (dblP xs ys) ∧ Below w.heap.size w w' := by
  have Hw := Lib.hid hw
  have Hy := Lib.hid hy
  obtain ⟨pw, cw, rfl, ⟨hw1, hw2⟩, hwc⟩ := hw
  obtain ⟨py, cy, rfl, ⟨hy1, hy2⟩, hyc⟩ := hy
  unfold maxLen at hw2 hy2
  have Hyc := Lib.hid hyc
  have hmm := @run_makeMap Try.prog
  have hbd := buildE
  have hkey : keyOf Try.prog 56 (.agg #[.int .i64 0, .int .i64 0, .int .i64 0, .int .i64 0, .int .i64 0, .int .i64 0, .int .i64 0]) = some (kl [0, 0, 0, 0, 0, 0, 0]) := keyOf_kv (e := [0, 0, 0, 0, 0, 0, 0]) (d := 0) ⟨rfl, by simp⟩ (by omega)
  have hown0 := World.ownsMap_made (H := Unit) w Try.prog 56 (plainElem Try.prog 3)
  clear hwc hyc
  go_enter Try.func23, Try.ntmps23
  go_wp2_with (first
    | (refine wpList_insert_own rfl _ _ _ rfl w.heap.size 0 _ rfl hown0 (by omega) _ _ 1 rfl rfl hkey (by decide) ?_; intro w0 hown1 hg0; go_frame)
    | fail)
  have hp0 : PolV w0 (.map (some w.heap.size)) 0 1 (topI xs.length ys 0) := ⟨_, _, rfl, hown1, by
    have := (PolM.empty 0).putNew (e := [0, 0, 0, 0, 0, 0, 0]) (c := 1) (by omega) ⟨rfl, by simp⟩ rfl
    exact this⟩
  have Hp0 := Lib.hid hp0
  have Hb0 := Lib.hid (show Below w.heap.size w w0 from ((Below.refl _ _).alloc (Nat.le_refl _) _).grown hg0 (by simp) (fun j hj => by cases hj; exact Nat.le_refl _))
  obtain ⟨n, hn⟩ : ∃ n, n = xs.length := ⟨_, rfl⟩
  have hn5 : n ≤ 5 := by omega
  have hn1 : 1 ≤ n := by omega
  obtain ⟨B, hB⟩ : ∃ B, B = w.heap.size := ⟨_, rfl⟩
  rw [hyl] at hy1 ⊢
  rw [← hn] at hyl hw1 hy1 Hp0 ⊢
  have hb0 := Lib.hid hb
  clear hown1 hp0 hg0 hown0 hkey hbd hmm hb
  have Hn := Lib.hid hn
  have HB := Lib.hid hB
  rw [← hB] at Hb0 Hp0 ⊢
  clear hn hB
  go_loopg [6, 7, 8, 15] n (fun g s6 s7 s8 s15 wr => ∃ (i b : Nat), i ≤ n ∧ g = n - i ∧ s15 = .int .i64 (i : Int) ∧ s6 = .map (some b) ∧ Hid (PolV wr (.map (some b)) (topS n i) (2 ^ topS n i) (topI n ys i)) ∧ Hid (Below B w wr))
  case atStart => exact ⟨0, B, Nat.zero_le _, rfl, rfl, rfl, Hp0, Hb0⟩
  case round =>
    obtain ⟨i, b, hi, rfl, rfl, rfl, hp, hb⟩ := hrel
    obtain ⟨wx, rfl⟩ : ∃ x : World, x = wr := ⟨_, rfl⟩
    by_cases hin : i < n
    · have hini : (i : Int) < (n : Int) := by omega
      have hbnd : (n : Int) - 1 - (i : Int) = ((n - 1 - i : Nat) : Int) := by omega
      have Hp := Lib.hid hp.out
      have Hb := Lib.hid hb.out
      clear hp hb
      go_wp2_with fail
      go_loopg [6, 8, 22] (n - 1 - i) (fun g s6 s8 s22 wr => ∃ (j b : Nat), j ≤ n - 1 - i ∧ g = n - 1 - i - j ∧ s22 = .int .i64 (j : Int) ∧ s6 = .map (some b) ∧ Hid (PolV wr (.map (some b)) (topS n i + j) (2 ^ (topS n i + j)) (topJ i ys j (topI n ys i))) ∧ Hid (Below B w wr))
      case atStart => exact ⟨0, b, Nat.zero_le _, rfl, rfl, rfl, Hp, Hb⟩
      case round =>
        obtain ⟨j, b2, hj, rfl, rfl, rfl, hp, hb⟩ := hrel
        obtain ⟨wy, rfl⟩ : ∃ x : World, x = wr := ⟨_, rfl⟩
        by_cases hjn : j < n - 1 - i
        · have hjni : (j : Int) < (n : Int) - 1 - (i : Int) := by omega
          have hjn2 : (j : Int) < (n : Int) := by omega
          obtain ⟨bY, oy, rfl, hcy⟩ := Hyc.out (by omega)
          have c0 := hcy j (by omega)
          unfold iv at c0
          obtain ⟨y, hyj⟩ : ∃ y, y = ys.getD j 0 := ⟨_, rfl⟩
          have hyb := hb0.out y (by rw [hyj]; exact getD_mem (by omega))
          rw [← hyj] at c0
          have c1 : wy.cell? ⟨bY, oy + j, none⟩ = some (.int .i64 y) := cell_below (HB.out ▸ hb.out) c0
          have Hyj := Lib.hid hyj
          have hs := topS_le hn5 hin (j := j + 1) (by omega)
          have hpow : 2 ^ (topS n i + j) ≤ 1024 := Nat.le_trans (Nat.pow_le_pow_right (by omega) (show topS n i + j ≤ 10 by omega)) (by decide)
          have hp2 := PolV.below (w' := wy.drew) hp.out (Below.refl _ _).drew
          obtain ⟨N, hN⟩ : ∃ N, N = 2 ^ (topS n i + j) := ⟨_, rfl⟩
          obtain ⟨d0, hd0⟩ : ∃ d0, d0 = topS n i + j := ⟨_, rfl⟩
          obtain ⟨T, hT⟩ : ∃ T, T = topJ i ys j (topI n ys i) := ⟨_, rfl⟩
          have hd10 : d0 + 1 ≤ 10 := by omega
          rw [← hN, ← hT, ← hd0] at hp2
          rw [← hN] at hpow
          have Hp2 := Lib.hid hp2
          have HN := Lib.hid hN
          have HT := Lib.hid hT
          have Hd0 := Lib.hid hd0
          have Hb2 := Lib.hid (show Below B w wy.drew from hb.out.drew)
          have hwn : IntKind.i64.wrap (-y) = -y := k64 (by omega) (by omega)
          have c1' : wy.drew.cell? ⟨bY, oy + j, none⟩ = some (.int .i64 y) := c1
          clear hcy c0 hyj hs hp2 hN hT hd0 hp hb
          go_wp2_with fail
          go_region_held3 (fun w' => w'.cell? ⟨bY, oy + j, none⟩ = some (.int .i64 y))
            (first | with_reducible assumption | (trace_state; fail))
            (first
              | (go_at_call 39; refine (raised_any _ i d0 N T _ Hp2.out (by omega) (by omega) (by omega)).mono ?_; rintro e w1 ⟨u1, rfl, hp1, hb1⟩; have Hp1 := Lib.hid hp1; obtain ⟨b1, D1, rfl, _, _⟩ := hp1; have c2 := cell_below hb1 c1'; have Hb1 := Lib.hid hb1)
              | (go_at_call 38; refine (plus_any _ _ (-y) (d0 + 1) N N (rsP i T) T _ Hp1.out ((Hp2.out.below Hb1.out).mono (Nat.le_succ _) (Nat.le_refl _)) (by omega) (by omega)).mono ?_; rintro e w2 ⟨u2, rfl, hp3, hb3⟩; have Hp3 := Lib.hid hp3; obtain ⟨b3, D3, rfl, _, _⟩ := hp3; have c3 := cell_below hb3 c2; have Hb3 := Lib.hid hb3))
          clear hwn
          go_wp2_with fail
          go_roundg (n - 1 - i - (j + 1))
          case measure => omega
          case rel =>
            refine ⟨j + 1, b3, by omega, rfl, by go_num, rfl, Lib.hid ?_, Lib.hid ((Hb2.out.trans (Hb1.out.mono (Nat.le_trans (Nat.le_of_eq HB.out) Hb2.out.size))).trans (Hb3.out.mono (Nat.le_trans (Nat.le_of_eq HB.out) (Nat.le_trans Hb2.out.size Hb1.out.size))))⟩
            have := Hp3.out
            rw [Hd0.out, HN.out, HT.out, Hyj.out] at this
            rw [topJ, ← Nat.add_assoc, Nat.pow_succ, Nat.mul_two]
            exact this
        · have hjni : ¬ (j : Int) < (n : Int) - 1 - (i : Int) := by omega
          obtain rfl : j = n - 1 - i := by omega
          go_wp2_with fail
          go_roundg (n - (i + 1))
          case measure => omega
          case rel => exact ⟨i + 1, b2, by omega, rfl, by go_num, rfl, hp, hb⟩
    · have hini : ¬ (i : Int) < (n : Int) := by omega
      have hie : n = i := by omega
      subst hie
      have h0 := topS_end hn5
      have hpow : 2 ^ topS n n ≤ 1024 := Nat.le_trans (Nat.pow_le_pow_right (by omega) h0) (by decide)
      have hp1 := hp.out.mono h0 hpow
      have Hp1 := Lib.hid hp1
      have Hb1 := Lib.hid hb.out
      have Hok := Lib.hid hok
      have Hw2 : Hid (Ints w (.slice pw n cw) xs) := by rw [Hn.out]; exact Hw
      clear hp hb hp1 hpow h0 hok
      go_wp2_with fail
      refine (lowered_any 10 (topI n ys n) (by omega) (by omega) 10 xs _ _ 1024 _ Hok.out h5 Hp1.out (by decide) (Hw2.out.below (HB.out ▸ Hb1.out))).mono ?_
      rintro e w1 ⟨u1, rfl, hp2, hb2⟩
      have Hp2 := Lib.hid hp2
      have Hb2 := Lib.hid (Hb1.out.trans (hb2.mono (Nat.le_trans (Nat.le_of_eq HB.out) Hb1.out.size)))
      obtain ⟨b1, D1, rfl, _, _⟩ := hp2
      clear hb2
      go_wp2_with fail
      go_ret
      refine ⟨_, rfl, ?_, HB.out ▸ Hb2.out⟩
      rw [dblP, ← Hn.out]
      exact Hp2.out

end Go.Proofs.Ytfpjenmehoemcaa

namespace Go.Proofs.Ytfpjenmehoemcaa
set_option linter.all false
open Go.RowKit

set_option maxRecDepth 100000 in
set_option maxHeartbeats 1000000 in
theorem index_any (v : Value) (xs : List Int) (x : Int) (w : World) (h : Ints w v xs) :
    Calls Try.prog 58 #[v, .int .i64 x] w fun e w' => ∃ r : Int, e = .returned (.int .i64 r) ∧ (0 ≤ r ↔ x ∈ xs) ∧ -1 ≤ r ∧ Qt w w' := by
  obtain ⟨p, cap, rfl, ⟨hx1, hx⟩, hxc⟩ := h
  unfold maxLen at hx
  go_enter Try.func58, Try.ntmps58
  go_wp2
  go_loopg [8] xs.length (fun g i wr => ∃ k : Nat, k ≤ xs.length ∧ g = xs.length - k ∧ i = .int .i64 k ∧ Qt w wr ∧ Hid (x ∉ xs.take k))
  case atStart => exact ⟨0, Nat.zero_le _, rfl, rfl, Qt.refl _, by simp [Hid]⟩
  case round =>
    obtain ⟨k, hk, rfl, rfl, hq, hp⟩ := hrel
    by_cases hlt : k < xs.length
    · obtain ⟨b, off, rfl, hc⟩ := hxc (by omega)
      have c1 := hq.cell (hc k hlt)
      unfold iv at c1
      have hm := getD_mem hlt
      generalize hy : xs.getD k 0 = y at c1 hm
      have Hy := Lib.hid hy
      have Hm := Lib.hid hm
      clear hxc hc hy hm
      by_cases e : x = y
      · subst e
        go_wp2
        go_ret
        exact ⟨k, rfl, ⟨fun _ => Hm.out, fun _ => by omega⟩, by omega, hq⟩
      · have he : (x == y) = false := by simp [e]
        go_wp2
        go_roundg (xs.length - (k + 1))
        case measure => omega
        case rel =>
          refine ⟨k + 1, by omega, rfl, by go_num, hq, ?_⟩
          unfold Hid
          rw [List.take_add_one, List.getElem?_eq_getElem hlt]
          have h2 := Hy.out
          have h3 := hp.out
          simp only [Option.toList, List.mem_append, List.mem_singleton, not_or]
          exact ⟨h3, by rw [List.getD_eq_getElem?_getD, List.getElem?_eq_getElem hlt, Option.getD_some] at h2; rw [h2]; exact e⟩
    · go_wp2
      go_ret
      obtain rfl : k = xs.length := by omega
      have h3 := hp.out
      rw [List.take_length] at h3
      exact ⟨-1, rfl, ⟨fun h => absurd h (by decide), fun h => absurd h h3⟩, by omega, hq⟩

theorem contains_any (v : Value) (xs : List Int) (x : Int) (w : World) (h : Ints w v xs) :
    Calls Try.prog 54 #[v, .int .i64 x] w fun e w' => e = .returned (.bool (decide (x ∈ xs))) ∧ Qt w w' := by
  have Hh := Lib.hid h
  obtain ⟨p, cap, rfl, _⟩ := h
  go_enter Try.func54, Try.ntmps54
  go_wp2_with fail
  refine (index_any _ xs x _ Hh.out).mono ?_
  rintro e w1 ⟨r, rfl, hr, hr1, hq⟩
  have Hr := Lib.hid hr
  clear hr
  go_wp2_with fail
  go_ret
  exact ⟨ret_bool (by rw [decide_eq_decide]; exact Hr.out), hq⟩

end Go.Proofs.Ytfpjenmehoemcaa

namespace Go.Proofs.Ytfpjenmehoemcaa
set_option linter.all false
open Go.RowKit

/-- at the first difference, or a proper beginning first -/
def ltB : List Int → List Int → Bool
  | [], [] => false
  | [], _ :: _ => true
  | _ :: _, [] => false
  | x :: xs, y :: ys => if x < y then true else if y < x then false else ltB xs ys
def cmpB : List Int → List Int → Int
  | [], [] => 0
  | [], _ :: _ => -1
  | _ :: _, [] => 1
  | x :: xs, y :: ys => if x < y then -1 else if y < x then 1 else cmpB xs ys
theorem cmpB_lt : ∀ xs ys, decide (0 ≤ cmpB xs ys) = !ltB xs ys
  | [], [] => rfl
  | [], _ :: _ => rfl
  | _ :: _, [] => rfl
  | x :: xs, y :: ys => by
    unfold cmpB ltB
    by_cases h1 : x < y
    · simp [h1]
    · by_cases h2 : y < x
      · simp [h1, h2]
      · simp only [h1, h2, if_false]; exact cmpB_lt xs ys
theorem cmpB_cases : ∀ xs ys, cmpB xs ys = -1 ∨ cmpB xs ys = 0 ∨ cmpB xs ys = 1
  | [], [] => by simp [cmpB]
  | [], _ :: _ => by simp [cmpB]
  | _ :: _, [] => by simp [cmpB]
  | x :: xs, y :: ys => by
    unfold cmpB
    by_cases h1 : x < y
    · simp [h1]
    · by_cases h2 : y < x
      · simp [h1, h2]
      · simp only [h1, h2, if_false]; exact cmpB_cases xs ys
theorem drop_at {xs : List Int} {k : Nat} (h : k < xs.length) : xs.drop k = xs.getD k 0 :: xs.drop (k + 1) := by
  rw [List.drop_eq_getElem_cons h, List.getD_eq_getElem?_getD, List.getElem?_eq_getElem h]; rfl
theorem drop_end {xs : List Int} {k : Nat} (h : xs.length ≤ k) : xs.drop k = [] := List.drop_eq_nil_iff.2 h

/-- how many places are left when those at the end are struck that are not moved -/
def trimN (xs : List Int) : Nat → Nat
  | 0 => 0
  | n + 1 => if 1 ≤ n ∧ xs.getD n 0 = (n : Int) then trimN xs n else n + 1
theorem trimN_le (xs : List Int) : ∀ n, trimN xs n ≤ n
  | 0 => Nat.le_refl _
  | n + 1 => by
    unfold trimN
    split
    · exact Nat.le_trans (trimN_le xs n) (Nat.le_succ _)
    · exact Nat.le_refl _
def trimL (xs : List Int) : List Int := xs.take (trimN xs xs.length)
theorem trimL_length (xs : List Int) : (trimL xs).length = trimN xs xs.length := by
  unfold trimL; rw [List.length_take]; have := trimN_le xs xs.length; omega

/-- the first numbers of a list, as a slice -/
theorem ints_take2 {w : World} {p : Option Addr} {cap : Nat} {xs : List Int} (h : Ints w (.slice p xs.length cap) xs) {i : Nat} (hi : i ≤ xs.length) : Ints w (.slice p i cap) (xs.take i) := by
  obtain ⟨q, c, e, ⟨h1, h2⟩, h3⟩ := h
  injection e with e1 e2 e3
  subst e1 e3
  have hl : (xs.take i).length = i := by rw [List.length_take]; omega
  refine ⟨p, cap, by rw [hl], ⟨by omega, h2⟩, fun h0 => ?_⟩
  obtain ⟨b, off, hp, hx⟩ := h3 (by omega)
  refine ⟨b, off, hp, fun j hj => ?_⟩
  rw [hx j (by omega)]
  unfold iv
  rw [List.getD_eq_getElem?_getD, List.getD_eq_getElem?_getD, List.getElem?_take_of_lt (by omega)]

end Go.Proofs.Ytfpjenmehoemcaa

namespace Go.Proofs.Ytfpjenmehoemcaa
set_option linter.all false
open Go.RowKit

set_option maxRecDepth 100000 in
set_option maxHeartbeats 2000000 in
theorem shiftsOk_any (N : Int) (v : Value) (y : List Int) (w : World) (h : Ints w v y) :
    Calls Try.prog 21 #[v, .int .i64 N] w fun e w' => e = .returned (.bool (shiftB N y)) ∧ w = w' := by
  obtain ⟨p, cap, rfl, ⟨hx1, hx⟩, hxc⟩ := h
  unfold maxLen at hx
  go_enter Try.func21, Try.ntmps21
  go_wp2_with fail
  go_loopg [6, 9] y.length (fun g s6 s9 wr => ∃ k : Nat, k ≤ y.length ∧ g = y.length - k ∧ s9 = .int .i64 k ∧ w = wr ∧ Hid (∀ j, j < k → -9 ≤ y.getD j 0 ∧ y.getD j 0 ≤ 9))
  case atStart => exact ⟨0, Nat.zero_le _, rfl, rfl, rfl, Lib.hid fun j hj => absurd hj (Nat.not_lt_zero _)⟩
  case round =>
    obtain ⟨k, hk, rfl, rfl, rfl, hp⟩ := hrel
    by_cases hlt : k < y.length
    · obtain ⟨b, off, rfl, hc⟩ := hxc (by omega)
      obtain ⟨x, hx'⟩ : ∃ x, x = y.getD k 0 := ⟨_, rfl⟩
      have c1 := hc k hlt
      unfold iv at c1
      rw [← hx'] at c1
      have Hx := Lib.hid hx'
      have hk1 : (k : Int) < (y.length : Int) := by omega
      clear hx' hc hxc
      have bad : ¬ (-9 ≤ x ∧ x ≤ 9) → shiftB N y = false := fun hr => by
        unfold shiftB
        rw [decide_eq_false (show ¬ ∀ x ∈ y, -9 ≤ x ∧ x ≤ 9 from fun e => hr (by rw [Hx.out]; exact e _ (getD_mem hlt))), Bool.and_false]
      have Bad := Lib.hid bad
      clear bad
      by_cases h1 : x < -9
      · go_wp2_with fail
        go_ret
        exact ⟨ret_bool (Bad.out (by omega)).symm, rfl⟩
      by_cases h2 : 9 < x
      · go_wp2_with fail
        go_ret
        exact ⟨ret_bool (Bad.out (by omega)).symm, rfl⟩
      go_wp2_with fail
      go_roundg (y.length - (k + 1))
      case measure => omega
      case rel =>
        refine ⟨k + 1, by omega, rfl, by go_num, rfl, Lib.hid fun j hj => ?_⟩
        by_cases e : j = k
        · subst e; rw [← Hx.out]; omega
        · exact hp.out j (by omega)
    · have hk1 : ¬ (k : Int) < (y.length : Int) := by omega
      have ha : decide (∀ x ∈ y, -9 ≤ x ∧ x ≤ 9) = true := decide_eq_true (all_of_getD fun j hj => hp.out j (by omega))
      have Ha := Lib.hid ha
      clear ha
      by_cases hN : (y.length : Int) = N
      · go_wp2_with fail
        go_ret
        exact ⟨ret_bool (by unfold shiftB; rw [Ha.out, decide_eq_true hN]; rfl), rfl⟩
      · go_wp2_with fail
        go_ret
        exact ⟨ret_bool (by unfold shiftB; simp [hN]), rfl⟩

theorem nm_shift {N : Int} {y : List Int} (h1 : 1 ≤ N) (h2 : N ≤ 5) : nmOk N y = shiftB N y := by
  unfold nmOk shiftB
  rw [decide_eq_true h1, decide_eq_true h2]; simp

end Go.Proofs.Ytfpjenmehoemcaa

namespace Go.Proofs.Ytfpjenmehoemcaa
set_option linter.all false
open Go.RowKit

def locOk (vs ws ys : List Int) : Bool := permOk vs && permOk ws && decide (vs.length = ws.length) && nmOk vs.length ys
/-- what Localize says -/
def locL (vs ws ys : List Int) : Int × Bool := if locOk vs ws ys then (wrap64 (Ev (dblP vs ys) (mono (pickL ws ys))), true) else (0, false)
def RetIB (w : World) (r : Int × Bool) (e : Ending) (w' : World) : Prop := e = .returned (.tuple #[.int .i64 r.1, .bool r.2]) ∧ Below w.heap.size w w'
theorem locL_no {vs ws ys : List Int} (h : locOk vs ws ys = false) : locL vs ws ys = (0, false) := by unfold locL; rw [h]; rfl
theorem locL_yes {vs ws ys : List Int} (h : locOk vs ws ys = true) : locL vs ws ys = (wrap64 (Ev (dblP vs ys) (mono (pickL ws ys))), true) := by unfold locL; rw [h]; rfl
structure LocIs (n : Nat) (vs ws ys : List Int) : Prop where
  v : P5 n vs
  w : P5 n ws
  y : ys.length = n
  one : 1 ≤ n
  y9 : ∀ x ∈ ys, -9 ≤ x ∧ x ≤ 9
theorem locIs_of {vs ws ys : List Int} (h1 : permOk vs = true) (h2 : permOk ws = true) (h3 : vs.length = ws.length) (h4 : nmOk vs.length ys = true) : LocIs vs.length vs ws ys := by
  obtain ⟨n, e, hn1, hn5, hyl, hy9⟩ := nm_facts h4
  have e := Int.ofNat.inj e
  rw [← e] at hn1 hn5 hyl
  exact ⟨⟨h1, rfl, hn5⟩, ⟨h2, h3.symm, hn5⟩, hyl, hn1, all_of_getD fun k hk => hy9 k (by omega)⟩
theorem ret_ib {a : Int} {b : Bool} {r : Int × Bool} (h : (a, b) = r) : Ending.returned (.tuple #[.int .i64 a, .bool b]) = .returned (.tuple #[.int .i64 r.1, .bool r.2]) := by rw [← h]

set_option maxRecDepth 100000 in
set_option maxHeartbeats 4000000 in
theorem specLocalize_any (pv pw py : Value) (vs ws ys : List Int) (w : World) (hv : Ints w pv vs) (hw : Ints w pw ws) (hy : Ints w py ys) :
    Calls Try.prog 6 #[pv, pw, py] w (RetIB w (locL vs ws ys)) := by
  have HV := Lib.hid hv
  have HW := Lib.hid hw
  have HY := Lib.hid hy
  obtain ⟨av, cv, rfl, ⟨hv1, hv2⟩, _⟩ := hv
  obtain ⟨aw, cw, rfl, ⟨hw1, hw2⟩, _⟩ := hw
  obtain ⟨ay, cy, rfl, ⟨hy1, hy2⟩, _⟩ := hy
  unfold maxLen at hv2 hw2 hy2
  have no : ∀ w', locOk vs ws ys = false → Below w.heap.size w w' → RetIB w (locL vs ws ys) (.returned (.tuple #[.int .i64 0, .bool false])) w' := fun w' h hb => ⟨ret_ib (locL_no h).symm, hb⟩
  have No := Lib.hid no
  clear no
  go_enter Try.func6, Try.ntmps6
  cases h1 : permOk vs with
  | false =>
    have H1 := Lib.hid h1
    clear h1
    go_wp2_with fail
    refine (specIsPerm_b _ vs false H1.out _ HV.out).mono ?_
    rintro e w1 ⟨rfl, hq⟩
    have hb := hq.below w.heap.size
    go_wp2_with fail
    go_ret2
    exact No.out _ (by unfold locOk; rw [H1.out]; rfl) hb
  | true =>
  cases h2 : permOk ws with
  | false =>
    have H1 := Lib.hid h1
    have H2 := Lib.hid h2
    clear h1 h2
    go_wp2_with fail
    refine (specIsPerm_b _ vs true H1.out _ HV.out).mono ?_
    rintro e w1 ⟨rfl, hq⟩
    have HW1 := Lib.hid (HW.out.qt hq)
    go_wp2_with fail
    refine (specIsPerm_b _ ws false H2.out _ HW1.out).mono ?_
    rintro e w2 ⟨rfl, hq2⟩
    have hb := (hq.trans hq2).below w.heap.size
    go_wp2_with fail
    go_ret2
    exact No.out _ (by unfold locOk; rw [H2.out]; simp) hb
  | true =>
  have H1 := Lib.hid h1
  have H2 := Lib.hid h2
  clear h1 h2
  by_cases h3 : vs.length = ws.length
  · have H3 := Lib.hid h3
    rw [← h3] at hw1 HW ⊢
    cases h4 : nmOk vs.length ys with
    | false =>
      have H4 := Lib.hid h4
      clear h3 h4
      go_wp2_with fail
      refine (specIsPerm_b _ vs true H1.out _ HV.out).mono ?_
      rintro e w1 ⟨rfl, hq⟩
      have HW1 := Lib.hid (HW.out.qt hq)
      go_wp2_with fail
      refine (specIsPerm_b _ ws true H2.out _ HW1.out).mono ?_
      rintro e w2 ⟨rfl, hq2⟩
      have HQ := Lib.hid (hq.trans hq2)
      clear hq hq2
      go_wp2_with fail
      refine (l8Numbers_any _ _ ys _ (HY.out.qt HQ.out)).mono ?_
      rintro e w3 ⟨rfl, rfl⟩
      rw [H4.out]
      have hb := HQ.out.below w.heap.size
      go_wp2_with fail
      go_ret2
      exact No.out _ (by unfold locOk; rw [H4.out]; simp) hb
    | true =>
      have H4 := Lib.hid h4
      have HL := Lib.hid (locIs_of H1.out H2.out H3.out H4.out)
      obtain ⟨n, hn⟩ : ∃ n, n = vs.length := ⟨_, rfl⟩
      have Hn := Lib.hid hn
      rw [← hn] at hv1 hw1 HV HW HL H4 ⊢
      clear h3 h4 hn
      go_wp2_with fail
      refine (specIsPerm_b _ vs true H1.out _ HV.out).mono ?_
      rintro e w1 ⟨rfl, hq⟩
      have HW1 := Lib.hid (HW.out.qt hq)
      go_wp2_with fail
      refine (specIsPerm_b _ ws true H2.out _ HW1.out).mono ?_
      rintro e w2 ⟨rfl, hq2⟩
      have HQ := Lib.hid (hq.trans hq2)
      clear hq hq2
      go_wp2_with fail
      refine (l8Numbers_any _ _ ys _ (HY.out.qt HQ.out)).mono ?_
      rintro e w3 ⟨rfl, rfl⟩
      rw [H4.out]
      have HQ3 := HQ
      go_wp2_with fail
      refine (l8Local_any n vs ws ys _ _ _ _ HL.out.w HL.out.one HL.out.v.len HL.out.y HL.out.y9 (HV.out.qt HQ3.out) (HW.out.qt HQ3.out) (HY.out.qt HQ3.out)).mono ?_
      rintro e w4 ⟨rfl, hb4⟩
      have Hb4 := Lib.hid ((HQ3.out.below w.heap.size).trans (hb4.mono (Nat.le_of_eq HQ3.out.size.symm)))
      obtain ⟨R, hR⟩ : ∃ R, R = wrap64 (sumS vs ys (fstL ws) (idL n) (idL n)) := ⟨_, rfl⟩
      have HR := Lib.hid hR
      rw [← hR]
      clear hb4 hR
      go_wp2_with fail
      go_ret2
      refine ⟨ret_ib ?_, Hb4.out⟩
      rw [locL_yes (by unfold locOk; rw [H1.out, H2.out, decide_eq_true H3.out, ← Hn.out, H4.out]; rfl), loc_law HL.out.v HL.out.w HL.out.y HL.out.one, HR.out]
  · have H3 := Lib.hid h3
    have h3i : ¬ (vs.length : Int) = (ws.length : Int) := by omega
    clear h3
    go_wp2_with fail
    refine (specIsPerm_b _ vs true H1.out _ HV.out).mono ?_
    rintro e w1 ⟨rfl, hq⟩
    have HW1 := Lib.hid (HW.out.qt hq)
    go_wp2_with fail
    refine (specIsPerm_b _ ws true H2.out _ HW1.out).mono ?_
    rintro e w2 ⟨rfl, hq2⟩
    have hb := (hq.trans hq2).below w.heap.size
    go_wp2_with fail
    go_ret2
    exact No.out _ (by unfold locOk; rw [decide_eq_false H3.out]; simp) hb

theorem nm_no {n : Nat} {ys : List Int} (h : ¬ n ≤ 5) : nmOk n ys = false := by unfold nmOk; rw [decide_eq_false (show ¬ (n : Int) ≤ 5 by omega)]; simp

set_option maxRecDepth 100000 in
set_option maxHeartbeats 4000000 in
theorem implLocalize_any (pv pw py : Value) (vs ws ys : List Int) (w : World) (hv : Ints w pv vs) (hw : Ints w pw ws) (hy : Ints w py ys) :
    Calls Try.prog 8 #[pv, pw, py] w (RetIB w (locL vs ws ys)) := by
  have HV := Lib.hid hv
  have HW := Lib.hid hw
  have HY := Lib.hid hy
  obtain ⟨av, cv, rfl, ⟨hv1, hv2⟩, _⟩ := hv
  obtain ⟨aw, cw, rfl, ⟨hw1, hw2⟩, _⟩ := hw
  obtain ⟨ay, cy, rfl, ⟨hy1, hy2⟩, _⟩ := hy
  unfold maxLen at hv2 hw2 hy2
  have no : ∀ w', locOk vs ws ys = false → Below w.heap.size w w' → RetIB w (locL vs ws ys) (.returned (.tuple #[.int .i64 0, .bool false])) w' := fun w' h hb => ⟨ret_ib (locL_no h).symm, hb⟩
  have No := Lib.hid no
  clear no
  go_enter Try.func8, Try.ntmps8
  cases h1 : permOk vs with
  | false =>
    have H1 := Lib.hid h1
    clear h1
    go_wp2_with fail
    refine (implIsPerm_b _ vs false H1.out _ HV.out).mono ?_
    rintro e w1 ⟨rfl, hb⟩
    go_wp2_with fail
    go_ret2
    exact No.out _ (by unfold locOk; rw [H1.out]; rfl) hb
  | true =>
  cases h2 : permOk ws with
  | false =>
    have H1 := Lib.hid h1
    have H2 := Lib.hid h2
    clear h1 h2
    go_wp2_with fail
    refine (implIsPerm_b _ vs true H1.out _ HV.out).mono ?_
    rintro e w1 ⟨rfl, hb⟩
    have HW1 := Lib.hid (HW.out.below hb)
    go_wp2_with fail
    refine (implIsPerm_b _ ws false H2.out _ HW1.out).mono ?_
    rintro e w2 ⟨rfl, hb2⟩
    have hb3 := below_trans hb hb2
    go_wp2_with fail
    go_ret2
    exact No.out _ (by unfold locOk; rw [H2.out]; simp) hb3
  | true =>
  have H1 := Lib.hid h1
  have H2 := Lib.hid h2
  clear h1 h2
  by_cases h3 : vs.length = ws.length
  · have H3 := Lib.hid h3
    rw [← h3] at hw1 HW ⊢
    clear h3
    by_cases h5 : vs.length ≤ 5
    · have h5i : ¬ (5 : Int) < (vs.length : Int) := by omega
      have hone : 1 ≤ vs.length := by have := H1.out; simp only [permOk, decide_eq_true_eq] at this; exact this.1
      have hns := Lib.hid (nm_shift (N := (vs.length : Int)) (y := ys) (by omega) (by omega))
      cases h4 : shiftB vs.length ys with
      | false =>
        have H4 := Lib.hid h4
        clear h4
        go_wp2_with fail
        refine (implIsPerm_b _ vs true H1.out _ HV.out).mono ?_
        rintro e w1 ⟨rfl, hb⟩
        have HW1 := Lib.hid (HW.out.below hb)
        go_wp2_with fail
        refine (implIsPerm_b _ ws true H2.out _ HW1.out).mono ?_
        rintro e w2 ⟨rfl, hb2⟩
        have HB := Lib.hid (below_trans hb hb2)
        clear hb hb2
        go_wp2_with fail
        refine (shiftsOk_any _ _ ys _ (HY.out.below HB.out)).mono ?_
        rintro e w3 ⟨rfl, rfl⟩
        rw [H4.out]
        go_wp2_with fail
        go_ret2
        exact No.out _ (by unfold locOk; rw [hns.out, H4.out]; simp) HB.out
      | true =>
        have H4 := Lib.hid h4
        have H5 := Lib.hid (show nmOk vs.length ys = true by rw [hns.out]; exact h4)
        have HL := Lib.hid (locIs_of H1.out H2.out H3.out H5.out)
        obtain ⟨n, hn⟩ : ∃ n, n = vs.length := ⟨_, rfl⟩
        have Hn := Lib.hid hn
        rw [← hn] at hv1 hw1 HV HW HL H4 H5 h5 h5i hone ⊢
        clear h4 hn hns
        go_wp2_with fail
        refine (implIsPerm_b _ vs true H1.out _ HV.out).mono ?_
        rintro e w1 ⟨rfl, hb⟩
        have HW1 := Lib.hid (HW.out.below hb)
        go_wp2_with fail
        refine (implIsPerm_b _ ws true H2.out _ HW1.out).mono ?_
        rintro e w2 ⟨rfl, hb2⟩
        have HB := Lib.hid (below_trans hb hb2)
        clear hb hb2
        go_wp2_with fail
        refine (shiftsOk_any _ _ ys _ (HY.out.below HB.out)).mono ?_
        rintro e w3 ⟨rfl, rfl⟩
        rw [H4.out]
        go_wp2_with fail
        refine (double_any _ _ vs ys _ (HV.out.below HB.out) (HY.out.below HB.out) (by rw [HL.out.v.len]; exact hone) (by rw [HL.out.v.len]; exact h5) (by rw [HL.out.v.len]; exact HL.out.y) HL.out.y9 HL.out.v.low).mono ?_
        rintro e w4 ⟨u4, rfl, hp4, hb4⟩
        have HP := Lib.hid hp4
        obtain ⟨b4, D4, rfl, _, _⟩ := hp4
        have HB4 := Lib.hid (HB.out.trans (hb4.mono HB.out.size))
        clear hb4
        go_wp2_with fail
        refine (valueAt_any _ _ _ 10 _ (dblP vs ys) ws ys _ HP.out (by omega) (HW.out.below HB4.out) (HY.out.below HB4.out) (by rw [HL.out.w.len]; omega) (fun i hi => by rw [HL.out.w.len] at hi; rw [HL.out.y]; exact HL.out.w.rng hi)).mono ?_
        rintro e w5 ⟨rfl, hb5⟩
        have HB5 := Lib.hid (HB4.out.trans (hb5.mono HB4.out.size))
        obtain ⟨R, hR⟩ : ∃ R, R = wrap64 (Ev (dblP vs ys) (mono (pickL ws ys))) := ⟨_, rfl⟩
        have HR := Lib.hid hR
        rw [← hR]
        clear hb5 hR
        go_wp2_with fail
        go_ret2
        refine ⟨ret_ib ?_, HB5.out⟩
        rw [locL_yes (by unfold locOk; rw [H1.out, H2.out, decide_eq_true H3.out, ← Hn.out, H5.out]; rfl), HR.out]
    · have h5i : (5 : Int) < (vs.length : Int) := by omega
      have H5 := Lib.hid (nm_no (ys := ys) h5)
      go_wp2_with fail
      refine (implIsPerm_b _ vs true H1.out _ HV.out).mono ?_
      rintro e w1 ⟨rfl, hb⟩
      have HW1 := Lib.hid (HW.out.below hb)
      go_wp2_with fail
      refine (implIsPerm_b _ ws true H2.out _ HW1.out).mono ?_
      rintro e w2 ⟨rfl, hb2⟩
      have hb3 := below_trans hb hb2
      go_wp2_with fail
      go_ret2
      exact No.out _ (by unfold locOk; rw [H5.out]; simp) hb3
  · have H3 := Lib.hid h3
    have h3i : ¬ (vs.length : Int) = (ws.length : Int) := by omega
    clear h3
    go_wp2_with fail
    refine (implIsPerm_b _ vs true H1.out _ HV.out).mono ?_
    rintro e w1 ⟨rfl, hb⟩
    have HW1 := Lib.hid (HW.out.below hb)
    go_wp2_with fail
    refine (implIsPerm_b _ ws true H2.out _ HW1.out).mono ?_
    rintro e w2 ⟨rfl, hb2⟩
    have hb3 := below_trans hb hb2
    go_wp2_with fail
    go_ret2
    exact No.out _ (by unfold locOk; rw [decide_eq_false H3.out]; simp) hb3

end Go.Proofs.Ytfpjenmehoemcaa

namespace Go.Proofs.Ytfpjenmehoemcaa
set_option linter.all false
open Go.RowKit

theorem blk5 {w : World} {b : Nat} {x0 x1 x2 x3 x4 : Value} {T : TypeId} (h : w.heap[b]? = some (.cells #[x0, x1, x2, x3, x4] T (0, 0))) :
    w.cell? ⟨b, 0, none⟩ = some x0 ∧ w.cell? ⟨b, 1, none⟩ = some x1 ∧ w.cell? ⟨b, 2, none⟩ = some x2 ∧ w.cell? ⟨b, 3, none⟩ = some x3 ∧ w.cell? ⟨b, 4, none⟩ = some x4 ∧ (∀ j, w.frozen? ⟨b, j, none⟩ = false) ∧ b < w.heap.size :=
  ⟨cell_of_blk h rfl, cell_of_blk h rfl, cell_of_blk h rfl, cell_of_blk h rfl, cell_of_blk h rfl, free_of_blk h, blk_lt h⟩
theorem ints_nil (w : World) (p : Option Addr) : Ints w (.slice p 0 0) [] := ⟨p, 0, rfl, ⟨Nat.le_refl _, Nat.zero_le _⟩, fun h => absurd h (by simp)⟩
theorem own_nil (T : TypeId) (w : World) (lo hi : Nat) : OwnI T w lo hi (.slice none 0 0) [] := ⟨World.ownsRow_nil _ _ _ _, fun k hk => by simp [Value.ownBlock] at hk⟩

end Go.Proofs.Ytfpjenmehoemcaa
