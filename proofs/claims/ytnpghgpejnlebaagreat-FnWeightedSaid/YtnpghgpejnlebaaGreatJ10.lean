/-
  Values of permutations' polynomials at numbers that a permutation picks: the recursion, where they vanish, and the products over inversions. Plain.
  l1Rank, RankAt: how many of the first r numbers of a permutation are less than c.
  The order of permutations by their ranks. Plain.
  The values of a permutation, times the number at a place: the rule of Chevalley. Plain.
  Values as sums of values of permutations: products have such sums, there is but one, and its numbers are not great. Plain.
-/
import Derived.Test.YtnpghgpejnlebaaGreatJ9
import Derived.Test.YtnpghgpejnlebaaGreatJ1
import Derived.Test.YtnpghgpejnlebaaGreatJ2
namespace Go.Proofs.YtnpghgpejnlebaaGreat
set_option linter.all false
set_option maxRecDepth 100000
open Go.RowKit

/-! ### at all numbers -/
theorem abs_le_sum {l : List Int} {i : Nat} : (l.getD i 0).natAbs ≤ (l.map Int.natAbs).sum := by
  induction l generalizing i with
  | nil => simp
  | cons x l ih =>
    cases i with
    | zero => simp
    | succ i =>
      have := ih (i := i)
      simp only [List.getD_cons_succ, List.map_cons, List.sum_cons]
      omega
/-- numbers moved apart by multiples of N -/
def mvd (N : Int) (m : Nat) (l : List Int) : List Int := (List.range m).map fun (i : Nat) => l.getD i 0 + N * (i : Int)
theorem mvd_length (N : Int) (m : Nat) (l : List Int) : (mvd N m l).length = m := by simp [mvd]
theorem mvd_getD {N : Int} {m : Nat} {l : List Int} {i : Nat} (h : i < m) : (mvd N m l).getD i 0 = l.getD i 0 + N * (i : Int) := by simp [mvd, List.getD_eq_getElem?_getD, h]
theorem mvd_mg {N : Int} {m : Nat} {l : List Int} (hl : l.length = m) (i : Nat) : Mg N (l.getD i 0) ((mvd N m l).getD i 0) := by
  by_cases h : i < m
  · rw [mvd_getD h]; exact ⟨-(i : Int), by rw [Int.mul_neg]; omega⟩
  · have a : l.getD i 0 = 0 := by rw [List.getD_eq_getElem?_getD, List.getElem?_eq_none (by omega)]; rfl
    have b : (mvd N m l).getD i 0 = 0 := by rw [List.getD_eq_getElem?_getD, List.getElem?_eq_none (by rw [mvd_length]; omega)]; rfl
    rw [a, b]; exact Mg.refl _ _
theorem mvd_ne {N : Int} {m : Nat} {l : List Int} (hN : 2 * ((l.map Int.natAbs).sum : Int) < N) {i j : Nat} (hij : i < j) (hj : j < m) : (mvd N m l).getD i 0 ≠ (mvd N m l).getD j 0 := by
  rw [mvd_getD (by omega), mvd_getD hj]
  intro e
  have a := abs_le_sum (l := l) (i := i)
  have b := abs_le_sum (l := l) (i := j)
  have c := Int.mul_le_mul_of_nonneg_left (show (1 : Int) ≤ (j : Int) - (i : Int) by omega) (show 0 ≤ N by omega)
  rw [Int.mul_one, Int.mul_sub] at c
  omega
theorem EV_mg {N : Int} {T : Pl} {v x x' : List Int} (h : ∀ i, Mg N (x.getD i 0) (x'.getD i 0)) : Mg N (EV T v x) (EV T v x') := Ev_mg (mono_mg h) _
theorem sw_mg {N : Int} {x x' : List Int} {k : Nat} (hk : k + 1 < x.length) (hk' : k + 1 < x'.length) (h : ∀ i, Mg N (x.getD i 0) (x'.getD i 0)) (i : Nat) : Mg N ((sw k x).getD i 0) ((sw k x').getD i 0) := by
  rw [sw_getD hk, sw_getD hk']
  split
  · exact h k
  · split
    · exact h (k + 1)
    · exact h i
theorem way_all {T : Pl} (hT : Pos7 T) {n : Nat} {v : List Int} (hv : P5 n v) {k : Nat} (hk : k + 1 < n) (ha : ascB k v = true) {x : List Int} (hx : x.length = 7) : WayAt T n v k x := by
  have h5 := hv.le
  unfold WayAt
  have key : (x.getD k 0 - x.getD (k + 1) 0) * EV T v x - (EV T (sw k v) x - EV T (sw k v) (sw k x)) = 0 := by
    refine Mg.zero (2 * ((x.map Int.natAbs).sum : Int)) fun N hN hN0 => ?_
    have hm := mvd_mg (N := N) hx
    have hl := mvd_length N 7 x
    have hd : Dst n (mvd N 7 x) := ⟨hl, fun i j hij hj => mvd_ne hN hij (by omega)⟩
    have hw := way_dst hT (upN v) v hv rfl k hk ha _ hd
    unfold WayAt at hw
    have e : (mvd N 7 x).getD k 0 - (mvd N 7 x).getD (k + 1) 0 = (mvd N 7 x).getD k 0 - (mvd N 7 x).getD (k + 1) 0 := rfl
    have := (((hm k).sub (hm (k + 1))).mul (EV_mg (T := T) (v := v) hm)).sub ((EV_mg (T := T) (v := sw k v) hm).sub (EV_mg (T := T) (v := sw k v) (sw_mg (x := x) (x' := mvd N 7 x) (k := k) (by omega) (by omega) hm)))
    rw [hw, Int.sub_self] at this
    exact this
  omega
/-! ### at the numbers that a permutation picks -/
theorem pickL_length (w ys : List Int) : (pickL w ys).length = 7 := by simp [pickL]
theorem pickL_at {w ys : List Int} {i : Nat} (h : i < w.length) (h7 : w.length ≤ 7) : (pickL w ys).getD i 0 = ys.getD (w.getD i 0).toNat 0 := by
  rw [pickL_getD _ _ (by omega)]; unfold pick; rw [if_pos h]
theorem pickL_sw {w ys : List Int} {k : Nat} (hk : k + 1 < w.length) (h7 : w.length ≤ 7) : pickL (sw k w) ys = sw k (pickL w ys) := by
  refine getD_eq_list (by rw [sw_length, pickL_length, pickL_length]) fun t ht => ?_
  rw [pickL_length] at ht
  have hk7 : k + 1 < (pickL w ys).length := by rw [pickL_length]; omega
  rw [sw_getD hk7, pickL_at (by omega) h7, pickL_at hk h7, pickL_getD _ _ ht, pickL_getD _ _ ht]
  unfold pick
  rw [sw_length, sw_getD hk]
  by_cases h1 : t = k + 1
  · rw [if_pos h1, if_pos h1, if_pos (by omega)]
  · by_cases h2 : t = k
    · rw [if_neg h1, if_pos h2, if_neg h1, if_pos h2, if_pos (by omega)]
    · rw [if_neg h1, if_neg h2, if_neg h1, if_neg h2]
theorem pickL_mg {N : Int} {w ys ys' : List Int} (h : ∀ i, Mg N (ys.getD i 0) (ys'.getD i 0)) (i : Nat) : Mg N ((pickL w ys).getD i 0) ((pickL w ys').getD i 0) := by
  by_cases h7 : i < 7
  · rw [pickL_getD _ _ h7, pickL_getD _ _ h7]
    unfold pick
    split
    · exact h _
    · exact Mg.refl _ _
  · have a : ∀ y, (pickL w y).getD i 0 = 0 := fun y => by rw [List.getD_eq_getElem?_getD, List.getElem?_eq_none (by rw [pickL_length]; omega)]; rfl
    rw [a, a]; exact Mg.refl _ _
/-- the value of v at w -/
def FW (n : Nat) (ys v w : List Int) : Int := EV (topI n ys n) v (pickL w ys)
theorem FW_mg {N : Int} {n : Nat} {ys ys' v w : List Int} (h : ∀ i, Mg N (ys.getD i 0) (ys'.getD i 0)) : Mg N (FW n ys v w) (FW n ys' v w) :=
  ((PMg.low (PMg.top h n n) 10 v) _).trans (Ev_mg (mono_mg (pickL_mg h)) _)
def df (ys w : List Int) (k : Nat) : Int := ys.getD (w.getD (k + 1) 0).toNat 0 - ys.getD (w.getD k 0).toNat 0
theorem FW_rec {n : Nat} {ys v w : List Int} (hv : P5 n v) (hw : P5 n w) {k : Nat} (hk : k + 1 < n) :
    FW n ys v (sw k w) = FW n ys v w + (if ascB k v then 0 else df ys w k * FW n ys (sw k v) w) := by
  have hT := Pos7.top n ys n
  have h5 := hv.le
  have hl := hw.len
  unfold FW
  rw [pickL_sw (by omega) (by omega)]
  have hx7 := pickL_length w ys
  cases ha : ascB k v with
  | true =>
    have a := way_all hT hv hk ha hx7
    have b := way_all hT hv hk ha (x := sw k (pickL w ys)) (by rw [sw_length, hx7])
    rw [a.sym (by omega) b]; simp
  | false =>
    have hd := hv.desc hk ha
    have a := way_all hT (hv.sw hk) hk hd.2 hx7
    unfold WayAt at a
    rw [sw_sw (by have := hv.len; omega), pickL_at (by omega) (by omega), pickL_at (by omega) (by omega)] at a
    unfold df
    rw [if_neg (by decide)]
    obtain ⟨A, hA⟩ : ∃ A, A = ys.getD (w.getD k 0).toNat 0 := ⟨_, rfl⟩
    obtain ⟨B, hB⟩ : ∃ B, B = ys.getD (w.getD (k + 1) 0).toNat 0 := ⟨_, rfl⟩
    rw [← hA, ← hB] at a ⊢
    rw [show B - A = -(A - B) by omega, Int.neg_mul, a]
    omega
theorem FW_way {n : Nat} {ys v w : List Int} (hv : P5 n v) (hw : P5 n w) {k : Nat} (hk : k + 1 < n) (ha : ascB k v = true) :
    df ys w k * FW n ys v w = FW n ys (sw k v) (sw k w) - FW n ys (sw k v) w := by
  have hvs := hv.sw hk
  have := FW_rec (ys := ys) hvs hw hk
  rw [(hv.asc hk ha).2, sw_sw (by have := hv.len; omega)] at this
  simp at this
  omega

/-! ### products -/
def prodP (ys : List Int) : List (Int × Int) → Int
  | [] => 1
  | p :: l => (ys.getD p.1.toNat 0 - ys.getD p.2.toNat 0) * prodP ys l
theorem prodP_append (ys : List Int) (a b : List (Int × Int)) : prodP ys (a ++ b) = prodP ys a * prodP ys b := by
  induction a with
  | nil => simp [prodP]
  | cons p l ih => rw [List.cons_append, prodP, prodP, ih, Int.mul_assoc]
theorem prodP_perm (ys : List Int) {a b : List (Int × Int)} (h : a.Perm b) : prodP ys a = prodP ys b := by
  induction h with
  | nil => rfl
  | cons x _ ih => rw [prodP, prodP, ih]
  | swap x y l => simp only [prodP]; rw [Int.mul_left_comm]
  | trans _ _ a b => exact a.trans b
theorem prodP_zero (ys : List Int) {l : List (Int × Int)} (h : ∃ p ∈ l, p.1 = p.2) : prodP ys l = 0 := by
  obtain ⟨p, hp, e⟩ := h
  induction l with
  | nil => cases hp
  | cons q l ih =>
    rw [prodP]
    rcases List.mem_cons.1 hp with rfl | hp
    · rw [e, Int.sub_self, Int.zero_mul]
    · rw [ih hp, Int.mul_zero]
theorem prodP_mg {N : Int} {ys ys' : List Int} (h : ∀ i, Mg N (ys.getD i 0) (ys'.getD i 0)) : ∀ l, Mg N (prodP ys l) (prodP ys' l)
  | [] => Mg.refl _ _
  | p :: l => ((h _).sub (h _)).mul (prodP_mg h l)
theorem mono_rs {x e : List Int} {i : Nat} (hi : i < 7) (he : e.length = 7) (hp : ∀ a ∈ e, (0 : Int) ≤ a) (hx : x.length = 7) : mono x (rsE i e) = x.getD i 0 * mono x e := by
  obtain ⟨a0, a1, a2, a3, a4, a5, a6, rfl⟩ := list7 he
  obtain ⟨x0, x1, x2, x3, x4, x5, x6, rfl⟩ := list7 hx
  have h0 := hp a0 (by simp)
  have h1 := hp a1 (by simp)
  have h2 := hp a2 (by simp)
  have h3 := hp a3 (by simp)
  have h4 := hp a4 (by simp)
  have h5 := hp a5 (by simp)
  have h6 := hp a6 (by simp)
  have t : ∀ a : Int, 0 ≤ a → (a + 1).toNat = a.toNat + 1 := fun a h => by omega
  have : i = 0 ∨ i = 1 ∨ i = 2 ∨ i = 3 ∨ i = 4 ∨ i = 5 ∨ i = 6 := by omega
  rcases this with rfl | rfl | rfl | rfl | rfl | rfl | rfl <;> (simp [mono, monoK, rsE, t _ h0, t _ h1, t _ h2, t _ h3, t _ h4, t _ h5, t _ h6, Int.pow_succ]; ac_rfl)
theorem rs_val {x : List Int} {i : Nat} (hi : i < 7) (hx : x.length = 7) : ∀ {P : Pl}, Pos7 P → Ev (rsP i P) (mono x) = x.getD i 0 * Ev P (mono x)
  | [], _ => by simp [rsP, Ev]
  | p :: l, h => by
    have ih := rs_val hi hx (P := l) fun q hq => h q (List.mem_cons_of_mem _ hq)
    have hp := h p List.mem_cons_self
    show p.2 * mono x (rsE i p.1) + Ev (rsP i l) (mono x) = _ * (p.2 * mono x p.1 + Ev l (mono x))
    rw [ih, mono_rs hi hp.1 hp.2 hx, Int.mul_add, Int.mul_left_comm]
/-- the factors of the longest permutation's polynomial at w -/
def tpJ (w : List Int) (i : Nat) : Nat → List (Int × Int)
  | 0 => []
  | m + 1 => (w.getD i 0, (m : Int)) :: tpJ w i m
def tpI (n : Nat) (w : List Int) : Nat → List (Int × Int)
  | 0 => []
  | i + 1 => tpJ w i (n - 1 - i) ++ tpI n w i
theorem top_val {n : Nat} {w ys : List Int} (hl : w.length = n) (h5 : n ≤ 5) : ∀ i, i ≤ n → Ev (topI n ys i) (mono (pickL w ys)) = prodP ys (tpI n w i)
  | 0, _ => by simp [topI, tpI, Ev, prodP, mono, monoK]
  | i + 1, hi => by
    rw [topI, tpI, prodP_append]
    have hx := pickL_length w ys
    have : ∀ m, Ev (topJ i ys m (topI n ys i)) (mono (pickL w ys)) = prodP ys (tpJ w i m) * prodP ys (tpI n w i) ∧ Pos7 (topJ i ys m (topI n ys i)) := fun m => by
      induction m with
      | zero => exact ⟨by rw [topJ, tpJ, prodP, Int.one_mul]; exact top_val hl h5 i (by omega), Pos7.top n ys i⟩
      | succ m ih =>
        refine ⟨?_, (ih.2.rs i).append (ih.2.scl _)⟩
        rw [topJ, tpJ, prodP, Ev_append, Ev_scl, Ev_mul, rs_val (by omega) hx ih.2, ih.1, pickL_at (by omega) (by omega)]
        simp only [Int.toNat_natCast]
        obtain ⟨A, hA⟩ : ∃ A, A = prodP ys (tpJ w i m) := ⟨_, rfl⟩
        obtain ⟨B, hB⟩ : ∃ A, A = prodP ys (tpI n w i) := ⟨_, rfl⟩
        rw [← hA, ← hB]
        grind
    exact (this _).1
/-- the inversions, as pairs of numbers -/
def invs (v : List Int) : List (Int × Int) := (List.range v.length).flatMap fun j => ((List.range j).filter fun i => decide (v.getD j 0 < v.getD i 0)).map fun i => (v.getD i 0, v.getD j 0)
def vanB (w : List Int) : Bool := if upN w = 0 then (tpI w.length w w.length).isPerm (invs w) && (fasc w).isNone && decide (w = (idL w.length).reverse) else (tpI w.length w w.length).any (fun p => decide (p.1 = p.2)) && (fasc w).isSome
def invB (v : List Int) : Bool := (List.range (v.length - 1)).all fun k => !ascB k v || (invs (sw k v)).isPerm ((v.getD (k + 1) 0, v.getD k 0) :: invs v)
set_option maxRecDepth 100000 in
theorem van_all : all5 vanB = true := by decide +kernel
set_option maxRecDepth 100000 in
theorem inv_all : all5 invB = true := by decide +kernel
theorem van_0 {n : Nat} {w : List Int} (hw : P5 n w) (h0 : upN w = 0) : (tpI n w n).Perm (invs w) ∧ fasc w = none ∧ w = (idL n).reverse := by
  have := all5_at van_all hw.ok (by have := hw.len; have := hw.le; omega)
  unfold vanB at this
  rw [if_pos h0, hw.len] at this
  simpa [List.isPerm_iff, and_assoc] using this
theorem van_1 {n : Nat} {w : List Int} (hw : P5 n w) (h0 : upN w ≠ 0) : (∃ p ∈ tpI n w n, p.1 = p.2) ∧ ∃ k, fasc w = some k := by
  have := all5_at van_all hw.ok (by have := hw.len; have := hw.le; omega)
  unfold vanB at this
  rw [if_neg h0, hw.len] at this
  simp only [Bool.and_eq_true, List.any_eq_true, decide_eq_true_eq, Option.isSome_iff_exists] at this
  exact this
theorem inv_sw {n : Nat} {v : List Int} (hv : P5 n v) {k : Nat} (hk : k + 1 < n) (ha : ascB k v = true) : (invs (sw k v)).Perm ((v.getD (k + 1) 0, v.getD k 0) :: invs v) := by
  have := all5_at inv_all hv.ok (by have := hv.len; have := hv.le; omega)
  simp only [invB, List.all_eq_true, List.mem_range] at this
  have := this k (by have := hv.len; omega)
  rw [ha] at this
  simpa [List.isPerm_iff] using this
def DstY (n : Nat) (ys : List Int) : Prop := ∀ i j, i < n → j < n → i ≠ j → ys.getD i 0 ≠ ys.getD j 0
theorem df_ne {n : Nat} {ys w : List Int} (hy : DstY n ys) (hw : P5 n w) {k : Nat} (hk : k + 1 < n) : df ys w k ≠ 0 := by
  obtain ⟨a, ha, han⟩ := hw.rng (j := k) (by omega)
  obtain ⟨b, hb, hbn⟩ := hw.rng (j := k + 1) hk
  unfold df
  rw [ha, hb, Int.toNat_natCast, Int.toNat_natCast]
  have hne : b ≠ a := fun e => by
    have hp := hw.ok
    simp only [permOk, decide_eq_true_eq] at hp
    have := List.pairwise_iff_getElem.1 hp.2.2.2 k (k + 1) (by have := hw.len; omega) (by have := hw.len; omega) (by omega)
    rw [← getD_lt, ← getD_lt, ha, hb, e] at this
    exact this rfl
  have := hy b a hbn han hne
  omega
theorem sw_inj {n : Nat} {v w : List Int} (hv : P5 n v) (hw : P5 n w) {k : Nat} (hk : k + 1 < n) (h : sw k w = sw k v) : w = v := by
  rw [← sw_sw (x := w) (k := k) (by have := hw.len; omega), h, sw_sw (by have := hv.len; omega)]
theorem up_near {n : Nat} {w : List Int} (hw : P5 n w) {k : Nat} (hk : k + 1 < n) : upN w ≤ upN (sw k w) + 1 := by
  cases ha : ascB k w with
  | true => have := (hw.asc hk ha).1; omega
  | false => have := (hw.desc hk ha).1; omega
theorem van_dst {n : Nat} {ys : List Int} (hy : DstY n ys) : ∀ (m : Nat) (v : List Int), P5 n v → upN v = m → (∀ w, P5 n w → m ≤ upN w → w ≠ v → FW n ys v w = 0) ∧ FW n ys v v = prodP ys (invs v) := by
  intro m
  induction m with
  | zero =>
    intro v hv hm
    obtain ⟨h1, h2, h3⟩ := van_0 hv hm
    have hval : ∀ w, P5 n w → FW n ys v w = prodP ys (tpI n w n) := fun w hw => by
      unfold FW EV
      rw [show lowP 10 v (topI n ys n) = topI n ys n by rw [lowP, h2]]
      exact top_val hw.len hw.le n (Nat.le_refl _)
    refine ⟨fun w hw _ hne => ?_, by rw [hval v hv, prodP_perm ys h1]⟩
    rw [hval w hw]
    refine prodP_zero ys (van_1 hw fun h0 => hne ?_).1
    rw [h3, (van_0 hw h0).2.2]
  | succ m ih =>
    intro v hv hm
    obtain ⟨_, k, hk⟩ := van_1 hv (by omega)
    have hkl := fasc_lt hk
    have hkn : k + 1 < n := by have := hv.len; omega
    have ha : ascB k v = true := decide_eq_true hkl.2.1
    have hu := hv.asc hkn ha
    obtain ⟨z1, z2⟩ := ih (sw k v) (hv.sw hkn) (by omega)
    refine ⟨fun w hw hle hne => ?_, ?_⟩
    · have a := FW_way (ys := ys) hv hw hkn ha
      have b := up_near hw hkn
      rw [z1 w hw (by omega) (fun e => by rw [e] at hle; omega), z1 (sw k w) (hw.sw hkn) (by omega) (fun e => hne (sw_inj hv hw hkn e)), Int.sub_self] at a
      exact cancel (df_ne hy hw hkn) a
    · have a := FW_way (ys := ys) hv hv hkn ha
      rw [z2, z1 v hv (by omega) (fun e => by rw [← e] at hu; omega), prodP_perm ys (inv_sw hv hkn ha), prodP] at a
      have b := df_ne hy hv hkn
      have : df ys v k * (FW n ys v v - prodP ys (invs v)) = 0 := by
        rw [Int.mul_sub, a]
        simp only [df]
        omega
      have := cancel b this
      omega
theorem mvd_dst {N : Int} {n : Nat} {ys : List Int} (hN : 2 * ((ys.map Int.natAbs).sum : Int) < N) : DstY n (mvd N n ys) := fun i j hi hj hne => by
  rcases Nat.lt_or_gt_of_ne hne with h | h
  · exact mvd_ne hN h hj
  · exact fun e => mvd_ne hN h hi e.symm
theorem FW_zero {n : Nat} {ys v w : List Int} (hv : P5 n v) (hw : P5 n w) (hy : ys.length = n) (hle : upN v ≤ upN w) (hne : w ≠ v) : FW n ys v w = 0 :=
  Mg.zero (2 * ((ys.map Int.natAbs).sum : Int)) fun N hN _ => by
    have a := FW_mg (n := n) (v := v) (w := w) (mvd_mg (N := N) hy)
    rw [(van_dst (mvd_dst hN) _ v hv rfl).1 w hw hle hne] at a
    exact a
theorem FW_self {n : Nat} {ys v : List Int} (hv : P5 n v) (hy : ys.length = n) : FW n ys v v = prodP ys (invs v) := by
  have : FW n ys v v - prodP ys (invs v) = 0 :=
    Mg.zero (2 * ((ys.map Int.natAbs).sum : Int)) fun N hN _ => by
      have a := (FW_mg (n := n) (v := v) (w := v) (mvd_mg (N := N) hy)).sub (prodP_mg (mvd_mg (N := N) hy) (invs v))
      rw [(van_dst (mvd_dst hN) _ v hv rfl).2, Int.sub_self] at a
      exact a
  omega

/-! ### the reference's sums -/
theorem sumS_snoc {n : Nat} {ys : List Int} {k : Nat} (hk : k + 1 < n) : ∀ (r : List Nat) (v u h : List Int), P5 n v → P5 n h → u.length = n → (∀ j ∈ r, j + 1 < n) →
    sumS v ys (r ++ [k]) u h = sumS v ys r u h + (if ascB k v then 0 else df ys (play r u) k * sumS (sw k v) ys r u h)
  | [], v, u, h, hv, hh, hu, _ => by
    simp only [List.nil_append, sumS, play, List.foldl_nil, df]
    congr 1
    cases ha : ascB k h with
    | true =>
      have a := (hh.asc hk ha).2
      by_cases e : sw k h = v
      · have e2 : h = sw k v := by rw [← e, sw_sw (by have := hh.len; omega)]
        rw [← e, a, sw_sw (by have := hh.len; omega)]
        simp
      · have e2 : ¬ h = sw k v := fun e2 => e (by rw [e2, sw_sw (by have := hv.len; omega)])
        simp [e, e2]
    | false =>
      cases hb : ascB k v with
      | true => simp
      | false =>
        have e2 : ¬ h = sw k v := fun e2 => by
          have := (hv.desc hk hb).2
          rw [← e2, ha] at this
          cases this
        simp [e2]
  | j :: r, v, u, h, hv, hh, hu, hr => by
    have hj : j + 1 < n := hr j List.mem_cons_self
    have hr' : ∀ j ∈ r, j + 1 < n := fun i hi => hr i (List.mem_cons_of_mem _ hi)
    have i1 := sumS_snoc (ys := ys) hk r v (sw j u) h hv hh (by rw [sw_length]; exact hu) hr'
    have i2 := sumS_snoc (ys := ys) hk r v (sw j u) (sw j h) hv (hh.sw hj) (by rw [sw_length]; exact hu) hr'
    rw [List.cons_append, sumS, i1, i2, sumS, sumS]
    show _ = _ + (if ascB k v then 0 else df ys (play r (sw j u)) k * _)
    cases ascB k v <;> cases ascB j h <;> simp <;> grind
theorem play_p5 {n : Nat} : ∀ (r : List Nat) (u : List Int), P5 n u → (∀ j ∈ r, j + 1 < n) → P5 n (play r u)
  | [], u, h, _ => h
  | j :: r, u, h, hr => play_p5 r (sw j u) (h.sw (hr j List.mem_cons_self)) fun i hi => hr i (List.mem_cons_of_mem _ hi)
theorem play_snoc (r : List Nat) (k : Nat) (u : List Int) : play (r ++ [k]) u = sw k (play r u) := by simp [play]
theorem id_most {n : Nat} {v : List Int} (hv : P5 n v) (h1 : 1 ≤ n) : upN v ≤ upN (idL n) ∧ lnN (idL n) = 0 ∧ invs (idL n) = [] := by
  have h5 := hv.le
  have a := (wrd_at hv).2.2.2
  have b := (wrd_at (P5.id h1 h5)).2.2.2
  have c : ∀ n : Fin 6, lnN (idL n) = 0 ∧ invs (idL n) = [] := by decide
  have d := c ⟨n, by omega⟩
  simp only at d
  refine ⟨by omega, d⟩
theorem sum_val {n : Nat} {ys : List Int} (hy : ys.length = n) (h1 : 1 ≤ n) (h5 : n ≤ 5) : ∀ (m : Nat) (r : List Nat) (v : List Int), r.length = m → P5 n v → (∀ j ∈ r, j + 1 < n) → FW n ys v (play r (idL n)) = sumS v ys r (idL n) (idL n) := by
  intro m
  induction m with
  | zero =>
    intro r v hr hv _
    obtain rfl := List.eq_nil_of_length_eq_zero hr
    have hi := P5.id h1 h5
    have a := id_most hv h1
    show FW n ys v (idL n) = _
    rw [sumS]
    by_cases e : idL n = v
    · rw [if_pos e, ← e, FW_self hi hy, a.2.2]; rfl
    · rw [if_neg e]
      exact FW_zero hv hi hy a.1 e
  | succ m ih =>
    intro r v hr hv hrk
    have hne : r ≠ [] := fun e => by rw [e] at hr; cases hr
    obtain ⟨r', k, rfl⟩ : ∃ r' k, r = r' ++ [k] := ⟨r.dropLast, r.getLast hne, (List.dropLast_concat_getLast hne).symm⟩
    have hk : k + 1 < n := hrk k (by simp)
    have hrk' : ∀ j ∈ r', j + 1 < n := fun j hj => hrk j (by simp [hj])
    have hl : r'.length = m := by simpa using hr
    have hi := P5.id h1 h5
    rw [play_snoc, FW_rec hv (play_p5 r' _ hi hrk') hk, sumS_snoc hk r' v _ _ hv hi hi.len hrk', ih r' v hl hv hrk', ih r' (sw k v) hl (hv.sw hk) hrk']
/-- the two ways to reckon a value agree -/
theorem loc_law {n : Nat} {v w ys : List Int} (hv : P5 n v) (hw : P5 n w) (hy : ys.length = n) (h1 : 1 ≤ n) : Ev (dblP v ys) (mono (pickL w ys)) = sumS v ys (fstL w) (idL n) (idL n) := by
  have h := wrd_at hw
  have := sum_val hy h1 hw.le _ (fstL w) v rfl hv h.2.1
  rw [h.1] at this
  rw [← this]
  unfold FW EV dblP
  rw [hv.len]

end Go.Proofs.YtnpghgpejnlebaaGreat

namespace Go.Proofs.YtnpghgpejnlebaaGreat
set_option linter.all false
open Go.RowKit

theorem cell_kept {w w' : World} {a : Addr} {v : Value} (hb : Below w.heap.size w w') (h : w.cell? a = some v) : w'.cell? a = some v := by
  rw [hb.cell (World.block_lt_of_cell? _ _ h)]; exact h
def rkL (xs : List Int) (c : Int) : Nat → Nat
  | 0 => 0
  | r + 1 => rkL xs c r + if xs.getD r 0 < c then 1 else 0
theorem rkL_le (xs : List Int) (c : Int) : ∀ r, rkL xs c r ≤ r
  | 0 => Nat.le_refl _
  | r + 1 => by have := rkL_le xs c r; unfold rkL; split <;> omega

end Go.Proofs.YtnpghgpejnlebaaGreat

namespace Go.Proofs.YtnpghgpejnlebaaGreat
set_option linter.all false
open Go.RowKit

/-- one permutation below another one, by the ranks -/
def blwB (v w : List Int) : Bool := (List.range (v.length + 1)).all fun r => (List.range (v.length + 1)).all fun c => decide (rkL w (c : Int) r ≤ rkL v (c : Int) r)
/-- a check that all pairs of permutations of at most four pass -/
def pair4 (B : List Int → List Int → Bool) : Bool := (List.range 5).all fun n => (permsL n).all fun v => (permsL n).all fun w => !decide (1 ≤ n) || B v w
theorem pair4_at {B : List Int → List Int → Bool} (h : pair4 B = true) {v w : List Int} {n : Nat} (hv : P5 n v) (hw : P5 n w) (h4 : n ≤ 4) : B v w = true := by
  unfold pair4 at h
  rw [List.all_eq_true] at h
  have a := h n (List.mem_range.2 (by omega))
  rw [List.all_eq_true] at a
  have mv := perm_mem hv.ok (by rw [hv.len]; omega)
  have mw := perm_mem hw.ok (by rw [hw.len]; omega)
  rw [hv.len] at mv
  rw [hw.len] at mw
  have b := a v mv
  rw [List.all_eq_true] at b
  have c := b w mw
  have : 1 ≤ n := by have := hv.ok; simp only [permOk, decide_eq_true_eq] at this; have := hv.len; omega
  simpa [this] using c
def bruB (v w : List Int) : Bool := (List.range (v.length - 1)).all fun k => !ascB k w || decide (blwB v (sw k w) = (blwB v w || (!ascB k v && blwB (sw k v) w)))
def blidB (v : List Int) : Bool := decide (blwB v (idL v.length) = decide (idL v.length = v)) && (decide (lnN v = 0) || (List.range (v.length - 1)).any fun k => !ascB k v)
set_option maxRecDepth 100000 in
theorem bru_all : pair4 bruB = true := by decide +kernel
set_option maxRecDepth 100000 in
theorem blid_all : all5 blidB = true := by decide +kernel
theorem bru_at {n : Nat} {v w : List Int} (hv : P5 n v) (hw : P5 n w) (h4 : n ≤ 4) {k : Nat} (hk : k + 1 < n) (ha : ascB k w = true) : blwB v (sw k w) = (blwB v w || (!ascB k v && blwB (sw k v) w)) := by
  have := pair4_at bru_all hv hw h4
  simp only [bruB, List.all_eq_true, List.mem_range] at this
  have := this k (by rw [hv.len]; omega)
  rw [ha] at this
  simpa using this
theorem blid_at {n : Nat} {v : List Int} (hv : P5 n v) : blwB v (idL n) = decide (idL n = v) ∧ (lnN v = 0 ∨ ∃ k, k + 1 < n ∧ ascB k v = false) := by
  have := all5_at blid_all hv.ok (by have := hv.len; have := hv.le; omega)
  simp only [blidB, Bool.and_eq_true, decide_eq_true_eq, Bool.or_eq_true, List.any_eq_true, List.mem_range] at this
  rw [hv.len] at this
  refine ⟨this.1, this.2.imp_right fun ⟨k, hk, h⟩ => ⟨k, by omega, by simpa using h⟩⟩
theorem id_of_len {n : Nat} {w : List Int} (hw : P5 n w) (h0 : lnN w = 0) : w = idL n := by
  have := (wrd_at hw).1
  unfold fstL at this
  rw [h0] at this
  exact this.symm
theorem len_desc {n : Nat} {w : List Int} (hw : P5 n w) {k : Nat} (hk : k + 1 < n) (ha : ascB k w = false) : lnN (sw k w) + 1 = lnN w := by
  have a := (wrd_at hw).2.2.2
  have b := (wrd_at (hw.sw hk)).2.2.2
  have c := (hw.desc hk ha).1
  omega
end Go.Proofs.YtnpghgpejnlebaaGreat

namespace Go.Proofs.YtnpghgpejnlebaaGreat
set_option linter.all false
open Go.RowKit

def sumF (F : List Int → Int) (L : List (List Int)) : Int := (L.map F).sum
theorem sumF_nil (F : List Int → Int) : sumF F [] = 0 := rfl
theorem sumF_cons (F : List Int → Int) (x : List Int) (L : List (List Int)) : sumF F (x :: L) = F x + sumF F L := by simp [sumF]
theorem sumF_append (F : List Int → Int) : ∀ A B : List (List Int), sumF F (A ++ B) = sumF F A + sumF F B
  | [], B => by rw [List.nil_append, sumF_nil, Int.zero_add]
  | x :: A, B => by rw [List.cons_append, sumF_cons, sumF_cons, sumF_append F A B, Int.add_assoc]
theorem sumF_perm (F : List Int → Int) {A B : List (List Int)} (h : A.Perm B) : sumF F A = sumF F B := by
  induction h with
  | nil => rfl
  | cons x _ ih => rw [sumF_cons, sumF_cons, ih]
  | swap x y l => simp only [sumF_cons]; omega
  | trans _ _ a b => exact a.trans b
theorem sumF_congr {F G : List Int → Int} : ∀ {L : List (List Int)}, (∀ x ∈ L, F x = G x) → sumF F L = sumF G L
  | [], _ => rfl
  | x :: L, h => by rw [sumF_cons, sumF_cons, h x List.mem_cons_self, sumF_congr fun y hy => h y (List.mem_cons_of_mem _ hy)]
theorem sumF_zero {F : List Int → Int} : ∀ {L : List (List Int)}, (∀ x ∈ L, F x = 0) → sumF F L = 0
  | [], _ => rfl
  | x :: L, h => by rw [sumF_cons, h x List.mem_cons_self, sumF_zero fun y hy => h y (List.mem_cons_of_mem _ hy)]; rfl
theorem sumF_add (F G : List Int → Int) : ∀ L : List (List Int), sumF (fun x => F x + G x) L = sumF F L + sumF G L
  | [] => rfl
  | x :: L => by rw [sumF_cons, sumF_cons, sumF_cons, sumF_add F G L]; omega
theorem sumF_sub (F G : List Int → Int) : ∀ L : List (List Int), sumF (fun x => F x - G x) L = sumF F L - sumF G L
  | [] => rfl
  | x :: L => by rw [sumF_cons, sumF_cons, sumF_cons, sumF_sub F G L]; omega
theorem sumF_mul (a : Int) (F : List Int → Int) : ∀ L : List (List Int), sumF (fun x => a * F x) L = a * sumF F L
  | [] => by rw [sumF_nil, sumF_nil, Int.mul_zero]
  | x :: L => by rw [sumF_cons, sumF_cons, sumF_mul a F L, Int.mul_add]
theorem sumF_swap (G : List Int → List Int → Int) (B : List (List Int)) : ∀ A : List (List Int), sumF (fun w => sumF (fun u => G w u) B) A = sumF (fun u => sumF (fun w => G w u) A) B
  | [] => by rw [sumF_nil]; exact (sumF_zero fun _ _ => rfl).symm
  | x :: A => by
    rw [sumF_cons, sumF_swap G B A, ← sumF_add]
    exact sumF_congr fun u _ => (sumF_cons (fun w => G w u) x A).symm

/-- the permutations one longer, by an exchange of a place with one behind it, and with one ahead of it -/
def cvUp (v : List Int) (k : Nat) : List (List Int) := ((List.range v.length).filter fun j => decide (k < j) && decide (lnN (swapL v k j) = lnN v + 1)).map fun j => swapL v k j
def cvDn (v : List Int) (k : Nat) : List (List Int) := ((List.range k).filter fun j => decide (lnN (swapL v j k) = lnN v + 1)).map fun j => swapL v j k
def dwn (m : Nat) (L : List (List Int)) : List (List Int) := (L.filter fun u => !ascB m u).map (sw m)
def swN (m k : Nat) : Nat := if k = m then m + 1 else if k = m + 1 then m else k
def chA (v : List Int) (k m : Nat) : List (List Int) := (if k = m then [v] else []) ++ ((if ascB m v then [] else cvUp (sw m v) (swN m k)) ++ dwn m (cvDn v k))
def chB (v : List Int) (k m : Nat) : List (List Int) := (if k = m + 1 then [v] else []) ++ ((if ascB m v then [] else cvDn (sw m v) (swN m k)) ++ dwn m (cvUp v k))
def chvB (v : List Int) : Bool := (List.range v.length).all fun k => ((List.range (v.length - 1)).all fun m => (chA v k m).isPerm (chB v k m)) &&
  (cvUp v k).all (fun u => permOk u && decide (u.length = v.length) && decide (lnN u = lnN v + 1)) && (cvDn v k).all (fun u => permOk u && decide (u.length = v.length) && decide (lnN u = lnN v + 1))
set_option maxRecDepth 100000 in
theorem chv_all : all5 chvB = true := by decide +kernel
theorem chv_at {n : Nat} {v : List Int} (hv : P5 n v) {k : Nat} (hk : k < n) : (∀ m, m + 1 < n → (chA v k m).Perm (chB v k m)) ∧ (∀ u ∈ cvUp v k, P5 n u ∧ lnN u = lnN v + 1) ∧ ∀ u ∈ cvDn v k, P5 n u ∧ lnN u = lnN v + 1 := by
  have := all5_at chv_all hv.ok (by have := hv.len; have := hv.le; omega)
  simp only [chvB, List.all_eq_true, List.mem_range, Bool.and_eq_true, decide_eq_true_eq] at this
  obtain ⟨⟨h1, h2⟩, h3⟩ := this k (by rw [hv.len]; exact hk)
  refine ⟨fun m hm => List.isPerm_iff.1 (h1 m (by rw [hv.len]; omega)), fun u hu => ?_, fun u hu => ?_⟩
  · obtain ⟨⟨a, b⟩, c⟩ := h2 u hu
    exact ⟨⟨a, by rw [b, hv.len], hv.le⟩, c⟩
  · obtain ⟨⟨a, b⟩, c⟩ := h3 u hu
    exact ⟨⟨a, by rw [b, hv.len], hv.le⟩, c⟩

def yAt (ys w : List Int) (k : Nat) : Int := ys.getD (w.getD k 0).toNat 0
theorem df_y (ys w : List Int) (k : Nat) : df ys w k = yAt ys w (k + 1) - yAt ys w k := rfl
theorem yAt_sw {ys w : List Int} {m k : Nat} (hm : m + 1 < w.length) : yAt ys (sw m w) k = yAt ys w (swN m k) := by
  unfold yAt swN
  rw [sw_getD hm]
  by_cases h1 : k = m
  · rw [if_pos h1, if_neg (by omega), if_pos h1]
  · by_cases h2 : k = m + 1
    · rw [if_pos h2, if_neg h1, if_pos h2]
    · rw [if_neg h2, if_neg h1, if_neg h1, if_neg h2]
theorem swN_swN (m k : Nat) : swN m (swN m k) = k := by
  unfold swN
  by_cases h1 : k = m
  · rw [if_pos h1, if_neg (by omega), if_pos rfl, h1]
  · by_cases h2 : k = m + 1
    · rw [if_neg h1, if_pos h2, if_pos rfl, h2]
    · rw [if_neg h1, if_neg h2, if_neg h1, if_neg h2]
theorem swN_lt {m k n : Nat} (hk : k < n) (hm : m + 1 < n) : swN m k < n := by
  unfold swN
  by_cases h1 : k = m
  · rw [if_pos h1]; exact hm
  · rw [if_neg h1]
    by_cases h2 : k = m + 1
    · rw [if_pos h2]; omega
    · rw [if_neg h2]; exact hk
/-- a sum of values, one step on -/
theorem sumF_rec {n : Nat} {ys w : List Int} (hw : P5 n w) {m : Nat} (hm : m + 1 < n) : ∀ {L : List (List Int)}, (∀ u ∈ L, P5 n u) →
    sumF (fun u => FW n ys u (sw m w)) L = sumF (fun u => FW n ys u w) L + df ys w m * sumF (fun u => FW n ys u w) (dwn m L)
  | [], _ => by simp [sumF, dwn]
  | x :: L, h => by
    have ih := sumF_rec (ys := ys) hw hm (L := L) fun u hu => h u (List.mem_cons_of_mem _ hu)
    have hr := FW_rec (ys := ys) (h x List.mem_cons_self) hw hm
    rw [sumF_cons, sumF_cons, ih, hr]
    cases ha : ascB m x with
    | true =>
      have : dwn m (x :: L) = dwn m L := by simp [dwn, ha]
      rw [this]; simp; omega
    | false =>
      have : dwn m (x :: L) = sw m x :: dwn m L := by simp [dwn, ha]
      rw [this, sumF_cons, Int.mul_add]; simp; omega
theorem FW_id {n : Nat} {ys v : List Int} (hy : ys.length = n) (h1 : 1 ≤ n) (hv : P5 n v) : FW n ys v (idL n) = if idL n = v then 1 else 0 :=
  sum_val hy h1 hv.le 0 [] v rfl hv (by simp)
theorem chev {n : Nat} {ys : List Int} (hy : ys.length = n) (h1 : 1 ≤ n) : ∀ (t : Nat) (w : List Int), lnN w = t → P5 n w → ∀ (v : List Int) (k : Nat), P5 n v → k < n →
    yAt ys w k * FW n ys v w = yAt ys v k * FW n ys v w + sumF (fun u => FW n ys u w) (cvUp v k) - sumF (fun u => FW n ys u w) (cvDn v k) := by
  intro t
  induction t with
  | zero =>
    intro w ht hw v k hv hk
    obtain rfl := id_of_len hw ht
    have hc := chv_at hv hk
    have z : ∀ L : List (List Int), (∀ u ∈ L, P5 n u ∧ lnN u = lnN v + 1) → sumF (fun u => FW n ys u (idL n)) L = 0 := fun L hL => sumF_zero fun u hu => by
      obtain ⟨a, b⟩ := hL u hu
      rw [FW_id hy h1 a, if_neg]
      intro e
      rw [← e, ht] at b
      omega
    rw [z _ hc.2.1, z _ hc.2.2, FW_id hy h1 hv]
    by_cases e : idL n = v
    · rw [← e]; omega
    · rw [if_neg e]; omega
  | succ t ih =>
    intro w ht hw v k hv hk
    obtain ⟨m, hm, hd⟩ : ∃ k, k + 1 < n ∧ ascB k w = false := ((blid_at hw).2).resolve_left (by omega)
    have hl := len_desc hw hm hd
    have hu := hw.sw hm
    have ss : sw m (sw m w) = w := sw_sw (by have := hw.len; omega)
    obtain ⟨x, hx⟩ : ∃ x, x = sw m w := ⟨_, rfl⟩
    rw [← hx] at hl hu ss
    rw [← ss]
    have hc := chv_at hv hk
    have hp := sumF_perm (fun u => FW n ys u x) (hc.1 m hm)
    have i1 := ih x (by omega) hu v k hv hk
    rw [yAt_sw (by have := hu.len; omega), sumF_rec hu hm fun u h => (hc.2.1 u h).1, sumF_rec hu hm fun u h => (hc.2.2 u h).1, FW_rec hv hu hm]
    have hy1 : yAt ys x (swN m k) = yAt ys x k + (if k = m then df ys x m else if k = m + 1 then - df ys x m else 0) := by
      unfold swN
      rw [df_y]
      by_cases e1 : k = m
      · rw [if_pos e1, if_pos e1, e1]; omega
      · rw [if_neg e1, if_neg e1]
        by_cases e2 : k = m + 1
        · rw [if_pos e2, if_pos e2, e2]; omega
        · rw [if_neg e2, if_neg e2]; omega
    unfold chA chB at hp
    rw [sumF_append, sumF_append, sumF_append, sumF_append] at hp
    obtain ⟨a, hda⟩ : ∃ a, a = df ys x m := ⟨_, rfl⟩
    obtain ⟨U, hU⟩ : ∃ U, U = sumF (fun u => FW n ys u x) (cvUp v k) := ⟨_, rfl⟩
    obtain ⟨D, hD⟩ : ∃ U, U = sumF (fun u => FW n ys u x) (cvDn v k) := ⟨_, rfl⟩
    obtain ⟨U', hU'⟩ : ∃ U, U = sumF (fun u => FW n ys u x) (dwn m (cvUp v k)) := ⟨_, rfl⟩
    obtain ⟨D', hD'⟩ : ∃ U, U = sumF (fun u => FW n ys u x) (dwn m (cvDn v k)) := ⟨_, rfl⟩
    obtain ⟨fv, hfv⟩ : ∃ U, U = FW n ys v x := ⟨_, rfl⟩
    obtain ⟨yk, hyk⟩ : ∃ U, U = yAt ys x k := ⟨_, rfl⟩
    obtain ⟨vk, hvk⟩ : ∃ U, U = yAt ys v k := ⟨_, rfl⟩
    rw [← hU, ← hD, ← hfv, ← hyk, ← hvk] at i1
    rw [← hU', ← hD'] at hp
    rw [← hda, ← hU, ← hD, ← hU', ← hD', ← hfv, ← hvk]
    rw [← hyk, ← hda] at hy1
    obtain ⟨e, he⟩ : ∃ e : Int, e = if k = m then 1 else if k = m + 1 then -1 else 0 := ⟨_, rfl⟩
    have hy2 : yAt ys x (swN m k) = yk + e * a := by
      rw [hy1, he]
      by_cases e1 : k = m
      · rw [if_pos e1, if_pos e1, Int.one_mul]
      · rw [if_neg e1, if_neg e1]
        by_cases e2 : k = m + 1
        · rw [if_pos e2, if_pos e2]; omega
        · rw [if_neg e2, if_neg e2]; omega
    have hE : sumF (fun u => FW n ys u x) (if k = m then [v] else []) - sumF (fun u => FW n ys u x) (if k = m + 1 then [v] else []) = e * fv := by
      rw [he, hfv]
      by_cases e1 : k = m
      · rw [if_pos e1, if_pos e1, if_neg (by omega)]; simp [sumF]
      · rw [if_neg e1, if_neg e1]
        by_cases e2 : k = m + 1
        · rw [if_pos e2, if_pos e2]; simp [sumF]
        · rw [if_neg e2, if_neg e2]; simp [sumF]
    obtain ⟨E1, hE1⟩ : ∃ U, U = sumF (fun u => FW n ys u x) (if k = m then [v] else []) := ⟨_, rfl⟩
    obtain ⟨E2, hE2⟩ : ∃ U, U = sumF (fun u => FW n ys u x) (if k = m + 1 then [v] else []) := ⟨_, rfl⟩
    rw [← hE1, ← hE2] at hp hE
    cases ha : ascB m v with
    | true =>
      rw [ha] at hp
      simp only [if_true, sumF_nil, Int.zero_add] at hp ⊢
      rw [hy2]
      have h3 : a * (E1 + D') = a * (E2 + U') := by rw [hp]
      have h4 : E1 = E2 + e * fv := by omega
      rw [h4] at h3
      clear hp hE
      grind
    | false =>
      rw [ha] at hp
      have hvs := hv.sw hm
      have i2 := ih x (by omega) hu (sw m v) (swN m k) hvs (swN_lt hk hm)
      rw [yAt_sw (by have := hv.len; omega), swN_swN, ← hvk, hy2] at i2
      simp only [Bool.false_eq_true, if_false] at hp ⊢
      obtain ⟨U2, hU2⟩ : ∃ U, U = sumF (fun u => FW n ys u x) (cvUp (sw m v) (swN m k)) := ⟨_, rfl⟩
      obtain ⟨D2, hD2⟩ : ∃ U, U = sumF (fun u => FW n ys u x) (cvDn (sw m v) (swN m k)) := ⟨_, rfl⟩
      obtain ⟨fs, hfs⟩ : ∃ U, U = FW n ys (sw m v) x := ⟨_, rfl⟩
      rw [← hU2, ← hD2, ← hfs] at i2
      rw [← hU2, ← hD2] at hp
      rw [← hfs, hy2]
      have h3 : a * (E1 + (U2 + D')) = a * (E2 + (D2 + U')) := by rw [hp]
      have h4 : E1 = E2 + e * fv := by omega
      have h5 : a * ((yk + e * a) * fs) = a * (vk * fs + U2 - D2) := by rw [i2]
      rw [h4] at h3
      clear hp hE i2
      grind

end Go.Proofs.YtnpghgpejnlebaaGreat

namespace Go.Proofs.YtnpghgpejnlebaaGreat
set_option linter.all false
open Go.RowKit

/-! ### all permutations -/
def aLB (n : Nat) : Bool := (permsL n).all (fun v => permOk v && decide (v.length = n)) && decide (permsL n).Nodup && (List.range (n - 1)).all fun k => ((permsL n).map (sw k)).isPerm (permsL n)
set_option maxRecDepth 100000 in
theorem aL_all : ∀ n : Fin 4, aLB (n.val + 1) = true := by decide +kernel
structure AL (n : Nat) : Prop where
  mem : ∀ w, w ∈ permsL n ↔ P5 n w
  nodup : (permsL n).Nodup
  sw : ∀ k, k + 1 < n → ((permsL n).map (sw k)).Perm (permsL n)
theorem aL {n : Nat} (h1 : 1 ≤ n) (h4 : n ≤ 4) : AL n := by
  have := aL_all ⟨n - 1, by omega⟩
  rw [show (⟨n - 1, by omega⟩ : Fin 4).val + 1 = n by simp; omega] at this
  simp only [aLB, Bool.and_eq_true, List.all_eq_true, decide_eq_true_eq, List.mem_range] at this
  obtain ⟨⟨a, b⟩, c⟩ := this
  refine ⟨fun w => ⟨fun hw => ⟨(a w hw).1, (a w hw).2, by omega⟩, fun hw => ?_⟩, b, fun k hk => List.isPerm_iff.1 (c k (by omega))⟩
  have := perm_mem hw.ok (by rw [hw.len]; omega)
  rw [hw.len] at this
  exact this

theorem sumF_delta {v : List Int} (g : List Int → Int) : ∀ {L : List (List Int)}, L.Nodup → v ∈ L → sumF (fun w => if w = v then g w else 0) L = g v
  | [], _, h => by cases h
  | x :: L, hn, h => by
    rw [sumF_cons]
    have hn' := List.nodup_cons.1 hn
    by_cases e : x = v
    · rw [if_pos e, sumF_zero fun y hy => if_neg fun e2 => hn'.1 (by rw [e, ← e2]; exact hy), e, Int.add_zero]
    · rw [if_neg e, sumF_delta g hn'.2 (by
        rcases List.mem_cons.1 h with h | h
        · exact absurd h.symm e
        · exact h), Int.zero_add]
theorem sumF_count (F : List Int → Int) {L : List (List Int)} (hn : L.Nodup) : ∀ {M : List (List Int)}, (∀ x ∈ M, x ∈ L) → sumF F M = sumF (fun u => ((M.count u : Nat) : Int) * F u) L
  | [], _ => by rw [sumF_nil]; exact (sumF_zero fun x _ => by simp).symm
  | x :: M, h => by
    rw [sumF_cons, sumF_count F hn fun y hy => h y (List.mem_cons_of_mem _ hy), ← sumF_delta F hn (h x List.mem_cons_self), ← sumF_add]
    refine sumF_congr fun u _ => ?_
    rw [List.count_cons]
    by_cases e : u = x
    · rw [if_pos e, e]; simp [Int.add_mul]; omega
    · rw [if_neg e]
      have : ¬ (x == u) = true := by simp; exact fun h => e h.symm
      rw [if_neg this]; simp

/-! ### sums -/
def Ex (n : Nat) (ys : List Int) (f c : List Int → Int) : Prop := ∀ p, P5 n p → f p = sumF (fun w => c w * FW n ys w p) (permsL n)
variable {n : Nat} {ys : List Int}
theorem Ex.zero : Ex n ys (fun _ => 0) (fun _ => 0) := fun p _ => (sumF_zero fun x _ => by simp).symm
theorem Ex.add {f g c d : List Int → Int} (h : Ex n ys f c) (h' : Ex n ys g d) : Ex n ys (fun p => f p + g p) (fun w => c w + d w) := fun p hp => by
  dsimp only
  rw [h p hp, h' p hp, ← sumF_add]
  exact sumF_congr fun u _ => by rw [Int.add_mul]
theorem Ex.smul {f c : List Int → Int} (a : Int) (h : Ex n ys f c) : Ex n ys (fun p => a * f p) (fun w => a * c w) := fun p hp => by
  dsimp only
  rw [h p hp, ← sumF_mul]
  exact sumF_congr fun u _ => by rw [Int.mul_assoc]
theorem Ex.sub {f g c d : List Int → Int} (h : Ex n ys f c) (h' : Ex n ys g d) : Ex n ys (fun p => f p - g p) (fun w => c w - d w) := fun p hp => by
  dsimp only
  rw [h p hp, h' p hp, ← sumF_sub]
  exact sumF_congr fun u _ => by rw [Int.sub_mul]
theorem Ex.congr {f g c : List Int → Int} (h : Ex n ys f c) (e : ∀ p, P5 n p → g p = f p) : Ex n ys g c := fun p hp => by rw [e p hp]; exact h p hp
theorem Ex.one (h1 : 1 ≤ n) (h4 : n ≤ 4) {v : List Int} (hv : P5 n v) : Ex n ys (FW n ys v) (fun w => if w = v then 1 else 0) := fun p hp => by
  have A := aL h1 h4
  have := sumF_delta (v := v) (fun w => FW n ys w p) A.nodup ((A.mem v).2 hv)
  rw [← this]
  exact sumF_congr fun u _ => by by_cases e : u = v <;> simp [e]

/-- the numbers behind a product with the number at a place -/
def muC (n : Nat) (ys : List Int) (k : Nat) (c : List Int → Int) (u : List Int) : Int :=
  yAt ys u k * c u + sumF (fun w => c w * (((cvUp w k).count u : Nat) : Int)) (permsL n) - sumF (fun w => c w * (((cvDn w k).count u : Nat) : Int)) (permsL n)
theorem Ex.mu (hy : ys.length = n) (h1 : 1 ≤ n) (h4 : n ≤ 4) {f c : List Int → Int} (h : Ex n ys f c) {k : Nat} (hk : k < n) : Ex n ys (fun p => yAt ys p k * f p) (muC n ys k c) := fun p hp => by
  have A := aL h1 h4
  show yAt ys p k * f p = _
  rw [h p hp, ← sumF_mul]
  have e1 : ∀ w ∈ permsL n, yAt ys p k * (c w * FW n ys w p) =
      yAt ys w k * c w * FW n ys w p + (sumF (fun u => c w * (((cvUp w k).count u : Nat) : Int) * FW n ys u p) (permsL n) - sumF (fun u => c w * (((cvDn w k).count u : Nat) : Int) * FW n ys u p) (permsL n)) := fun w hw => by
    have hw' := (A.mem w).1 hw
    have hc := chv_at hw' hk
    have h0 := chev hy h1 _ p rfl hp w k hw' hk
    have u1 : sumF (fun u => c w * (((cvUp w k).count u : Nat) : Int) * FW n ys u p) (permsL n) = c w * sumF (fun u => FW n ys u p) (cvUp w k) := by
      rw [sumF_count _ A.nodup fun x hx => (A.mem x).2 (hc.2.1 x hx).1, ← sumF_mul]
      exact sumF_congr fun u _ => by rw [Int.mul_assoc]
    have u2 : sumF (fun u => c w * (((cvDn w k).count u : Nat) : Int) * FW n ys u p) (permsL n) = c w * sumF (fun u => FW n ys u p) (cvDn w k) := by
      rw [sumF_count _ A.nodup fun x hx => (A.mem x).2 (hc.2.2 x hx).1, ← sumF_mul]
      exact sumF_congr fun u _ => by rw [Int.mul_assoc]
    rw [u1, u2, Int.mul_left_comm, h0]
    grind
  rw [sumF_congr e1, sumF_add, sumF_sub]
  rw [sumF_swap (fun w u => c w * (((cvUp w k).count u : Nat) : Int) * FW n ys u p), sumF_swap (fun w u => c w * (((cvDn w k).count u : Nat) : Int) * FW n ys u p), ← sumF_sub, ← sumF_add]
  refine sumF_congr fun u _ => ?_
  have e2 : ∀ g : List Int → Int, sumF (fun w => g w * FW n ys u p) (permsL n) = sumF g (permsL n) * FW n ys u p := fun g => by
    rw [Int.mul_comm, ← sumF_mul]
    exact sumF_congr fun w _ => Int.mul_comm _ _
  rw [e2 fun w => c w * (((cvUp w k).count u : Nat) : Int), e2 fun w => c w * (((cvDn w k).count u : Nat) : Int)]
  unfold muC
  grind
theorem pick_y {p : List Int} (hp : P5 n p) (i : Nat) : (pickL p ys).getD i 0 = if i < n then yAt ys p i else 0 := by
  by_cases h7 : i < 7
  · rw [pickL_getD _ _ h7]
    unfold pick
    rw [hp.len]
    rfl
  · have := hp.le
    rw [if_neg (by omega), List.getD_eq_getElem?_getD, List.getElem?_eq_none (by rw [pickL_length]; omega)]; rfl
theorem Ex.pick (hy : ys.length = n) (h1 : 1 ≤ n) (h4 : n ≤ 4) {f c : List Int → Int} (h : Ex n ys f c) (i : Nat) : ∃ c', Ex n ys (fun p => (pickL p ys).getD i 0 * f p) c' := by
  by_cases hi : i < n
  · exact ⟨_, (h.mu hy h1 h4 hi).congr fun p hp => by rw [pick_y hp, if_pos hi]⟩
  · exact ⟨_, Ex.zero.congr fun p hp => by rw [pick_y hp, if_neg hi, Int.zero_mul]⟩
theorem Ex.pow (hy : ys.length = n) (h1 : 1 ≤ n) (h4 : n ≤ 4) (i : Nat) : ∀ (t : Nat) {f c : List Int → Int}, Ex n ys f c → ∃ c', Ex n ys (fun p => (pickL p ys).getD i 0 ^ t * f p) c'
  | 0, f, c, h => ⟨c, h.congr fun p _ => by rw [Int.pow_zero, Int.one_mul]⟩
  | t + 1, f, c, h => by
    obtain ⟨c1, h1'⟩ := h.pick hy h1 h4 i
    obtain ⟨c2, h2⟩ := Ex.pow hy h1 h4 i t h1'
    exact ⟨c2, h2.congr fun p _ => by rw [Int.pow_succ, Int.mul_assoc]⟩
theorem Ex.mono (hy : ys.length = n) (h1 : 1 ≤ n) (h4 : n ≤ 4) (e : List Int) {f c : List Int → Int} (h : Ex n ys f c) : ∃ c', Ex n ys (fun p => Go.Proofs.YtnpghgpejnlebaaGreat.mono (pickL p ys) e * f p) c' := by
  unfold Go.Proofs.YtnpghgpejnlebaaGreat.mono
  have : ∀ (m : Nat) {f c : List Int → Int}, Ex n ys f c → ∃ c', Ex n ys (fun p => monoK (pickL p ys) e m * f p) c' := fun m => by
    induction m with
    | zero => exact fun h => ⟨_, h.congr fun p _ => by rw [monoK, Int.one_mul]⟩
    | succ m ih =>
      intro f c h
      obtain ⟨c1, h1'⟩ := Ex.pow hy h1 h4 m (e.getD m 0).toNat h
      obtain ⟨c2, h2⟩ := ih h1'
      exact ⟨c2, h2.congr fun p _ => by rw [monoK, Int.mul_assoc]⟩
  exact this 7 h
theorem Ex.ev (hy : ys.length = n) (h1 : 1 ≤ n) (h4 : n ≤ 4) {f c : List Int → Int} (h : Ex n ys f c) : ∀ P : Pl, ∃ c', Ex n ys (fun p => Ev P (Go.Proofs.YtnpghgpejnlebaaGreat.mono (pickL p ys)) * f p) c'
  | [] => ⟨_, Ex.zero.congr fun p _ => by simp [Ev]⟩
  | q :: P => by
    obtain ⟨c1, h1'⟩ := Ex.ev hy h1 h4 h P
    obtain ⟨c2, h2⟩ := Ex.mono hy h1 h4 q.1 h
    exact ⟨_, ((h2.smul q.2).add h1').congr fun p _ => by simp only [Ev]; rw [Int.add_mul, Int.mul_assoc]⟩
/-- a product of values is a sum of values -/
theorem Ex.prod (hy : ys.length = n) (h1 : 1 ≤ n) (h4 : n ≤ 4) (u : List Int) {v : List Int} (hv : P5 n v) : ∃ c, Ex n ys (fun p => FW n ys u p * FW n ys v p) c :=
  (Ex.one h1 h4 hv).ev hy h1 h4 (lowP 10 u (topI n ys n))

/-! ### there is but one -/
def invNB (v : List Int) : Bool := (invs v).all fun p => decide (0 ≤ p.1 ∧ p.1 < (v.length : Int) ∧ 0 ≤ p.2 ∧ p.2 < (v.length : Int) ∧ p.1 ≠ p.2)
set_option maxRecDepth 100000 in
theorem invN_all : all5 invNB = true := by decide +kernel
theorem prod_ne {v : List Int} (hv : P5 n v) (hd : DstY n ys) : prodP ys (invs v) ≠ 0 := by
  have := all5_at invN_all hv.ok (by have := hv.len; have := hv.le; omega)
  simp only [invNB, List.all_eq_true, decide_eq_true_eq, hv.len] at this
  have key : ∀ L : List (Int × Int), (∀ p ∈ L, 0 ≤ p.1 ∧ p.1 < (n : Int) ∧ 0 ≤ p.2 ∧ p.2 < (n : Int) ∧ p.1 ≠ p.2) → prodP ys L ≠ 0 := fun L => by
    induction L with
    | nil => exact fun _ => by simp [prodP]
    | cons p L ih =>
      intro h
      rw [prodP]
      obtain ⟨a1, a2, b1, b2, hne⟩ := h p List.mem_cons_self
      have := hd p.1.toNat p.2.toNat (by omega) (by omega) (by omega)
      exact Int.mul_ne_zero (by omega) (ih fun q hq => h q (List.mem_cons_of_mem _ hq))
  exact key _ this
theorem FW_ne (hy : ys.length = n) {v : List Int} (hv : P5 n v) (hd : DstY n ys) : FW n ys v v ≠ 0 := by rw [FW_self hv hy]; exact prod_ne hv hd
/-- what a sum is at a permutation, when the numbers of the shorter ones are 0 -/
theorem sum_at (hy : ys.length = n) (h1 : 1 ≤ n) (h4 : n ≤ 4) {d : List Int → Int} {w : List Int} (hw : P5 n w) (h : ∀ u, P5 n u → lnN u < lnN w → d u = 0) : sumF (fun u => d u * FW n ys u w) (permsL n) = d w * FW n ys w w := by
  have A := aL h1 h4
  rw [← sumF_delta (v := w) (fun u => d u * FW n ys u w) A.nodup ((A.mem w).2 hw)]
  refine sumF_congr fun u hu => ?_
  have hu' := (A.mem u).1 hu
  by_cases e : u = w
  · rw [if_pos e]
  · rw [if_neg e]
    by_cases hl : lnN u < lnN w
    · rw [h u hu' hl, Int.zero_mul]
    · have a := (wrd_at hu').2.2.2
      have b := (wrd_at hw).2.2.2
      rw [FW_zero hu' hw hy (by omega) (fun h => e h.symm), Int.mul_zero]
theorem Ex.nil (hy : ys.length = n) (h1 : 1 ≤ n) (h4 : n ≤ 4) (hd : DstY n ys) {d : List Int → Int} (h : Ex n ys (fun _ => 0) d) : ∀ (t : Nat) (w : List Int), lnN w = t → P5 n w → d w = 0 := by
  intro t
  induction t using Nat.strongRecOn with
  | _ t ih =>
    intro w ht hw
    have := h w hw
    rw [sum_at hy h1 h4 hw fun u hu hl => ih (lnN u) (by omega) u rfl hu] at this
    exact (Int.mul_eq_zero.1 this.symm).resolve_right (FW_ne hy hw hd)
theorem Ex.uniq (hy : ys.length = n) (h1 : 1 ≤ n) (h4 : n ≤ 4) (hd : DstY n ys) {f c c' : List Int → Int} (h : Ex n ys f c) (h' : Ex n ys f c') {w : List Int} (hw : P5 n w) : c w = c' w := by
  have := Ex.nil hy h1 h4 hd ((h.sub h').congr fun p _ => by omega) _ w rfl hw
  omega

/-! ### one step down -/
def dnC (k : Nat) (c : List Int → Int) (w : List Int) : Int := if ascB k w then c (sw k w) else 0
theorem sumF_map (F : List Int → Int) (g : List Int → List Int) : ∀ L : List (List Int), sumF F (L.map g) = sumF (fun x => F (g x)) L
  | [] => rfl
  | x :: L => by rw [List.map_cons, sumF_cons, sumF_cons, sumF_map F g L]
theorem Ex.down (h1 : 1 ≤ n) (h4 : n ≤ 4) {f c : List Int → Int} (h : Ex n ys f c) {k : Nat} (hk : k + 1 < n) {p : List Int} (hp : P5 n p) : f (sw k p) - f p = df ys p k * sumF (fun w => dnC k c w * FW n ys w p) (permsL n) := by
  have A := aL h1 h4
  rw [h p hp, h _ (hp.sw hk), ← sumF_sub]
  have e : ∀ w ∈ permsL n, c w * FW n ys w (sw k p) - c w * FW n ys w p = (fun x => df ys p k * (dnC k c x * FW n ys x p)) (sw k w) := fun w hw => by
    have hw' := (A.mem w).1 hw
    rw [FW_rec hw' hp hk]
    unfold dnC
    dsimp only
    cases ha : ascB k w with
    | true => rw [(hw'.asc hk ha).2]; simp
    | false => rw [(hw'.desc hk ha).2, sw_sw (by have := hw'.len; omega)]; simp; grind
  rw [sumF_congr e, ← sumF_map (fun x => df ys p k * (dnC k c x * FW n ys x p)), sumF_perm _ (A.sw k hk), sumF_mul]
theorem prod_step (hy : ys.length = n) (h1 : 1 ≤ n) (h4 : n ≤ 4) (hd : DstY n ys) {u v : List Int} (hu : P5 n u) (hv : P5 n v) {c : List Int → Int} (h : Ex n ys (fun p => FW n ys u p * FW n ys v p) c)
    {k : Nat} (hk : k + 1 < n) : ∃ c1 c2 c3, Ex n ys (fun p => FW n ys (sw k u) p * FW n ys v p) c1 ∧ Ex n ys (fun p => FW n ys u p * FW n ys (sw k v) p) c2 ∧ Ex n ys (fun p => FW n ys (sw k u) p * FW n ys (sw k v) p) c3 ∧
      ∀ w, P5 n w → ascB k w = true → c (sw k w) = (if ascB k u then 0 else c1 w) + (if ascB k v then 0 else c2 w) + (if ascB k u then 0 else if ascB k v then 0 else muC n ys (k + 1) c3 w - muC n ys k c3 w) := by
  obtain ⟨c1, e1⟩ := Ex.prod hy h1 h4 (sw k u) hv
  obtain ⟨c2, e2⟩ := Ex.prod hy h1 h4 u (hv.sw hk)
  obtain ⟨c3, e3⟩ := Ex.prod hy h1 h4 (sw k u) (hv.sw hk)
  refine ⟨c1, c2, c3, e1, e2, e3, fun w hw ha => ?_⟩
  have q1 : Ex n ys (fun p => if ascB k u then 0 else FW n ys (sw k u) p * FW n ys v p) (fun w => if ascB k u then 0 else c1 w) := by
    cases ascB k u
    · exact e1
    · exact Ex.zero
  have q2 : Ex n ys (fun p => if ascB k v then 0 else FW n ys u p * FW n ys (sw k v) p) (fun w => if ascB k v then 0 else c2 w) := by
    cases ascB k v
    · exact e2
    · exact Ex.zero
  have q3 : Ex n ys (fun p => if ascB k u then 0 else if ascB k v then 0 else yAt ys p (k + 1) * (FW n ys (sw k u) p * FW n ys (sw k v) p) - yAt ys p k * (FW n ys (sw k u) p * FW n ys (sw k v) p))
      (fun w => if ascB k u then 0 else if ascB k v then 0 else muC n ys (k + 1) c3 w - muC n ys k c3 w) := by
    cases ascB k u
    · cases ascB k v
      · exact (e3.mu hy h1 h4 hk).sub (e3.mu hy h1 h4 (by omega))
      · exact Ex.zero
    · exact Ex.zero
  have q := (q1.add q2).add q3
  have r : Ex n ys (fun p => sumF (fun w => dnC k c w * FW n ys w p) (permsL n)) (dnC k c) := fun p _ => rfl
  have r' := r.congr (g := fun p => (if ascB k u then 0 else FW n ys (sw k u) p * FW n ys v p) + (if ascB k v then 0 else FW n ys u p * FW n ys (sw k v) p) + (if ascB k u then 0 else if ascB k v then 0 else yAt ys p (k + 1) * (FW n ys (sw k u) p * FW n ys (sw k v) p) - yAt ys p k * (FW n ys (sw k u) p * FW n ys (sw k v) p))) fun p hp => by
    have hdn := h.down h1 h4 hk hp
    rw [FW_rec hu hp hk, FW_rec hv hp hk] at hdn
    have hne := df_ne hd hp hk
    obtain ⟨S, hS⟩ : ∃ S, S = sumF (fun w => dnC k c w * FW n ys w p) (permsL n) := ⟨_, rfl⟩
    rw [← hS] at hdn ⊢
    obtain ⟨a, ha'⟩ : ∃ a, a = df ys p k := ⟨_, rfl⟩
    have hy1 : yAt ys p (k + 1) = yAt ys p k + a := by rw [ha', df_y]; omega
    rw [hy1]
    rw [← ha'] at hdn hne
    obtain ⟨Fu, hFu⟩ : ∃ a, a = FW n ys u p := ⟨_, rfl⟩
    obtain ⟨Fv, hFv⟩ : ∃ a, a = FW n ys v p := ⟨_, rfl⟩
    obtain ⟨Gu, hGu⟩ : ∃ a, a = FW n ys (sw k u) p := ⟨_, rfl⟩
    obtain ⟨Gv, hGv⟩ : ∃ a, a = FW n ys (sw k v) p := ⟨_, rfl⟩
    obtain ⟨y0, hy0⟩ : ∃ a, a = yAt ys p k := ⟨_, rfl⟩
    rw [← hFu, ← hFv, ← hGu, ← hGv] at hdn ⊢
    rw [← hy0]
    have key : a * (((if ascB k u then 0 else Gu * Fv) + (if ascB k v then 0 else Fu * Gv) + (if ascB k u then 0 else if ascB k v then 0 else (y0 + a) * (Gu * Gv) - y0 * (Gu * Gv))) - S) = 0 := by
      rw [Int.mul_sub, ← hdn]
      cases ascB k u <;> cases ascB k v <;> simp <;> grind
    have := cancel hne key
    omega
  have := r'.uniq hy h1 h4 hd q hw
  unfold dnC at this
  rw [if_pos ha] at this
  exact this

/-! ### how great the numbers are -/
def muT (k : Nat) (w x : List Int) : Int := (((cvUp x (k + 1)).count w : Nat) : Int) - (((cvDn x (k + 1)).count w : Nat) : Int) - ((((cvUp x k).count w : Nat) : Int) - (((cvDn x k).count w : Nat) : Int))
def muTB (n : Nat) : Bool := (permsL n).all fun w => (List.range (n - 1)).all fun k => decide ((((permsL n).map fun x => (muT k w x).natAbs).sum) ≤ 8) && (permsL n).all fun x => decide (muT k w x = 0) || decide (lnN x < lnN w)
set_option maxRecDepth 100000 in
theorem muT_all : ∀ n : Fin 4, muTB (n.val + 1) = true := by decide +kernel
theorem muT_at (h1 : 1 ≤ n) (h4 : n ≤ 4) {w : List Int} (hw : P5 n w) {k : Nat} (hk : k + 1 < n) :
    (((permsL n).map fun x => (muT k w x).natAbs).sum ≤ 8) ∧ ∀ x, P5 n x → muT k w x = 0 ∨ lnN x < lnN w := by
  have := muT_all ⟨n - 1, by omega⟩
  rw [show (⟨n - 1, by omega⟩ : Fin 4).val + 1 = n by simp; omega] at this
  simp only [muTB, List.all_eq_true, Bool.and_eq_true, List.mem_range, decide_eq_true_eq, Bool.or_eq_true] at this
  obtain ⟨a, b⟩ := this w (((aL h1 h4).mem w).2 hw) k (by omega)
  exact ⟨a, fun x hx => b x (((aL h1 h4).mem x).2 hx)⟩
theorem mu_diff {k : Nat} (c : List Int → Int) (w : List Int) : muC n ys (k + 1) c w - muC n ys k c w = df ys w k * c w + sumF (fun x => c x * muT k w x) (permsL n) := by
  unfold muC
  rw [df_y]
  have e : sumF (fun x => c x * muT k w x) (permsL n) = sumF (fun x => c x * (((cvUp x (k + 1)).count w : Nat) : Int)) (permsL n) - sumF (fun x => c x * (((cvDn x (k + 1)).count w : Nat) : Int)) (permsL n) -
      (sumF (fun x => c x * (((cvUp x k).count w : Nat) : Int)) (permsL n) - sumF (fun x => c x * (((cvDn x k).count w : Nat) : Int)) (permsL n)) := by
    rw [← sumF_sub, ← sumF_sub, ← sumF_sub]
    refine sumF_congr fun x _ => ?_
    unfold muT
    grind
  rw [e]
  grind
theorem sumF_abs {c t : List Int → Int} {B : Nat} : ∀ {L : List (List Int)}, (∀ x ∈ L, t x = 0 ∨ (c x).natAbs ≤ B) → (sumF (fun x => c x * t x) L).natAbs ≤ B * (L.map fun x => (t x).natAbs).sum
  | [], _ => by simp [sumF]
  | x :: L, h => by
    rw [sumF_cons, List.map_cons, List.sum_cons, Nat.mul_add]
    have ih := sumF_abs (L := L) fun y hy => h y (List.mem_cons_of_mem _ hy)
    have : (c x * t x).natAbs ≤ B * (t x).natAbs := by
      rw [Int.natAbs_mul]
      rcases h x List.mem_cons_self with h | h
      · rw [h]; simp
      · exact Nat.mul_le_mul_right _ h
    omega
theorem df_abs {w : List Int} (hy9 : ∀ x ∈ ys, -9 ≤ x ∧ x ≤ 9) (k : Nat) : (df ys w k).natAbs ≤ 18 := by
  have yr : ∀ i : Nat, -9 ≤ ys.getD i 0 ∧ ys.getD i 0 ≤ 9 := fun i => by
    by_cases hi : i < ys.length
    · exact hy9 _ (getD_mem hi)
    · rw [List.getD_eq_getElem?_getD, List.getElem?_eq_none (by omega)]; simp
  unfold df
  have a := yr (w.getD (k + 1) 0).toNat
  have b := yr (w.getD k 0).toNat
  omega
theorem prod_bound (hy : ys.length = n) (h1 : 1 ≤ n) (h4 : n ≤ 4) (hd : DstY n ys) (hy9 : ∀ x ∈ ys, -9 ≤ x ∧ x ≤ 9) : ∀ (t : Nat) (w u v : List Int) (c : List Int → Int), lnN w = t → P5 n w → P5 n u → P5 n v →
    Ex n ys (fun p => FW n ys u p * FW n ys v p) c → (c w).natAbs ≤ 28 ^ t := by
  intro t
  induction t using Nat.strongRecOn with
  | _ t ih =>
    intro w u v c ht hw hu hv h
    by_cases h0 : lnN w = 0
    · have hi := id_of_len hw h0
      have : FW n ys u w * FW n ys v w = _ := h w hw
      rw [sum_at hy h1 h4 hw fun x _ hl => by omega, hi, FW_id hy h1 hu, FW_id hy h1 hv, FW_id hy h1 (by rw [← hi]; exact hw), if_pos rfl, ← hi] at this
      have e : c w = (if w = u then 1 else 0) * (if w = v then 1 else 0) := by omega
      have : 1 ≤ 28 ^ t := Nat.one_le_pow _ _ (by omega)
      rw [e]
      by_cases a : w = u <;> by_cases b : w = v <;> simp [a, b] <;> omega
    · obtain ⟨k, hk, hdn⟩ : ∃ k, k + 1 < n ∧ ascB k w = false := ((blid_at hw).2).resolve_left h0
      have hl := len_desc hw hk hdn
      have hx := hw.sw hk
      have hax := (hw.desc hk hdn).2
      obtain ⟨c1, c2, c3, e1, e2, e3, hst⟩ := prod_step hy h1 h4 hd hu hv h hk
      have := hst _ hx hax
      rw [sw_sw (by have := hw.len; omega), mu_diff] at this
      have b1 := ih _ (by omega) _ _ _ _ rfl hx (hu.sw hk) hv e1
      have b2 := ih _ (by omega) _ _ _ _ rfl hx hu (hv.sw hk) e2
      have b3 := ih _ (by omega) _ _ _ _ rfl hx (hu.sw hk) (hv.sw hk) e3
      have m := muT_at h1 h4 hx hk
      have b4 := sumF_abs (c := c3) (t := muT k (sw k w)) (B := 28 ^ lnN (sw k w)) (L := permsL n) fun x hx' => by
        have hx5 := ((aL h1 h4).mem x).1 hx'
        rcases m.2 x hx5 with h | h
        · exact .inl h
        · exact .inr (Nat.le_trans (ih _ (by omega) _ _ _ _ rfl hx5 (hu.sw hk) (hv.sw hk) e3) (Nat.pow_le_pow_right (by omega) (by omega)))
      have b5 : 28 ^ lnN (sw k w) * ((permsL n).map fun x => (muT k (sw k w) x).natAbs).sum ≤ 28 ^ lnN (sw k w) * 8 := Nat.mul_le_mul_left _ m.1
      have d1 := df_abs (w := sw k w) hy9 k
      have b6 : (df ys (sw k w) k * c3 (sw k w)).natAbs ≤ 18 * 28 ^ lnN (sw k w) := by rw [Int.natAbs_mul]; exact Nat.mul_le_mul d1 b3
      have hp : 28 ^ t = 28 * 28 ^ lnN (sw k w) := by rw [← ht, ← hl, Nat.pow_succ, Nat.mul_comm]
      rw [hp]
      obtain ⟨X, hX⟩ : ∃ X, X = 28 ^ lnN (sw k w) := ⟨_, rfl⟩
      rw [← hX] at b1 b2 b4 b5 b6 ⊢
      obtain ⟨S, hS⟩ : ∃ S, S = sumF (fun x => c3 x * muT k (sw k w) x) (permsL n) := ⟨_, rfl⟩
      obtain ⟨D, hD⟩ : ∃ D, D = df ys (sw k w) k * c3 (sw k w) := ⟨_, rfl⟩
      rw [← hS] at b4 this
      rw [← hD] at b6 this
      cases ha : ascB k u <;> cases hb : ascB k v <;> simp only [ha, hb, if_true, if_false, Bool.false_eq_true] at this <;> omega

end Go.Proofs.YtnpghgpejnlebaaGreat
