/-
  Values of permutations' polynomials at numbers that a permutation picks: the recursion, where they vanish, and the products over inversions. Plain.
  The sum over all ways to divide a permutation, reckoned for permutations of at most four. Plain.
  How great the numbers of these polynomials are; the sum that the law FnCauchy asks for. Plain.
  staircase, schubert, SchubertPoly, DoubleSchubert.
  EvaluatePoly.
-/
import Derived.Test.YtllmhicmikpfeaaJ13
import Derived.Test.YtllmhicmikpfeaaJ14
import Derived.Test.YtllmhicmikpfeaaJ10
import Derived.Test.YtllmhicmikpfeaaJ9
import Derived.Test.YtllmhicmikpfeaaJ12
import Derived.Test.YtllmhicmikpfeaaJ6
namespace Go.Proofs.Ytllmhicmikpfeaa
set_option linter.all false
set_option maxRecDepth 100000
open Go.RowKit

/-! ### at all numbers -/
theorem abs_le_sum {l : List Int} {i : Nat} : (l.getD i 0).natAbs ≤ (l.map Int.natAbs).sum := by
  induction l generalizing i with
  | nil => simp
  | cons x l ih =>
    cases i with
    | zero => simp
    | succ i =>
      have := ih (i := i)
      simp only [List.getD_cons_succ, List.map_cons, List.sum_cons]
      omega
/-- numbers moved apart by multiples of N -/
def mvd (N : Int) (m : Nat) (l : List Int) : List Int := (List.range m).map fun (i : Nat) => l.getD i 0 + N * (i : Int)
theorem mvd_length (N : Int) (m : Nat) (l : List Int) : (mvd N m l).length = m := by simp [mvd]
theorem mvd_getD {N : Int} {m : Nat} {l : List Int} {i : Nat} (h : i < m) : (mvd N m l).getD i 0 = l.getD i 0 + N * (i : Int) := by simp [mvd, List.getD_eq_getElem?_getD, h]
theorem mvd_mg {N : Int} {m : Nat} {l : List Int} (hl : l.length = m) (i : Nat) : Mg N (l.getD i 0) ((mvd N m l).getD i 0) := by
  by_cases h : i < m
  · rw [mvd_getD h]; exact ⟨-(i : Int), by rw [Int.mul_neg]; omega⟩
  · have a : l.getD i 0 = 0 := by rw [List.getD_eq_getElem?_getD, List.getElem?_eq_none (by omega)]; rfl
    have b : (mvd N m l).getD i 0 = 0 := by rw [List.getD_eq_getElem?_getD, List.getElem?_eq_none (by rw [mvd_length]; omega)]; rfl
    rw [a, b]; exact Mg.refl _ _
theorem mvd_ne {N : Int} {m : Nat} {l : List Int} (hN : 2 * ((l.map Int.natAbs).sum : Int) < N) {i j : Nat} (hij : i < j) (hj : j < m) : (mvd N m l).getD i 0 ≠ (mvd N m l).getD j 0 := by
  rw [mvd_getD (by omega), mvd_getD hj]
  intro e
  have a := abs_le_sum (l := l) (i := i)
  have b := abs_le_sum (l := l) (i := j)
  have c := Int.mul_le_mul_of_nonneg_left (show (1 : Int) ≤ (j : Int) - (i : Int) by omega) (show 0 ≤ N by omega)
  rw [Int.mul_one, Int.mul_sub] at c
  omega
theorem EV_mg {N : Int} {T : Pl} {v x x' : List Int} (h : ∀ i, Mg N (x.getD i 0) (x'.getD i 0)) : Mg N (EV T v x) (EV T v x') := Ev_mg (mono_mg h) _
theorem sw_mg {N : Int} {x x' : List Int} {k : Nat} (hk : k + 1 < x.length) (hk' : k + 1 < x'.length) (h : ∀ i, Mg N (x.getD i 0) (x'.getD i 0)) (i : Nat) : Mg N ((sw k x).getD i 0) ((sw k x').getD i 0) := by
  rw [sw_getD hk, sw_getD hk']
  split
  · exact h k
  · split
    · exact h (k + 1)
    · exact h i
theorem way_all {T : Pl} (hT : Pos7 T) {n : Nat} {v : List Int} (hv : P5 n v) {k : Nat} (hk : k + 1 < n) (ha : ascB k v = true) {x : List Int} (hx : x.length = 7) : WayAt T n v k x := by
  have h5 := hv.le
  unfold WayAt
  have key : (x.getD k 0 - x.getD (k + 1) 0) * EV T v x - (EV T (sw k v) x - EV T (sw k v) (sw k x)) = 0 := by
    refine Mg.zero (2 * ((x.map Int.natAbs).sum : Int)) fun N hN hN0 => ?_
    have hm := mvd_mg (N := N) hx
    have hl := mvd_length N 7 x
    have hd : Dst n (mvd N 7 x) := ⟨hl, fun i j hij hj => mvd_ne hN hij (by omega)⟩
    have hw := way_dst hT (upN v) v hv rfl k hk ha _ hd
    unfold WayAt at hw
    have e : (mvd N 7 x).getD k 0 - (mvd N 7 x).getD (k + 1) 0 = (mvd N 7 x).getD k 0 - (mvd N 7 x).getD (k + 1) 0 := rfl
    have := (((hm k).sub (hm (k + 1))).mul (EV_mg (T := T) (v := v) hm)).sub ((EV_mg (T := T) (v := sw k v) hm).sub (EV_mg (T := T) (v := sw k v) (sw_mg (x := x) (x' := mvd N 7 x) (k := k) (by omega) (by omega) hm)))
    rw [hw, Int.sub_self] at this
    exact this
  omega
/-! ### at the numbers that a permutation picks -/
theorem pickL_length (w ys : List Int) : (pickL w ys).length = 7 := by simp [pickL]
theorem pickL_at {w ys : List Int} {i : Nat} (h : i < w.length) (h7 : w.length ≤ 7) : (pickL w ys).getD i 0 = ys.getD (w.getD i 0).toNat 0 := by
  rw [pickL_getD _ _ (by omega)]; unfold pick; rw [if_pos h]
theorem pickL_sw {w ys : List Int} {k : Nat} (hk : k + 1 < w.length) (h7 : w.length ≤ 7) : pickL (sw k w) ys = sw k (pickL w ys) := by
  refine getD_eq_list (by rw [sw_length, pickL_length, pickL_length]) fun t ht => ?_
  rw [pickL_length] at ht
  have hk7 : k + 1 < (pickL w ys).length := by rw [pickL_length]; omega
  rw [sw_getD hk7, pickL_at (by omega) h7, pickL_at hk h7, pickL_getD _ _ ht, pickL_getD _ _ ht]
  unfold pick
  rw [sw_length, sw_getD hk]
  by_cases h1 : t = k + 1
  · rw [if_pos h1, if_pos h1, if_pos (by omega)]
  · by_cases h2 : t = k
    · rw [if_neg h1, if_pos h2, if_neg h1, if_pos h2, if_pos (by omega)]
    · rw [if_neg h1, if_neg h2, if_neg h1, if_neg h2]
theorem pickL_mg {N : Int} {w ys ys' : List Int} (h : ∀ i, Mg N (ys.getD i 0) (ys'.getD i 0)) (i : Nat) : Mg N ((pickL w ys).getD i 0) ((pickL w ys').getD i 0) := by
  by_cases h7 : i < 7
  · rw [pickL_getD _ _ h7, pickL_getD _ _ h7]
    unfold pick
    split
    · exact h _
    · exact Mg.refl _ _
  · have a : ∀ y, (pickL w y).getD i 0 = 0 := fun y => by rw [List.getD_eq_getElem?_getD, List.getElem?_eq_none (by rw [pickL_length]; omega)]; rfl
    rw [a, a]; exact Mg.refl _ _
/-- the value of v at w -/
def FW (n : Nat) (ys v w : List Int) : Int := EV (topI n ys n) v (pickL w ys)
theorem FW_mg {N : Int} {n : Nat} {ys ys' v w : List Int} (h : ∀ i, Mg N (ys.getD i 0) (ys'.getD i 0)) : Mg N (FW n ys v w) (FW n ys' v w) :=
  ((PMg.low (PMg.top h n n) 10 v) _).trans (Ev_mg (mono_mg (pickL_mg h)) _)
def df (ys w : List Int) (k : Nat) : Int := ys.getD (w.getD (k + 1) 0).toNat 0 - ys.getD (w.getD k 0).toNat 0
theorem FW_rec {n : Nat} {ys v w : List Int} (hv : P5 n v) (hw : P5 n w) {k : Nat} (hk : k + 1 < n) :
    FW n ys v (sw k w) = FW n ys v w + (if ascB k v then 0 else df ys w k * FW n ys (sw k v) w) := by
  have hT := Pos7.top n ys n
  have h5 := hv.le
  have hl := hw.len
  unfold FW
  rw [pickL_sw (by omega) (by omega)]
  have hx7 := pickL_length w ys
  cases ha : ascB k v with
  | true =>
    have a := way_all hT hv hk ha hx7
    have b := way_all hT hv hk ha (x := sw k (pickL w ys)) (by rw [sw_length, hx7])
    rw [a.sym (by omega) b]; simp
  | false =>
    have hd := hv.desc hk ha
    have a := way_all hT (hv.sw hk) hk hd.2 hx7
    unfold WayAt at a
    rw [sw_sw (by have := hv.len; omega), pickL_at (by omega) (by omega), pickL_at (by omega) (by omega)] at a
    unfold df
    rw [if_neg (by decide)]
    obtain ⟨A, hA⟩ : ∃ A, A = ys.getD (w.getD k 0).toNat 0 := ⟨_, rfl⟩
    obtain ⟨B, hB⟩ : ∃ B, B = ys.getD (w.getD (k + 1) 0).toNat 0 := ⟨_, rfl⟩
    rw [← hA, ← hB] at a ⊢
    rw [show B - A = -(A - B) by omega, Int.neg_mul, a]
    omega
theorem FW_way {n : Nat} {ys v w : List Int} (hv : P5 n v) (hw : P5 n w) {k : Nat} (hk : k + 1 < n) (ha : ascB k v = true) :
    df ys w k * FW n ys v w = FW n ys (sw k v) (sw k w) - FW n ys (sw k v) w := by
  have hvs := hv.sw hk
  have := FW_rec (ys := ys) hvs hw hk
  rw [(hv.asc hk ha).2, sw_sw (by have := hv.len; omega)] at this
  simp at this
  omega

/-! ### products -/
def prodP (ys : List Int) : List (Int × Int) → Int
  | [] => 1
  | p :: l => (ys.getD p.1.toNat 0 - ys.getD p.2.toNat 0) * prodP ys l
theorem prodP_append (ys : List Int) (a b : List (Int × Int)) : prodP ys (a ++ b) = prodP ys a * prodP ys b := by
  induction a with
  | nil => simp [prodP]
  | cons p l ih => rw [List.cons_append, prodP, prodP, ih, Int.mul_assoc]
theorem prodP_perm (ys : List Int) {a b : List (Int × Int)} (h : a.Perm b) : prodP ys a = prodP ys b := by
  induction h with
  | nil => rfl
  | cons x _ ih => rw [prodP, prodP, ih]
  | swap x y l => simp only [prodP]; rw [Int.mul_left_comm]
  | trans _ _ a b => exact a.trans b
theorem prodP_zero (ys : List Int) {l : List (Int × Int)} (h : ∃ p ∈ l, p.1 = p.2) : prodP ys l = 0 := by
  obtain ⟨p, hp, e⟩ := h
  induction l with
  | nil => cases hp
  | cons q l ih =>
    rw [prodP]
    rcases List.mem_cons.1 hp with rfl | hp
    · rw [e, Int.sub_self, Int.zero_mul]
    · rw [ih hp, Int.mul_zero]
theorem prodP_mg {N : Int} {ys ys' : List Int} (h : ∀ i, Mg N (ys.getD i 0) (ys'.getD i 0)) : ∀ l, Mg N (prodP ys l) (prodP ys' l)
  | [] => Mg.refl _ _
  | p :: l => ((h _).sub (h _)).mul (prodP_mg h l)
theorem mono_rs {x e : List Int} {i : Nat} (hi : i < 7) (he : e.length = 7) (hp : ∀ a ∈ e, (0 : Int) ≤ a) (hx : x.length = 7) : mono x (rsE i e) = x.getD i 0 * mono x e := by
  obtain ⟨a0, a1, a2, a3, a4, a5, a6, rfl⟩ := list7 he
  obtain ⟨x0, x1, x2, x3, x4, x5, x6, rfl⟩ := list7 hx
  have h0 := hp a0 (by simp)
  have h1 := hp a1 (by simp)
  have h2 := hp a2 (by simp)
  have h3 := hp a3 (by simp)
  have h4 := hp a4 (by simp)
  have h5 := hp a5 (by simp)
  have h6 := hp a6 (by simp)
  have t : ∀ a : Int, 0 ≤ a → (a + 1).toNat = a.toNat + 1 := fun a h => by omega
  have : i = 0 ∨ i = 1 ∨ i = 2 ∨ i = 3 ∨ i = 4 ∨ i = 5 ∨ i = 6 := by omega
  rcases this with rfl | rfl | rfl | rfl | rfl | rfl | rfl <;> (simp [mono, monoK, rsE, t _ h0, t _ h1, t _ h2, t _ h3, t _ h4, t _ h5, t _ h6, Int.pow_succ]; ac_rfl)
theorem rs_val {x : List Int} {i : Nat} (hi : i < 7) (hx : x.length = 7) : ∀ {P : Pl}, Pos7 P → Ev (rsP i P) (mono x) = x.getD i 0 * Ev P (mono x)
  | [], _ => by simp [rsP, Ev]
  | p :: l, h => by
    have ih := rs_val hi hx (P := l) fun q hq => h q (List.mem_cons_of_mem _ hq)
    have hp := h p List.mem_cons_self
    show p.2 * mono x (rsE i p.1) + Ev (rsP i l) (mono x) = _ * (p.2 * mono x p.1 + Ev l (mono x))
    rw [ih, mono_rs hi hp.1 hp.2 hx, Int.mul_add, Int.mul_left_comm]
/-- the factors of the longest permutation's polynomial at w -/
def tpJ (w : List Int) (i : Nat) : Nat → List (Int × Int)
  | 0 => []
  | m + 1 => (w.getD i 0, (m : Int)) :: tpJ w i m
def tpI (n : Nat) (w : List Int) : Nat → List (Int × Int)
  | 0 => []
  | i + 1 => tpJ w i (n - 1 - i) ++ tpI n w i
theorem top_val {n : Nat} {w ys : List Int} (hl : w.length = n) (h5 : n ≤ 5) : ∀ i, i ≤ n → Ev (topI n ys i) (mono (pickL w ys)) = prodP ys (tpI n w i)
  | 0, _ => by simp [topI, tpI, Ev, prodP, mono, monoK]
  | i + 1, hi => by
    rw [topI, tpI, prodP_append]
    have hx := pickL_length w ys
    have : ∀ m, Ev (topJ i ys m (topI n ys i)) (mono (pickL w ys)) = prodP ys (tpJ w i m) * prodP ys (tpI n w i) ∧ Pos7 (topJ i ys m (topI n ys i)) := fun m => by
      induction m with
      | zero => exact ⟨by rw [topJ, tpJ, prodP, Int.one_mul]; exact top_val hl h5 i (by omega), Pos7.top n ys i⟩
      | succ m ih =>
        refine ⟨?_, (ih.2.rs i).append (ih.2.scl _)⟩
        rw [topJ, tpJ, prodP, Ev_append, Ev_scl, Ev_mul, rs_val (by omega) hx ih.2, ih.1, pickL_at (by omega) (by omega)]
        simp only [Int.toNat_natCast]
        obtain ⟨A, hA⟩ : ∃ A, A = prodP ys (tpJ w i m) := ⟨_, rfl⟩
        obtain ⟨B, hB⟩ : ∃ A, A = prodP ys (tpI n w i) := ⟨_, rfl⟩
        rw [← hA, ← hB]
        grind
    exact (this _).1
/-- the inversions, as pairs of numbers -/
def invs (v : List Int) : List (Int × Int) := (List.range v.length).flatMap fun j => ((List.range j).filter fun i => decide (v.getD j 0 < v.getD i 0)).map fun i => (v.getD i 0, v.getD j 0)
def vanB (w : List Int) : Bool := if upN w = 0 then (tpI w.length w w.length).isPerm (invs w) && (fasc w).isNone && decide (w = (idL w.length).reverse) else (tpI w.length w w.length).any (fun p => decide (p.1 = p.2)) && (fasc w).isSome
def invB (v : List Int) : Bool := (List.range (v.length - 1)).all fun k => !ascB k v || (invs (sw k v)).isPerm ((v.getD (k + 1) 0, v.getD k 0) :: invs v)
set_option maxRecDepth 100000 in
theorem van_all : all5 vanB = true := by decide +kernel
set_option maxRecDepth 100000 in
theorem inv_all : all5 invB = true := by decide +kernel
theorem van_0 {n : Nat} {w : List Int} (hw : P5 n w) (h0 : upN w = 0) : (tpI n w n).Perm (invs w) ∧ fasc w = none ∧ w = (idL n).reverse := by
  have := all5_at van_all hw.ok (by have := hw.len; have := hw.le; omega)
  unfold vanB at this
  rw [if_pos h0, hw.len] at this
  simpa [List.isPerm_iff, and_assoc] using this
theorem van_1 {n : Nat} {w : List Int} (hw : P5 n w) (h0 : upN w ≠ 0) : (∃ p ∈ tpI n w n, p.1 = p.2) ∧ ∃ k, fasc w = some k := by
  have := all5_at van_all hw.ok (by have := hw.len; have := hw.le; omega)
  unfold vanB at this
  rw [if_neg h0, hw.len] at this
  simp only [Bool.and_eq_true, List.any_eq_true, decide_eq_true_eq, Option.isSome_iff_exists] at this
  exact this
theorem inv_sw {n : Nat} {v : List Int} (hv : P5 n v) {k : Nat} (hk : k + 1 < n) (ha : ascB k v = true) : (invs (sw k v)).Perm ((v.getD (k + 1) 0, v.getD k 0) :: invs v) := by
  have := all5_at inv_all hv.ok (by have := hv.len; have := hv.le; omega)
  simp only [invB, List.all_eq_true, List.mem_range] at this
  have := this k (by have := hv.len; omega)
  rw [ha] at this
  simpa [List.isPerm_iff] using this
def DstY (n : Nat) (ys : List Int) : Prop := ∀ i j, i < n → j < n → i ≠ j → ys.getD i 0 ≠ ys.getD j 0
theorem df_ne {n : Nat} {ys w : List Int} (hy : DstY n ys) (hw : P5 n w) {k : Nat} (hk : k + 1 < n) : df ys w k ≠ 0 := by
  obtain ⟨a, ha, han⟩ := hw.rng (j := k) (by omega)
  obtain ⟨b, hb, hbn⟩ := hw.rng (j := k + 1) hk
  unfold df
  rw [ha, hb, Int.toNat_natCast, Int.toNat_natCast]
  have hne : b ≠ a := fun e => by
    have hp := hw.ok
    simp only [permOk, decide_eq_true_eq] at hp
    have := List.pairwise_iff_getElem.1 hp.2.2.2 k (k + 1) (by have := hw.len; omega) (by have := hw.len; omega) (by omega)
    rw [← getD_lt, ← getD_lt, ha, hb, e] at this
    exact this rfl
  have := hy b a hbn han hne
  omega
theorem sw_inj {n : Nat} {v w : List Int} (hv : P5 n v) (hw : P5 n w) {k : Nat} (hk : k + 1 < n) (h : sw k w = sw k v) : w = v := by
  rw [← sw_sw (x := w) (k := k) (by have := hw.len; omega), h, sw_sw (by have := hv.len; omega)]
theorem up_near {n : Nat} {w : List Int} (hw : P5 n w) {k : Nat} (hk : k + 1 < n) : upN w ≤ upN (sw k w) + 1 := by
  cases ha : ascB k w with
  | true => have := (hw.asc hk ha).1; omega
  | false => have := (hw.desc hk ha).1; omega
theorem van_dst {n : Nat} {ys : List Int} (hy : DstY n ys) : ∀ (m : Nat) (v : List Int), P5 n v → upN v = m → (∀ w, P5 n w → m ≤ upN w → w ≠ v → FW n ys v w = 0) ∧ FW n ys v v = prodP ys (invs v) := by
  intro m
  induction m with
  | zero =>
    intro v hv hm
    obtain ⟨h1, h2, h3⟩ := van_0 hv hm
    have hval : ∀ w, P5 n w → FW n ys v w = prodP ys (tpI n w n) := fun w hw => by
      unfold FW EV
      rw [show lowP 10 v (topI n ys n) = topI n ys n by rw [lowP, h2]]
      exact top_val hw.len hw.le n (Nat.le_refl _)
    refine ⟨fun w hw _ hne => ?_, by rw [hval v hv, prodP_perm ys h1]⟩
    rw [hval w hw]
    refine prodP_zero ys (van_1 hw fun h0 => hne ?_).1
    rw [h3, (van_0 hw h0).2.2]
  | succ m ih =>
    intro v hv hm
    obtain ⟨_, k, hk⟩ := van_1 hv (by omega)
    have hkl := fasc_lt hk
    have hkn : k + 1 < n := by have := hv.len; omega
    have ha : ascB k v = true := decide_eq_true hkl.2.1
    have hu := hv.asc hkn ha
    obtain ⟨z1, z2⟩ := ih (sw k v) (hv.sw hkn) (by omega)
    refine ⟨fun w hw hle hne => ?_, ?_⟩
    · have a := FW_way (ys := ys) hv hw hkn ha
      have b := up_near hw hkn
      rw [z1 w hw (by omega) (fun e => by rw [e] at hle; omega), z1 (sw k w) (hw.sw hkn) (by omega) (fun e => hne (sw_inj hv hw hkn e)), Int.sub_self] at a
      exact cancel (df_ne hy hw hkn) a
    · have a := FW_way (ys := ys) hv hv hkn ha
      rw [z2, z1 v hv (by omega) (fun e => by rw [← e] at hu; omega), prodP_perm ys (inv_sw hv hkn ha), prodP] at a
      have b := df_ne hy hv hkn
      have : df ys v k * (FW n ys v v - prodP ys (invs v)) = 0 := by
        rw [Int.mul_sub, a]
        simp only [df]
        omega
      have := cancel b this
      omega
theorem mvd_dst {N : Int} {n : Nat} {ys : List Int} (hN : 2 * ((ys.map Int.natAbs).sum : Int) < N) : DstY n (mvd N n ys) := fun i j hi hj hne => by
  rcases Nat.lt_or_gt_of_ne hne with h | h
  · exact mvd_ne hN h hj
  · exact fun e => mvd_ne hN h hi e.symm
theorem FW_zero {n : Nat} {ys v w : List Int} (hv : P5 n v) (hw : P5 n w) (hy : ys.length = n) (hle : upN v ≤ upN w) (hne : w ≠ v) : FW n ys v w = 0 :=
  Mg.zero (2 * ((ys.map Int.natAbs).sum : Int)) fun N hN _ => by
    have a := FW_mg (n := n) (v := v) (w := w) (mvd_mg (N := N) hy)
    rw [(van_dst (mvd_dst hN) _ v hv rfl).1 w hw hle hne] at a
    exact a
theorem FW_self {n : Nat} {ys v : List Int} (hv : P5 n v) (hy : ys.length = n) : FW n ys v v = prodP ys (invs v) := by
  have : FW n ys v v - prodP ys (invs v) = 0 :=
    Mg.zero (2 * ((ys.map Int.natAbs).sum : Int)) fun N hN _ => by
      have a := (FW_mg (n := n) (v := v) (w := v) (mvd_mg (N := N) hy)).sub (prodP_mg (mvd_mg (N := N) hy) (invs v))
      rw [(van_dst (mvd_dst hN) _ v hv rfl).2, Int.sub_self] at a
      exact a
  omega

/-! ### the reference's sums -/
theorem sumS_snoc {n : Nat} {ys : List Int} {k : Nat} (hk : k + 1 < n) : ∀ (r : List Nat) (v u h : List Int), P5 n v → P5 n h → u.length = n → (∀ j ∈ r, j + 1 < n) →
    sumS v ys (r ++ [k]) u h = sumS v ys r u h + (if ascB k v then 0 else df ys (play r u) k * sumS (sw k v) ys r u h)
  | [], v, u, h, hv, hh, hu, _ => by
    simp only [List.nil_append, sumS, play, List.foldl_nil, df]
    congr 1
    cases ha : ascB k h with
    | true =>
      have a := (hh.asc hk ha).2
      by_cases e : sw k h = v
      · have e2 : h = sw k v := by rw [← e, sw_sw (by have := hh.len; omega)]
        rw [← e, a, sw_sw (by have := hh.len; omega)]
        simp
      · have e2 : ¬ h = sw k v := fun e2 => e (by rw [e2, sw_sw (by have := hv.len; omega)])
        simp [e, e2]
    | false =>
      cases hb : ascB k v with
      | true => simp
      | false =>
        have e2 : ¬ h = sw k v := fun e2 => by
          have := (hv.desc hk hb).2
          rw [← e2, ha] at this
          cases this
        simp [e2]
  | j :: r, v, u, h, hv, hh, hu, hr => by
    have hj : j + 1 < n := hr j List.mem_cons_self
    have hr' : ∀ j ∈ r, j + 1 < n := fun i hi => hr i (List.mem_cons_of_mem _ hi)
    have i1 := sumS_snoc (ys := ys) hk r v (sw j u) h hv hh (by rw [sw_length]; exact hu) hr'
    have i2 := sumS_snoc (ys := ys) hk r v (sw j u) (sw j h) hv (hh.sw hj) (by rw [sw_length]; exact hu) hr'
    rw [List.cons_append, sumS, i1, i2, sumS, sumS]
    show _ = _ + (if ascB k v then 0 else df ys (play r (sw j u)) k * _)
    cases ascB k v <;> cases ascB j h <;> simp <;> grind
theorem play_p5 {n : Nat} : ∀ (r : List Nat) (u : List Int), P5 n u → (∀ j ∈ r, j + 1 < n) → P5 n (play r u)
  | [], u, h, _ => h
  | j :: r, u, h, hr => play_p5 r (sw j u) (h.sw (hr j List.mem_cons_self)) fun i hi => hr i (List.mem_cons_of_mem _ hi)
theorem play_snoc (r : List Nat) (k : Nat) (u : List Int) : play (r ++ [k]) u = sw k (play r u) := by simp [play]
theorem id_most {n : Nat} {v : List Int} (hv : P5 n v) (h1 : 1 ≤ n) : upN v ≤ upN (idL n) ∧ lnN (idL n) = 0 ∧ invs (idL n) = [] := by
  have h5 := hv.le
  have a := (wrd_at hv).2.2.2
  have b := (wrd_at (P5.id h1 h5)).2.2.2
  have c : ∀ n : Fin 6, lnN (idL n) = 0 ∧ invs (idL n) = [] := by decide
  have d := c ⟨n, by omega⟩
  simp only at d
  refine ⟨by omega, d⟩
theorem sum_val {n : Nat} {ys : List Int} (hy : ys.length = n) (h1 : 1 ≤ n) (h5 : n ≤ 5) : ∀ (m : Nat) (r : List Nat) (v : List Int), r.length = m → P5 n v → (∀ j ∈ r, j + 1 < n) → FW n ys v (play r (idL n)) = sumS v ys r (idL n) (idL n) := by
  intro m
  induction m with
  | zero =>
    intro r v hr hv _
    obtain rfl := List.eq_nil_of_length_eq_zero hr
    have hi := P5.id h1 h5
    have a := id_most hv h1
    show FW n ys v (idL n) = _
    rw [sumS]
    by_cases e : idL n = v
    · rw [if_pos e, ← e, FW_self hi hy, a.2.2]; rfl
    · rw [if_neg e]
      exact FW_zero hv hi hy a.1 e
  | succ m ih =>
    intro r v hr hv hrk
    have hne : r ≠ [] := fun e => by rw [e] at hr; cases hr
    obtain ⟨r', k, rfl⟩ : ∃ r' k, r = r' ++ [k] := ⟨r.dropLast, r.getLast hne, (List.dropLast_concat_getLast hne).symm⟩
    have hk : k + 1 < n := hrk k (by simp)
    have hrk' : ∀ j ∈ r', j + 1 < n := fun j hj => hrk j (by simp [hj])
    have hl : r'.length = m := by simpa using hr
    have hi := P5.id h1 h5
    rw [play_snoc, FW_rec hv (play_p5 r' _ hi hrk') hk, sumS_snoc hk r' v _ _ hv hi hi.len hrk', ih r' v hl hv hrk', ih r' (sw k v) hl (hv.sw hk) hrk']
/-- the two ways to reckon a value agree -/
theorem loc_law {n : Nat} {v w ys : List Int} (hv : P5 n v) (hw : P5 n w) (hy : ys.length = n) (h1 : 1 ≤ n) : Ev (dblP v ys) (mono (pickL w ys)) = sumS v ys (fstL w) (idL n) (idL n) := by
  have h := wrd_at hw
  have := sum_val hy h1 hw.le _ (fstL w) v rfl hv h.2.1
  rw [h.1] at this
  rw [← this]
  unfold FW EV dblP
  rw [hv.len]

end Go.Proofs.Ytllmhicmikpfeaa

namespace Go.Proofs.Ytllmhicmikpfeaa
set_option linter.all false
set_option maxRecDepth 100000
open Go.RowKit Go.Maps Go.WideMaps

/-- the polynomial of the longest permutation -/
def stE (n : Nat) : List Int := (List.range 7).map fun (i : Nat) => ((n - 1 - i : Nat) : Int)
def stP (n : Nat) : Pl := [(stE n, 1)]
/-- a permutation's polynomial, and the same merged -/
def schP (u : List Int) : Pl := lowP 10 (trimL u) (stP (trimL u).length)
def symS (u : List Int) : Pl := lowN 10 (trimL u) (stP (trimL u).length)
theorem symS_eq (u : List Int) (g : List Int → Int) : Ev (symS u) g = Ev (schP u) g := low_N _ _ g

/-! ### products of a polynomial in the variables and one in the numbers' negatives -/
def m1L : List Int := [-1, -1, -1, -1, -1, -1, -1]
def tens (A B : Pl) : Pl := A.flatMap fun s => B.map fun t => (s.1 ++ t.1, s.2 * (t.2 * mono m1L t.1))
theorem m1_getD {j : Nat} (h : j < 7) : m1L.getD j 0 = -1 := by
  match j, h with
  | 0, _ | 1, _ | 2, _ | 3, _ | 4, _ | 5, _ | 6, _ => rfl
theorem mono_neg {y less e : List Int} (h : ∀ j, less.getD j 0 = -(y.getD j 0)) : ∀ k, k ≤ 7 → monoK less e k = monoK m1L e k * monoK y e k
  | 0, _ => rfl
  | k + 1, hk => by
    rw [monoK, monoK, monoK, mono_neg h k (by omega), h, m1_getD (by omega), show -(y.getD k 0) = (-1) * y.getD k 0 by omega, Int.mul_pow]
    grind
theorem Ev_tens_one {y less : List Int} (h : ∀ j, less.getD j 0 = -(y.getD j 0)) (x : List Int) (s : List Int × Int) (hs : s.1.length = 7) : ∀ B : Pl, Ev (B.map fun t => (s.1 ++ t.1, s.2 * (t.2 * mono m1L t.1))) (Hy (mono x) y) = s.2 * mono x s.1 * Ev B (mono less)
  | [] => by simp [Ev]
  | t :: B => by
    rw [List.map_cons, Ev_cons, Ev_cons, Ev_tens_one h x s hs B]
    have e1 : (s.1 ++ t.1).take 7 = s.1 := by rw [← hs, List.take_left']; rfl
    have e2 : (s.1 ++ t.1).drop 7 = t.1 := by rw [← hs, List.drop_left']; rfl
    have e3 : mono less t.1 = mono m1L t.1 * mono y t.1 := mono_neg h 7 (Nat.le_refl _)
    simp only [Hy, e1, e2, e3]
    grind
theorem Ev_tens {y less : List Int} (h : ∀ j, less.getD j 0 = -(y.getD j 0)) (x : List Int) : ∀ (A : Pl) (B : Pl), (∀ s ∈ A, s.1.length = 7) → Ev (tens A B) (Hy (mono x) y) = Ev A (mono x) * Ev B (mono less)
  | [], _, _ => by simp [Ev, tens]
  | s :: A, B, hA => by
    show Ev ((B.map fun t => (s.1 ++ t.1, s.2 * (t.2 * mono m1L t.1))) ++ tens A B) _ = _
    rw [Ev_append, Ev_tens_one h x s (hA s List.mem_cons_self) B, Ev_tens h x A B fun t ht => hA t (List.mem_cons_of_mem _ ht), Ev_cons]
    grind

/-! ### what is reckoned -/
/-- the other part -/
def othL (w u : List Int) : List Int := cmpL w (invL u)
def wayB (w u : List Int) : Bool := decide (lenP u + lenP (othL w u) = lenP w)
def rhsW (w : List Int) : Pl := (permsL w.length).flatMap fun u => if wayB w u then tens (symS u) (symS (invL (othL w u))) else []
def cauB (w : List Int) : Bool := decide (w.length = 5) || (decide (nrm (symW w ++ sclP (-1) (rhsW w)) = []) && (permsL w.length).all fun u => (symS u).all fun s => decide (s.1.length = 7))
theorem cau_all : all5 cauB = true := by decide +kernel

end Go.Proofs.Ytllmhicmikpfeaa

namespace Go.Proofs.Ytllmhicmikpfeaa
set_option linter.all false
set_option maxRecDepth 100000
open Go.RowKit Go.Maps Go.WideMaps

def degN (e : List Int) : Nat → Nat
  | 0 => 0
  | k + 1 => degN e k + (e.getD k 0).toNat
theorem pow_abs (x : Int) (h : x.natAbs ≤ 9) : ∀ k, (x ^ k).natAbs ≤ 9 ^ k
  | 0 => by simp
  | k + 1 => by
    rw [Int.pow_succ, Int.natAbs_mul, Nat.pow_succ]
    exact Nat.mul_le_mul (pow_abs x h k) h
theorem monoK_abs {y : List Int} (hy : ∀ j, (y.getD j 0).natAbs ≤ 9) (e : List Int) : ∀ k, (monoK y e k).natAbs ≤ 9 ^ degN e k
  | 0 => by simp [monoK, degN]
  | k + 1 => by
    rw [monoK, degN, Int.natAbs_mul, Nat.pow_add]
    exact Nat.mul_le_mul (monoK_abs hy e k) (pow_abs _ (hy k) _)
/-- a bound of the number at an exponent, the numbers being from -9 to 9 -/
def bnd (e : List Int) : Pl → Nat
  | [] => 0
  | t :: P => (if t.1.take 7 = e then t.2.natAbs * 9 ^ degN (t.1.drop 7) 7 else 0) + bnd e P
theorem bnd_le {y : List Int} (hy : ∀ j, (y.getD j 0).natAbs ≤ 9) (e : List Int) : ∀ P : Pl, (Ev P (Hy (ind e) y)).natAbs ≤ bnd e P
  | [] => by simp [Ev]
  | t :: P => by
    have ih := bnd_le hy e P
    rw [Ev_cons, bnd]
    refine Nat.le_trans (Int.natAbs_add_le _ _) (Nat.add_le_add ?_ ih)
    unfold Hy ind
    by_cases h : t.1.take 7 = e
    · rw [if_pos h, if_pos h, Int.one_mul, Int.natAbs_mul]
      exact Nat.mul_le_mul (Nat.le_refl _) (monoK_abs hy _ 7)
    · rw [if_neg h, if_neg h]; simp
theorem bnd_zero (e : List Int) : ∀ P : Pl, (∀ t ∈ P, t.1.take 7 ≠ e) → bnd e P = 0
  | [], _ => rfl
  | t :: P, h => by rw [bnd, if_neg (h t List.mem_cons_self), bnd_zero e P fun s hs => h s (List.mem_cons_of_mem _ hs)]
def bndB (P : Pl) : Bool := decide (P.length ≤ 600) && P.all fun t => decide (bnd (t.1.take 7) P ≤ 1000000)
theorem bndB_all {P : Pl} (h : bndB P = true) (e : List Int) : bnd e P ≤ 1000000 := by
  unfold bndB at h
  rw [Bool.and_eq_true, List.all_eq_true] at h
  by_cases hx : ∃ t ∈ P, t.1.take 7 = e
  · obtain ⟨t, ht, rfl⟩ := hx
    exact of_decide_eq_true (h.2 t ht)
  · rw [bnd_zero e P fun t ht e2 => hx ⟨t, ht, e2⟩]; omega
/-- what closed asks of a polynomial -/
structure Fit6 (P : Pl) (S : List (List Int)) : Prop where
  co : ∀ e, -1000000 ≤ cfP P e ∧ cfP P e ≤ 1000000
  sup : ∀ e, cfP P e ≠ 0 → e ∈ S
  len : S.length ≤ 600
theorem fit_of {P Q : Pl} {y : List Int} (hy : ∀ j, (y.getD j 0).natAbs ≤ 9) (h : ∀ g, Ev P g = Ev Q (Hy g y)) (hb : bndB Q = true) : Fit6 P (Q.map fun t => t.1.take 7) where
  co e := by
    have h1 := bnd_le hy e Q
    have h2 := bndB_all hb e
    have e1 : cfP P e = Ev Q (Hy (ind e) y) := h _
    rw [← e1] at h1
    omega
  sup e he := by
    have e1 : cfP P e = Ev Q (Hy (ind e) y) := h _
    have h1 := bnd_le hy e Q
    by_cases hx : ∃ t ∈ Q, t.1.take 7 = e
    · obtain ⟨t, ht, rfl⟩ := hx
      exact List.mem_map.2 ⟨t, ht, rfl⟩
    · rw [bnd_zero e Q fun t ht e2 => hx ⟨t, ht, e2⟩, ← e1] at h1
      omega
  len := by
    unfold bndB at hb
    rw [Bool.and_eq_true] at hb
    rw [List.length_map]
    exact of_decide_eq_true hb.1
theorem Hy_nil {g : List Int → Int} {P : Pl} (h : ∀ t ∈ P, t.1.length = 7) : Ev P g = Ev P (Hy g []) := by
  refine Ev_congr fun t ht => ?_
  unfold Hy
  have hl := h t ht
  rw [← hl, List.take_length, List.drop_length]
  simp [mono, monoK]
def bdB (w : List Int) : Bool := decide (w.length = 5) || (bndB (symW w) && bndB (symS w))
theorem bd_all : all5 bdB = true := by decide +kernel
section
variable {n : Nat} {w : List Int}
theorem bd_at (hw : P5 n w) (h4 : n ≤ 4) : bndB (symW w) = true ∧ bndB (symS w) = true := by
  have := all5_at bd_all hw.ok (by have := hw.len; omega)
  unfold bdB at this
  rw [Bool.or_eq_true, Bool.and_eq_true] at this
  rcases this with h | h
  · have := of_decide_eq_true h
    have := hw.len
    omega
  · exact h
theorem cau_at (hw : P5 n w) (h4 : n ≤ 4) : nrm (symW w ++ sclP (-1) (rhsW w)) = [] ∧ ∀ u ∈ permsL n, ∀ s ∈ symS u, s.1.length = 7 := by
  have := all5_at cau_all hw.ok (by have := hw.len; omega)
  unfold cauB at this
  rw [Bool.or_eq_true, Bool.and_eq_true, List.all_eq_true] at this
  rcases this with h | h
  · have := of_decide_eq_true h
    have := hw.len
    omega
  · refine ⟨of_decide_eq_true h.1, fun u hu s hs => ?_⟩
    rw [hw.len] at h
    have := h.2 u hu
    rw [List.all_eq_true] at this
    exact of_decide_eq_true (this s hs)
theorem sch7 (hw : P5 n w) (h4 : n ≤ 4) : ∀ s ∈ symS w, s.1.length = 7 := by
  have h := (cau_at hw h4).2 w
  have hm := perm_mem hw.ok (by rw [hw.len]; omega)
  rw [hw.len] at hm
  exact h hm
theorem dbl_fit (hw : P5 n w) (h4 : n ≤ 4) {y : List Int} (hy : ∀ j, (y.getD j 0).natAbs ≤ 9) : Fit6 (dblP w y) ((symW w).map fun t => t.1.take 7) :=
  fit_of hy (sym_eq (by have := hw.len; omega) y) (bd_at hw h4).1
theorem sch_fit (hw : P5 n w) (h4 : n ≤ 4) : Fit6 (schP w) ((symS w).map fun t => t.1.take 7) :=
  fit_of (y := []) (fun j => by simp) (fun g => by rw [← symS_eq, Hy_nil (sch7 hw h4)]) (bd_at hw h4).2
/-- the way of a permutation in the sum -/
def cauT (w x less u : List Int) : Int := if wayB w u then Ev (schP u) (mono x) * Ev (schP (invL (othL w u))) (mono less) else 0
theorem cau_law (hw : P5 n w) (h4 : n ≤ 4) {y less : List Int} (h : ∀ j, less.getD j 0 = -(y.getD j 0)) (x : List Int) : Ev (dblP w y) (mono x) = ((permsL n).map (cauT w x less)).sum := by
  obtain ⟨h1, h2⟩ := cau_at hw h4
  have h3 : Ev (symW w ++ sclP (-1) (rhsW w)) (Hy (mono x) y) = 0 := by rw [← Ev_nrm, h1]; rfl
  rw [Ev_append, Ev_scl, Ev_mul] at h3
  rw [sym_eq (by have := hw.len; omega) y]
  have key : ∀ l : List (List Int), (∀ u ∈ l, ∀ s ∈ symS u, s.1.length = 7) → Ev (l.flatMap fun u => if wayB w u then tens (symS u) (symS (invL (othL w u))) else []) (Hy (mono x) y) = (l.map (cauT w x less)).sum := fun l => by
    induction l with
    | nil => intro _; rfl
    | cons u l ih =>
      intro hl
      rw [List.flatMap_cons, Ev_append, ih fun v hv => hl v (List.mem_cons_of_mem _ hv), List.map_cons, List.sum_cons]
      congr 1
      unfold cauT
      split
      · rw [Ev_tens h x _ _ (hl u List.mem_cons_self), symS_eq, symS_eq]
      · rfl
  have := key (permsL w.length) (by rw [hw.len]; exact h2)
  unfold rhsW at h3
  rw [this, hw.len] at h3
  omega
end

end Go.Proofs.Ytllmhicmikpfeaa

namespace Go.Proofs.Ytllmhicmikpfeaa
set_option linter.all false
set_option maxRecDepth 100000
open Go.RowKit Go.Maps Go.WideMaps

def stV (n k j : Nat) : Int := if j < k then ((n - 1 - j : Nat) : Int) else 0
theorem stE_eq (n : Nat) : stE n = [((n - 1 - 0 : Nat) : Int), ((n - 1 - 1 : Nat) : Int), ((n - 1 - 2 : Nat) : Int), ((n - 1 - 3 : Nat) : Int), ((n - 1 - 4 : Nat) : Int), ((n - 1 - 5 : Nat) : Int), ((n - 1 - 6 : Nat) : Int)] := rfl
theorem stV_end (n j : Nat) : stV n n j = ((n - 1 - j : Nat) : Int) := by
  unfold stV
  split
  · rfl
  · rw [show n - 1 - j = 0 by omega]; rfl
theorem K7_st (n : Nat) (h7 : n ≤ 7) : K7 6 (stE n) := ⟨rfl, fun x hx => by
  obtain ⟨j, hj, rfl⟩ := List.mem_map.1 hx
  omega⟩

set_option maxHeartbeats 4000000 in
theorem staircase_any (n : Nat) (w : World) (h1 : 1 ≤ n) (h7 : n ≤ 7) :
    Calls Try.prog 84 #[.int .i64 (n : Int)] w fun e w' => ∃ u, e = .returned u ∧ PolV w' u 6 1 (stP n) ∧ Below w.heap.size w w' := by
  have hmm := @run_makeMap Try.prog
  have hbd := buildE
  have h70 : (n : Int) ≤ 7 := by omega
  go_enter Try.func84, Try.ntmps84
  go_wp2_with fail
  go_loopg [7] n (fun g i wr => ∃ k : Nat, k ≤ n ∧ g = n - k ∧ i = .int .i64 (k : Int) ∧ Hid (Below w.heap.size w wr) ∧ wr.heap.size = w.heap.size + 1 ∧ wr.rowIs w.heap.size 72 7 (fun j => .int .i64 (stV n k j)))
  case atStart =>
    refine ⟨0, Nat.zero_le _, rfl, rfl, Lib.hid (below_alloc _ _), by simp, World.rowIs_alloc w _ _ _ fun i hi => ?_⟩
    simp at hi
    match i, hi with
    | 0, _ | 1, _ | 2, _ | 3, _ | 4, _ | 5, _ | 6, _ => rfl
  case round =>
    obtain ⟨k, hk, rfl, rfl, hb, hs, hrow⟩ := hrel
    by_cases hlt : k < n
    · have hki : (k : Int) < (n : Int) := by omega
      have hk7 : (k : Int) < 7 := by omega
      obtain ⟨z, c2⟩ : ∃ z, wr.cell? ⟨w.heap.size, k, none⟩ = some (.int .i64 z) := ⟨_, hrow.cell (by omega)⟩
      have c3 := hrow.frozen k
      have hv : ((n : Int) - 1 - (k : Int)) = ((n - 1 - k : Nat) : Int) := by omega
      have Hrow := Lib.hid hrow
      have Hv := Lib.hid hv
      clear hrow hv
      go_wp2_with fail
      go_roundg (n - (k + 1))
      case measure => omega
      case rel =>
        refine ⟨k + 1, by omega, rfl, by go_num, Lib.hid (hb.out.setCell (Nat.le_refl _) _), by simp [hs], (Hrow.out.set k _).congr fun j hj => ?_⟩
        unfold stV
        by_cases e : j = k
        · subst e
          rw [if_pos rfl, if_pos (by omega)]
          rw [← Hv.out]
        · rw [if_neg e]
          by_cases e2 : j < k
          · rw [if_pos e2, if_pos (by omega)]
          · rw [if_neg e2, if_neg (by omega)]
    · obtain rfl : k = n := by omega
      have Hrow := Lib.hid hrow
      have q0 := hrow.cell (i := 0) (by omega)
      have q1 := hrow.cell (i := 1) (by omega)
      have q2 := hrow.cell (i := 2) (by omega)
      have q3 := hrow.cell (i := 3) (by omega)
      have q4 := hrow.cell (i := 4) (by omega)
      have q5 := hrow.cell (i := 5) (by omega)
      have q6 := hrow.cell (i := 6) (by omega)
      rw [stV_end] at q0 q1 q2 q3 q4 q5 q6
      have hkey := keyOf_kv (K7_st k h7) (by omega)
      have hkd : kv (stE k) = .agg #[.int .i64 ((k - 1 - 0 : Nat) : Int), .int .i64 ((k - 1 - 1 : Nat) : Int), .int .i64 ((k - 1 - 2 : Nat) : Int), .int .i64 ((k - 1 - 3 : Nat) : Int), .int .i64 ((k - 1 - 4 : Nat) : Int), .int .i64 ((k - 1 - 5 : Nat) : Int), .int .i64 ((k - 1 - 6 : Nat) : Int)] := rfl
      rw [hkd] at hkey
      have hput := (PolM.empty 6).putNew (e := stE k) (c := 1) (by omega) (K7_st k h7) rfl (by decide)
      obtain ⟨k0, hk0⟩ : ∃ x, x = kl (stE k) := ⟨_, rfl⟩
      rw [← hk0] at hkey hput
      obtain ⟨x0, e0⟩ : ∃ x, x = ((k - 1 - 0 : Nat) : Int) := ⟨_, rfl⟩
      obtain ⟨x1, e1⟩ : ∃ x, x = ((k - 1 - 1 : Nat) : Int) := ⟨_, rfl⟩
      obtain ⟨x2, e2⟩ : ∃ x, x = ((k - 1 - 2 : Nat) : Int) := ⟨_, rfl⟩
      obtain ⟨x3, e3⟩ : ∃ x, x = ((k - 1 - 3 : Nat) : Int) := ⟨_, rfl⟩
      obtain ⟨x4, e4⟩ : ∃ x, x = ((k - 1 - 4 : Nat) : Int) := ⟨_, rfl⟩
      obtain ⟨x5, e5⟩ : ∃ x, x = ((k - 1 - 5 : Nat) : Int) := ⟨_, rfl⟩
      obtain ⟨x6, e6⟩ : ∃ x, x = ((k - 1 - 6 : Nat) : Int) := ⟨_, rfl⟩
      rw [← e0] at q0
      rw [← e1] at q1
      rw [← e2] at q2
      rw [← e3] at q3
      rw [← e4] at q4
      rw [← e5] at q5
      rw [← e6] at q6
      rw [← e0, ← e1, ← e2, ← e3, ← e4, ← e5, ← e6] at hkey
      have Hput := Lib.hid hput
      have Hkey := Lib.hid hkey
      have hown0 := World.ownsMap_made (H := Unit) wr Try.prog 72 (plainElem Try.prog 3)
      rw [hs] at hown0
      have Hown0 := Lib.hid hown0
      clear hkd hput hk0 e0 e1 e2 e3 e4 e5 e6 hrow hkey hown0
      go_wp2_with (first
        | (refine wpList_insert_own rfl _ _ _ rfl (w.heap.size + 1) 0 _ rfl Hown0.out (by omega) _ _ 1 rfl rfl Hkey.out (by decide) ?_; intro w0 hown1 hg0)
        | fail)
      go_ret
      refine ⟨_, rfl, ⟨_, _, rfl, hown1, Hput.out⟩, hb.out.trans (((below_alloc wr (.map #[] 0)).mono (by omega)).trans ?_)⟩
      exact ⟨hg0.os, hg0.tape, hg0.output, hg0.size, fun i hi => hg0.block i (by simp; omega) (fun e => by injection e; omega)⟩

theorem trimB_all : all5 (fun w => permOk (trimL w) && decide (1 ≤ (trimL w).length)) = true := by decide +kernel
theorem P5.trim {n : Nat} {w : List Int} (h : P5 n w) : P5 (trimL w).length (trimL w) := by
  have := all5_at trimB_all h.ok (by have := h.len; have := h.le; omega)
  simp only [Bool.and_eq_true] at this
  refine ⟨this.1, rfl, ?_⟩
  have h1 := h.len
  have h2 := h.le
  unfold trimL
  rw [List.length_take]
  omega

set_option maxHeartbeats 2000000 in
theorem schubert_any (n : Nat) (v : Value) (xs : List Int) (w : World) (h : Ints w v xs) (hp : P5 n xs) :
    Calls Try.prog 72 #[v] w fun e w' => ∃ u, e = .returned u ∧ PolV w' u 6 60466176 (schP xs) ∧ Below w.heap.size w w' := by
  have Hh := Lib.hid h
  have Hp := Lib.hid hp
  have Ht := Lib.hid hp.trim
  obtain ⟨p, cap, rfl, _, _⟩ := h
  obtain ⟨N, hN⟩ : ∃ N, N = (trimL xs).length := ⟨_, rfl⟩
  have h17 := of_decide_eq_true hp.trim.ok
  have hN5 := hp.trim.le
  rw [← hN] at h17 hN5
  have HN := Lib.hid hN
  have hN1 : 1 ≤ N := h17.1
  unfold schP
  rw [← hN]
  clear hp hN h17
  go_enter Try.func72, Try.ntmps72
  go_wp2_with fail
  refine (implTrim_yes _ xs _ Hh.out Hp.out.ok).mono ?_
  rintro e w1 ⟨u, rfl, ho, hb⟩
  obtain ⟨p1, k1, rfl, _, _⟩ := ho.shape
  have Ho := Lib.hid ho.ints
  rw [← HN.out] at Ho ⊢
  have Hb := Lib.hid hb
  clear ho hb
  go_wp2_with fail
  refine (staircase_any N _ hN1 (by omega)).mono ?_
  rintro e w2 ⟨u2, rfl, hpv, hb2⟩
  have Hpv := Lib.hid hpv
  have Hb2 := Lib.hid (Hb.out.trans (hb2.mono Hb.out.size))
  have Ho2 := Lib.hid (Ho.out.below hb2)
  obtain ⟨b2, D2, rfl, _, _⟩ := hpv
  clear hb2
  go_wp2_with fail
  refine (lowered_any 6 (stP N) (by omega) (by omega) 10 (trimL xs) _ _ 1 _ Ht.out.low (by rw [← HN.out]; exact hN5) Hpv.out (by decide) Ho2.out).mono ?_
  rintro e w3 ⟨u3, rfl, hpv3, hb3⟩
  have Hpv3 := Lib.hid hpv3
  have Hb3 := Lib.hid (Hb2.out.trans (hb3.mono Hb2.out.size))
  obtain ⟨b3, D3, rfl, _, _⟩ := hpv3
  clear hb3
  go_wp2_with fail
  go_ret
  exact ⟨_, rfl, Hpv3.out, Hb3.out⟩

/-- a list of terms that the call made, of this polynomial -/
def RetTs (w : World) (P : Pl) (v : Value) (w' : World) : Prop := ∃ ts, OwnTd w' w.heap.size w'.heap.size v ts ∧ TsOk ts ∧ (∀ g, Ev ts g = Ev P g) ∧ Below w.heap.size w w'

set_option maxHeartbeats 2000000 in
theorem SchubertPoly_any (n : Nat) (v : Value) (xs : List Int) (w : World) (h : Ints w v xs) (hp : P5 n xs) (h4 : n ≤ 4) :
    Calls Try.prog 45 #[v] w fun e w' => ∃ u, e = .returned (.tuple #[u, .bool true]) ∧ RetTs w (schP xs) u w' := by
  have Hh := Lib.hid h
  have Hp := Lib.hid hp
  have Hf := Lib.hid (sch_fit hp h4)
  obtain ⟨p, cap, rfl, _, _⟩ := h
  clear hp
  go_enter Try.func45, Try.ntmps45
  go_wp2_with fail
  refine (implIsPerm_any _ xs _ Hh.out).mono ?_
  rintro e w1 ⟨rfl, hb1⟩
  rw [Hp.out.ok]
  have Hb1 := Lib.hid hb1
  clear hb1
  go_wp2_with fail
  refine (schubert_any n _ xs _ (Hh.out.below Hb1.out) Hp.out).mono ?_
  rintro e w2 ⟨u2, rfl, hpv, hb2⟩
  have Hpv := Lib.hid hpv
  have Hb2 := Lib.hid (Hb1.out.trans (hb2.mono Hb1.out.size))
  obtain ⟨b2, D2, rfl, _, _⟩ := hpv
  clear hb2
  go_wp2_with fail
  refine (closed_any _ 6 _ _ _ _ Hpv.out (by omega) Hf.out.co (fun e _ he => Hf.out.sup e he) Hf.out.len).mono ?_
  rintro e w3 ⟨u3, ts, rfl, ho, hok, hev, hb3⟩
  have hs := Hb2.out.size
  have Hr := Lib.hid (show RetTs w (schP xs) u3 w3 from ⟨ts, ho.mono hs (Nat.le_refl _), hok, hev, Hb2.out.trans (hb3.mono hs)⟩)
  obtain ⟨p3, k3, rfl, _, _⟩ := ho.shape
  clear ho hok hev hb3
  go_wp2_with fail
  go_ret2
  exact ⟨_, rfl, Hr.out⟩

set_option maxHeartbeats 2000000 in
theorem DoubleSchubert_any (n : Nat) (v u : Value) (xs ys : List Int) (w : World) (h : Ints w v xs) (hy : Ints w u ys) (hp : P5 n xs) (h4 : n ≤ 4) (hyl : ys.length = n) (hb : ∀ x ∈ ys, -9 ≤ x ∧ x ≤ 9) :
    Calls Try.prog 9 #[v, u] w fun e w' => ∃ u, e = .returned (.tuple #[u, .bool true]) ∧ RetTs w (dblP xs ys) u w' := by
  have Hh := Lib.hid h
  have Hy := Lib.hid hy
  have Hp := Lib.hid hp
  have hy9 : ∀ j, (ys.getD j 0).natAbs ≤ 9 := fun j => by
    by_cases hj : j < ys.length
    · have := hb _ (getD_mem hj)
      omega
    · rw [List.getD_eq_getElem?_getD, List.getElem?_eq_none (by omega)]; simp
  have Hf := Lib.hid (dbl_fit hp h4 hy9)
  obtain ⟨p, cap, rfl, _, _⟩ := h
  obtain ⟨q, cap', rfl, _, _⟩ := hy
  have hl := hp.len
  have h1 : 1 ≤ n := by have := (of_decide_eq_true hp.ok).1; omega
  have Hl := Lib.hid hl
  have Hyl := Lib.hid hyl
  have Hbb := Lib.hid hb
  have Hsh : Hid (shiftB n ys = true) := Lib.hid (by unfold shiftB; simp only [decide_eq_true_eq, Bool.and_eq_true, List.all_eq_true]; first | exact ⟨hb, by omega⟩ | exact ⟨by omega, hb⟩ | exact ⟨by omega, fun x hx => by have := hb x hx; omega⟩ | exact ⟨fun x hx => by have := hb x hx; omega, by omega⟩)
  rw [hl] at Hh ⊢
  rw [hyl] at Hy ⊢
  have g5 : ¬ (5 : Int) < (n : Int) := by omega
  have g6 : decide ((5 : Int) < (n : Int)) = false := decide_eq_false g5
  clear hp hl hyl hb hy9
  go_enter Try.func9, Try.ntmps9
  go_wp2_with fail
  refine (implIsPerm_any _ xs _ Hh.out).mono ?_
  rintro e w1 ⟨rfl, hb1⟩
  rw [Hp.out.ok]
  have Hb1 := Lib.hid hb1
  clear hb1
  go_wp2_with fail
  refine (shiftsOk_any n _ ys _ (Hy.out.below Hb1.out)).mono ?_
  rintro e w1 ⟨rfl, rfl⟩
  rw [Hsh.out]
  go_wp2_with fail
  refine (double_any _ _ xs ys _ (Hh.out.below Hb1.out) (Hy.out.below Hb1.out) (by rw [Hl.out]; exact h1) (by rw [Hl.out]; omega) (by rw [Hl.out]; exact Hyl.out) Hbb.out Hp.out.low).mono ?_
  rintro e w2 ⟨u2, rfl, hpv, hb2⟩
  have Hpv := Lib.hid hpv
  have Hb2 := Lib.hid (Hb1.out.trans (hb2.mono Hb1.out.size))
  obtain ⟨b2, D2, rfl, _, _⟩ := hpv
  clear hb2
  go_wp2_with fail
  refine (closed_any _ 10 _ _ _ _ Hpv.out (by omega) Hf.out.co (fun e _ he => Hf.out.sup e he) Hf.out.len).mono ?_
  rintro e w3 ⟨u3, ts, rfl, ho, hok, hev, hb3⟩
  have hs := Hb2.out.size
  have Hr := Lib.hid (show RetTs w (dblP xs ys) u3 w3 from ⟨ts, ho.mono hs (Nat.le_refl _), hok, hev, Hb2.out.trans (hb3.mono hs)⟩)
  obtain ⟨p3, k3, rfl, _, _⟩ := ho.shape
  clear ho hok hev hb3
  go_wp2_with fail
  go_ret2
  exact ⟨_, rfl, Hr.out⟩

end Go.Proofs.Ytllmhicmikpfeaa

namespace Go.Proofs.Ytllmhicmikpfeaa
set_option linter.all false
set_option maxRecDepth 100000
open Go.RowKit Go.Maps Go.WideMaps

/-- alike but for multiples of the program's prime -/
def Cp (a b : Int) : Prop := ∃ m, a = b + 32003 * m
theorem Cp.refl (a : Int) : Cp a a := ⟨0, by omega⟩
theorem Cp.trans {a b c : Int} (h : Cp a b) (h' : Cp b c) : Cp a c := by
  obtain ⟨m, rfl⟩ := h
  obtain ⟨k, rfl⟩ := h'
  exact ⟨k + m, by omega⟩
theorem Cp.add {a b c e : Int} (h : Cp a b) (h' : Cp c e) : Cp (a + c) (b + e) := by
  obtain ⟨m, rfl⟩ := h
  obtain ⟨k, rfl⟩ := h'
  exact ⟨m + k, by omega⟩
theorem Cp.mul {a b c e : Int} (h : Cp a b) (h' : Cp c e) : Cp (a * c) (b * e) := by
  obtain ⟨m, rfl⟩ := h
  obtain ⟨k, rfl⟩ := h'
  exact ⟨b * k + m * e + 32003 * m * k, by grind⟩
theorem Cp.tmod (a : Int) : Cp (a.tmod 32003) a := by
  have := Int.mul_tdiv_add_tmod a 32003
  exact ⟨-(a.tdiv 32003), by omega⟩
theorem tmod_rng (a : Int) : -32002 ≤ a.tmod 32003 ∧ a.tmod 32003 ≤ 32002 := by
  have h1 := Int.tmod_lt_of_pos a (b := 32003) (by omega)
  have h2 := Int.lt_tmod_of_pos a (b := 32003) (by omega)
  omega
theorem Cp.emod {a b : Int} (h : Cp a b) : a % 32003 = b % 32003 := by
  obtain ⟨m, rfl⟩ := h
  omega
theorem tm_mul {a b A B : Int} (h1 : -A ≤ a ∧ a ≤ A) (h2 : -B ≤ b ∧ b ≤ B) : -(A * B) ≤ a * b ∧ a * b ≤ A * B := by
  have hA : 0 ≤ A := by omega
  have hB : 0 ≤ B := by omega
  have h : (a * b).natAbs ≤ A.natAbs * B.natAbs := by rw [Int.natAbs_mul]; exact Nat.mul_le_mul (by omega) (by omega)
  have e : ((A.natAbs * B.natAbs : Nat) : Int) = A * B := by rw [Int.natCast_mul, Int.natAbs_of_nonneg hA, Int.natAbs_of_nonneg hB]
  omega
/-- the program's last step -/
theorem last_mod {S X : Int} (h : Cp S X) : (S.tmod 32003 + 32003).tmod 32003 = X % 32003 := by
  have r := tmod_rng S
  rw [Int.tmod_eq_emod_of_nonneg (by omega)]
  have := ((Cp.tmod S).trans h).emod
  omega

theorem pow_succ' (x : Int) (k : Nat) : x ^ (k + 1) = x ^ k * x := Int.pow_succ x k

set_option maxHeartbeats 8000000 in
theorem Evaluate_any (v u : Value) (ts : List Cls) (vs : List Int) (w : World) (h : RdCl w v ts) (hok : TsOk ts) (hu : Ints w u vs) (hv7 : vs.length = 7) :
    Calls Try.prog 12 #[v, u] w fun e w' => e = .returned (.int .i64 (Ev ts (mono vs) % 32003)) ∧ Below w.heap.size w w' := by
  have Hh := Lib.hid h
  have Hok := Lib.hid hok
  obtain ⟨f, h1, h2⟩ := h
  obtain ⟨p, cap, rfl, ⟨hn1, hn2⟩, hc⟩ := h1.two
  have Hc := Lib.hid hc
  have Hf := Lib.hid h2
  unfold maxLen at hn2
  obtain ⟨N, hN⟩ : ∃ N, N = ts.length := ⟨_, rfl⟩
  have HN := Lib.hid hN
  have h600 : N ≤ 600 := by rw [hN]; exact hok.1
  obtain ⟨q, cap', rfl, ⟨hy1, hy2⟩, hyc⟩ := hu
  obtain ⟨bv, ov, rfl, hvc⟩ := hyc (by omega)
  have Hv := Lib.hid hvc
  rw [hv7] at hy1 Hv ⊢
  unfold maxLen at hy2
  rw [← hN] at hn1 Hc Hf Hh ⊢
  clear h1 h2 hc hN hok hyc hvc hv7
  go_enter Try.func12, Try.ntmps12
  go_wp2_with fail
  refine (PolyOk_yes _ ts _ Hh.out Hok.out).mono ?_
  rintro e w0 ⟨rfl, hb0⟩
  have Hb0 := Lib.hid hb0
  clear hb0
  go_wp2_with fail
  go_loopg [5, 21] N (fun g s5 i wr => ∃ (k : Nat) (S : Int), k ≤ N ∧ g = N - k ∧ i = .int .i64 k ∧ s5 = .int .i64 S ∧ -(32002 * (k : Int)) ≤ S ∧ S ≤ 32002 * (k : Int) ∧ Hid (Cp S (Ev (ts.take k) (mono vs))) ∧ Hid (Below w.heap.size w wr))
  case atStart => exact ⟨0, 0, Nat.zero_le _, rfl, rfl, rfl, by omega, by omega, Lib.hid (Cp.refl _), Hb0⟩
  case round =>
    obtain ⟨k, S, hk, rfl, rfl, rfl, hS1, hS2, hcp, hb⟩ := hrel
    obtain ⟨wo, rfl⟩ : ∃ x : World, x = wr := ⟨_, rfl⟩
    by_cases hlt : k < N
    · have hki : (k : Int) < (N : Int) := by omega
      obtain ⟨bx, rfl, hcc⟩ := Hc.out (by omega)
      obtain ⟨a0, a1⟩ := hcc k hlt
      have c0 := cell_below hb.out a0
      have c1 := cell_below hb.out a1
      have hfk := (Hf.out k hlt).below hb.out
      have hts := HN.out ▸ hlt
      have htm := Hok.out.at hts
      have hsp : Ev (ts.take (k + 1)) (mono vs) = Ev (ts.take k) (mono vs) + (ts.getD k clD).2 * mono vs (ts.getD k clD).1 := by
        rw [List.take_succ_eq_append_getElem hts, Ev_append]
        simp [Ev, List.getD_eq_getElem?_getD, hts]
      obtain ⟨xs, hxs⟩ : ∃ x, x = (ts.getD k clD).1 := ⟨_, rfl⟩
      obtain ⟨c, hcv⟩ : ∃ x, x = (ts.getD k clD).2 := ⟨_, rfl⟩
      unfold TmOk at htm
      rw [← hxs] at htm hfk hsp
      rw [← hcv] at htm c1 hsp
      obtain ⟨t1, t2, t3, t4, t5⟩ := htm
      have Hsp := Lib.hid hsp
      have Ht2 := Lib.hid t2
      obtain ⟨px, kx, hxe, ⟨hx1, hx2⟩, hxc⟩ := hfk
      rw [t1] at hxe
      rw [hxe] at c0
      rw [t1] at hx1 hxc
      obtain ⟨ob, oo, rfl, hxd⟩ := hxc (by omega)
      have Hxd := Lib.hid hxd
      have Hcp := Lib.hid hcp.out
      have Hm0 := Lib.hid (Cp.tmod c)
      obtain ⟨n0, hn0⟩ : ∃ n, n = c.tmod 32003 := ⟨_, rfl⟩
      have hr0 := tmod_rng c
      rw [← hn0] at hr0 Hm0
      have hnz : ¬ (32003 : Int) = 0 := by omega
      have Hn0 := Lib.hid hn0
      clear hcc a0 a1 t1 t2 t3 hxs hcv hxc hxd hxe hcp hts hsp hn0
      go_wp2_with fail
      rw [← Hn0.out]
      obtain ⟨w1, hw1⟩ : ∃ x : World, x = wo.alloc (.cells #[.slice (some ⟨ob, oo, none⟩) 7 kx, .int .i64 c] 63) := ⟨_, rfl⟩
      have hb1 : Below wo.heap.size wo w1 := by rw [hw1]; exact below_alloc _ _
      rw [← hw1]
      have Hb1 := Lib.hid hb1
      have Hbw := Lib.hid (hb.out.trans (hb1.mono hb.out.size))
      clear hw1 hb1 c0 c1 t4 t5
      go_loopg [8, 31] 7 (fun g s8 s31 wr => ∃ (i : Nat) (n : Int), i ≤ 7 ∧ g = 7 - i ∧ s31 = .int .i64 i ∧ s8 = .int .i64 n ∧ -32002 ≤ n ∧ n ≤ 32002 ∧ Hid (Cp n (c * monoK vs xs i)) ∧ wr = w1)
      case atStart => exact ⟨0, n0, by omega, rfl, rfl, rfl, hr0.1, hr0.2, by have := Hm0.out; simp only [monoK, Int.mul_one]; exact Lib.hid this, rfl⟩
      case round =>
        obtain ⟨i, n, hi, rfl, rfl, rfl, hn3, hn4, hcn, rfl⟩ := hrel
        obtain ⟨w1, rfl⟩ : ∃ x : World, x = wr := ⟨_, rfl⟩
        by_cases hli : i < 7
        · have hii : (i : Int) < 7 := by omega
          have d1 := cell_below Hb1.out (Hxd.out i hli)
          have d2 := cell_below Hbw.out (Hv.out i hli)
          have r1 := Ht2.out i
          unfold iv at d1 d2
          obtain ⟨m, hm⟩ := Int.eq_ofNat_of_zero_le r1.1
          rw [hm] at d1
          obtain ⟨y, hy⟩ : ∃ y, y = vs.getD i 0 := ⟨_, rfl⟩
          rw [← hy] at d2
          have hm24 : m ≤ 24 := by omega
          have hmk : monoK vs xs (i + 1) = monoK vs xs i * y ^ m := by rw [monoK, hm, hy, Int.toNat_natCast]
          obtain ⟨q0, hq0⟩ : ∃ q, y.tmod 32003 = q := ⟨_, rfl⟩
          have hqr := tmod_rng y
          rw [hq0] at hqr
          have Hqc := Lib.hid (show Cp q0 y by rw [← hq0]; exact Cp.tmod y)
          have Hmk := Lib.hid hmk
          have Hcn := Lib.hid hcn.out
          have Hqr := Lib.hid hqr
          clear hm hy hmk hcn r1 hqr
          go_wp2_with fail
          go_loopg [8, 37] m (fun g s8 s37 wr => ∃ (t : Nat) (n' : Int), t ≤ m ∧ g = m - t ∧ s37 = .int .i64 t ∧ s8 = .int .i64 n' ∧ -32002 ≤ n' ∧ n' ≤ 32002 ∧ Hid (Cp n' (c * (monoK vs xs i * y ^ t))) ∧ wr = w1)
          case atStart => exact ⟨0, n, Nat.zero_le _, rfl, rfl, rfl, hn3, hn4, by have := Hcn.out; rw [Int.pow_zero, Int.mul_one]; exact Lib.hid this, rfl⟩
          case round =>
            obtain ⟨t, n', ht, rfl, rfl, rfl, hn5, hn6, hct, rfl⟩ := hrel
            obtain ⟨w1, rfl⟩ : ∃ x : World, x = wr := ⟨_, rfl⟩
            by_cases hlt2 : t < m
            · have hti : (t : Int) < (m : Int) := by omega
              obtain ⟨z, hz⟩ : ∃ z, z = n' * q0 := ⟨_, rfl⟩
              have hzr := tm_mul (a := n') (b := q0) ⟨hn5, hn6⟩ Hqr.out
              rw [← hz] at hzr
              obtain ⟨r, hr⟩ : ∃ r, z.tmod 32003 = r := ⟨_, rfl⟩
              have hrr := tmod_rng z
              rw [hr] at hrr
              have hcr : Cp r (c * (monoK vs xs i * y ^ (t + 1))) := by
                have h1 : Cp r z := by rw [← hr]; exact Cp.tmod z
                have h2 : Cp z ((c * (monoK vs xs i * y ^ t)) * y) := by rw [hz]; exact hct.out.mul Hqc.out
                refine (h1.trans h2).trans (Eq.subst (motive := fun x => Cp _ x) ?_ (Cp.refl _))
                rw [Int.pow_succ]; grind
              have Hcr := Lib.hid hcr
              have Hrr := Lib.hid hrr
              have hw : IntKind.i64.wrap (n' * q0) = z := by rw [← hz]; exact k64 (by omega) (by omega)
              have hw2 : wrap64 (n' * q0) = z := by rw [← hz]; exact w64 (by omega) (by omega)
              clear hz hzr hcr hrr hct hn5 hn6
              go_wp2_with fail
              go_roundg (m - (t + 1))
              case measure => omega
              case rel => exact ⟨t + 1, r, by omega, rfl, by go_num, rfl, Hrr.out.1, Hrr.out.2, Hcr.out, rfl⟩
            · obtain rfl : t = m := by omega
              go_wp2_with fail
              go_roundg (7 - (i + 1))
              case measure => omega
              case rel => exact ⟨i + 1, n', by omega, rfl, by go_num, rfl, hn5, hn6, by rw [Hmk.out]; exact hct, rfl⟩
        · obtain rfl : i = 7 := by omega
          have hcp2 : Cp (S + n) (Ev (ts.take (k + 1)) (mono vs)) := by
            rw [Hsp.out]
            exact Hcp.out.add hcn.out
          have Hcp2 := Lib.hid hcp2
          have hw := k64 (n := S + n) (by omega) (by omega)
          have hw2 := w64 (n := S + n) (by omega) (by omega)
          clear hcp2 hcn
          go_wp2_with fail
          go_roundg (N - (k + 1))
          case measure => omega
          case rel => exact ⟨k + 1, S + n, by omega, rfl, by go_num, by first | rfl | rw [hw], by omega, by omega, Hcp2.out, Hbw.out⟩
    · obtain rfl : k = N := by omega
      have hlast := last_mod hcp.out
      rw [HN.out, List.take_length] at hlast
      have Hlast := Lib.hid hlast
      have Hb := Lib.hid hb.out
      obtain ⟨s1, hs1⟩ : ∃ s, S.tmod 32003 = s := ⟨_, rfl⟩
      have hr1 := tmod_rng S
      rw [hs1] at hr1 Hlast
      have hnz : ¬ (32003 : Int) = 0 := by omega
      have hw := k64 (n := s1 + 32003) (by omega) (by omega)
      have hw2 := w64 (n := s1 + 32003) (by omega) (by omega)
      clear hlast hcp hb hS1 hS2
      go_wp2_with fail
      go_ret
      refine ⟨ret_int ?_, Hb.out⟩
      have h9 := Hlast.out
      rw [Int.tmod_eq_emod_of_nonneg (by omega)] at h9
      exact h9

end Go.Proofs.Ytllmhicmikpfeaa
