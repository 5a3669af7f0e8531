/-
  Polynomials in a box of exponents: how great their numbers can become. Plain.
  The reference's terms: seven exponents as one number; lists of terms put together. Plain.
  l1Rank, RankAt: how many of the first r numbers of a permutation are less than c.
  The order of permutations by their ranks. Plain.
  The code and the length of a permutation, in the program.
  Words, and a permutation after another: plain.
  Double polynomials as sums over all ways to divide a permutation. Plain.
-/
import Derived.Test.YtllmhicmikpfeaaJ6
import Derived.Test.YtllmhicmikpfeaaJ9
import Derived.Test.YtllmhicmikpfeaaJ1
import Derived.Test.YtllmhicmikpfeaaJ2
import Derived.Test.YtllmhicmikpfeaaJ5
import Derived.Test.YtllmhicmikpfeaaJ3
import Derived.Test.YtllmhicmikpfeaaJ4
namespace Go.Proofs.Ytllmhicmikpfeaa
set_option linter.all false
set_option maxRecDepth 100000
open Go.RowKit Go.Maps Go.WideMaps

def L1P : Pl → Nat
  | [] => 0
  | t :: P => t.2.natAbs + L1P P
theorem L1P_append : ∀ P Q : Pl, L1P (P ++ Q) = L1P P + L1P Q
  | [], Q => by simp [L1P]
  | t :: P, Q => by rw [List.cons_append, L1P, L1P, L1P_append P Q]; omega
theorem L1P_scl (k : Int) : ∀ P : Pl, L1P (sclP k P) = k.natAbs * L1P P
  | [] => by simp [L1P, sclP]
  | t :: P => by
    have ih := L1P_scl k P
    have e : sclP k (t :: P) = (t.1, k * t.2) :: sclP k P := rfl
    rw [e, L1P, L1P, ih, Int.natAbs_mul, Nat.mul_add]
theorem L1P_rs (i : Nat) : ∀ P : Pl, L1P (rsP i P) = L1P P
  | [] => rfl
  | t :: P => by
    have ih := L1P_rs i P
    have e : rsP i (t :: P) = (rsE i t.1, t.2) :: rsP i P := rfl
    rw [e, L1P, L1P, ih]
theorem Ev_le1 {g : List Int → Int} (hg : ∀ e, (g e).natAbs ≤ 1) : ∀ P : Pl, (Ev P g).natAbs ≤ L1P P
  | [] => by simp [Ev, L1P]
  | t :: P => by
    rw [Ev_cons, L1P]
    refine Nat.le_trans (Int.natAbs_add_le _ _) (Nat.add_le_add ?_ (Ev_le1 hg P))
    rw [Int.natAbs_mul]
    have := Nat.mul_le_mul_left t.2.natAbs (hg t.1)
    omega
theorem cf_le (P : Pl) (e : List Int) : (cfP P e).natAbs ≤ L1P P := Ev_le1 (fun x => by unfold ind; split <;> simp) P

/-- seven exponents below bounds -/
def BxE (b : Nat → Int) (e : List Int) : Prop := e.length = 7 ∧ ∀ i, i < 7 → 0 ≤ e.getD i 0 ∧ e.getD i 0 ≤ b i
def BxP (b : Nat → Int) (P : Pl) : Prop := ∀ t ∈ P, BxE b t.1
theorem BxP.append {b : Nat → Int} {P Q : Pl} (h : BxP b P) (h' : BxP b Q) : BxP b (P ++ Q) := fun t ht => (List.mem_append.1 ht).elim (h t) (h' t)
theorem BxP.scl {b : Nat → Int} {P : Pl} (h : BxP b P) (k : Int) : BxP b (sclP k P) := fun t ht => by
  obtain ⟨s, hs, rfl⟩ := List.mem_map.1 ht
  exact h s hs
theorem BxE.mono {b b' : Nat → Int} {e : List Int} (h : BxE b e) (hb : ∀ i, i < 7 → b i ≤ b' i) : BxE b' e := ⟨h.1, fun i hi => ⟨(h.2 i hi).1, Int.le_trans (h.2 i hi).2 (hb i hi)⟩⟩
theorem BxP.mono {b b' : Nat → Int} {P : Pl} (h : BxP b P) (hb : ∀ i, i < 7 → b i ≤ b' i) : BxP b' P := fun t ht => (h t ht).mono hb
theorem set_getD {e : List Int} {i j : Nat} (v : Int) (hi : i < e.length) : (e.set i v).getD j 0 = if j = i then v else e.getD j 0 := by
  simp only [List.getD_eq_getElem?_getD, List.getElem?_set]
  by_cases h : i = j
  · subst h; simp [hi]
  · rw [if_neg h, if_neg (fun e => h e.symm)]
theorem rsE_getD {e : List Int} {i j : Nat} (hi : i < e.length) : (rsE i e).getD j 0 = if j = i then e.getD i 0 + 1 else e.getD j 0 := set_getD _ hi
theorem BxE.rs {b : Nat → Int} {e : List Int} (h : BxE b e) {i : Nat} (hi : i < 7) : BxE (fun k => if k = i then b k + 1 else b k) (rsE i e) := by
  refine ⟨by unfold rsE; simpa using h.1, fun k hk => ?_⟩
  rw [rsE_getD (by rw [h.1]; exact hi)]
  have h1 := h.2 k hk
  try dsimp only
  by_cases e1 : k = i
  · subst e1; rw [if_pos rfl, if_pos rfl]; omega
  · rw [if_neg e1, if_neg e1]; exact h1
theorem BxP.rs {b : Nat → Int} {P : Pl} (h : BxP b P) {i : Nat} (hi : i < 7) : BxP (fun k => if k = i then b k + 1 else b k) (rsP i P) := fun t ht => by
  obtain ⟨s, hs, rfl⟩ := List.mem_map.1 ht
  exact (h s hs).rs hi

theorem dvS_getD {e : List Int} {i : Nat} (hi : i + 1 < e.length) (s t : Int) (k : Nat) : (dvS i e s t).getD k 0 = if k = i then s - 1 - t else if k = i + 1 then t else e.getD k 0 := by
  unfold dvS
  rw [set_getD _ (by rw [List.length_set]; omega), set_getD _ hi]
theorem dvK_box {e : List Int} {i : Nat} {b : Nat → Int} (h : BxE b e) (hi : i < 6) {lo hi' c : Int} {n : Nat} (hl : 0 ≤ lo) (hn : lo + (n : Int) = hi') (h0 : hi' - 1 ≤ b i) (h1 : hi' - 1 ≤ b (i + 1)) : BxP b (dvK i e lo hi' c n) := fun t ht => by
  unfold dvK at ht
  obtain ⟨j, hj, rfl⟩ := List.mem_map.1 ht
  rw [List.mem_range] at hj
  refine ⟨by show (dvS _ _ _ _).length = 7; unfold dvS; simpa using h.1, fun k hk => ?_⟩
  show 0 ≤ (dvS _ _ _ _).getD k 0 ∧ (dvS _ _ _ _).getD k 0 ≤ b k
  rw [dvS_getD (by rw [h.1]; omega)]
  by_cases e1 : k = i
  · subst e1; rw [if_pos rfl]; omega
  · rw [if_neg e1]
    by_cases e2 : k = i + 1
    · subst e2; rw [if_pos rfl]; omega
    · rw [if_neg e2]; exact h.2 k hk
theorem L1P_map (f : Nat → List Int) (c : Int) : ∀ l : List Nat, L1P (l.map fun j => (f j, c)) = l.length * c.natAbs
  | [] => by simp [L1P]
  | x :: l => by rw [List.map_cons, L1P, L1P_map f c l, List.length_cons, Nat.add_mul]; omega
theorem L1P_dvK (i : Nat) (e : List Int) (lo hi c : Int) (n : Nat) : L1P (dvK i e lo hi c n) = n * c.natAbs := by
  unfold dvK
  rw [L1P_map, List.length_range]
/-- the box of the staircase of five -/
def stB (k : Nat) : Int := ((4 - k : Nat) : Int)
theorem dvE_box {e : List Int} {i : Nat} (h : BxE stB e) (hi : i < 4) : BxP stB (dvE i e) ∧ L1P (dvE i e) ≤ 4 ∧ (dvE i e).length ≤ 4 := by
  have h0 := h.2 i (by omega)
  have h1 := h.2 (i + 1) (by omega)
  have s0 : stB i = 4 - (i : Int) := by unfold stB; omega
  have s1 : stB (i + 1) = 3 - (i : Int) := by unfold stB; omega
  rw [s0] at h0
  rw [s1] at h1
  unfold dvE
  split
  · refine ⟨dvK_box h (by omega) h0.1 (by omega) (by omega) (by omega), ?_, ?_⟩
    · rw [L1P_dvK]; simp only [Int.natAbs_neg, Int.natAbs_one, Nat.mul_one]; omega
    · unfold dvK; simp only [List.length_map, List.length_range]; omega
  · refine ⟨dvK_box h (by omega) h1.1 (by omega) (by omega) (by omega), ?_, ?_⟩
    · rw [L1P_dvK]; simp only [Int.natAbs_one, Nat.mul_one]; omega
    · unfold dvK; simp only [List.length_map, List.length_range]; omega
theorem dvP_cons (i : Nat) (t : List Int × Int) (P : Pl) : dvP i (t :: P) = sclP t.2 (dvE i t.1) ++ dvP i P := rfl
theorem dvP_box {i : Nat} (hi : i < 4) : ∀ {P : Pl}, BxP stB P → BxP stB (dvP i P) ∧ L1P (dvP i P) ≤ 4 * L1P P ∧ (dvP i P).length ≤ 4 * P.length
  | [], _ => ⟨(fun t ht => by cases ht), (by simp [dvP, L1P]), (by simp [dvP])⟩
  | t :: P, h => by
    obtain ⟨i1, i2, i3⟩ := dvP_box hi (P := P) fun s hs => h s (List.mem_cons_of_mem _ hs)
    obtain ⟨j1, j2, j3⟩ := dvE_box (h t List.mem_cons_self) hi
    rw [dvP_cons]
    refine ⟨(j1.scl _).append i1, ?_, ?_⟩
    · rw [L1P_append, L1P_scl, L1P]
      have := Nat.mul_le_mul_left t.2.natAbs j2
      omega
    · rw [List.length_append, List.length_cons]
      have : (sclP t.2 (dvE i t.1)).length = (dvE i t.1).length := by unfold sclP; simp
      omega
theorem low_box {P : Pl} (h : BxP stB P) : ∀ f xs, xs.length ≤ 5 → BxP stB (lowP f xs P) ∧ L1P (lowP f xs P) ≤ 4 ^ f * L1P P
  | 0, xs, _ => ⟨h, by simp [lowP]⟩
  | f + 1, xs, hl => by
    unfold lowP
    cases hf : fasc xs with
    | none =>
      refine ⟨h, ?_⟩
      have := Nat.mul_le_mul_right (L1P P) (Nat.pow_pos (n := f + 1) (show 0 < 4 by omega))
      simpa using this
    | some k =>
      try dsimp only
      have hk : k < 4 := by
        have := (List.find?_range_eq_some.1 hf).2.1
        have := List.mem_range.1 this
        omega
      obtain ⟨a, b⟩ := low_box h f (swapL xs k (k + 1)) (by unfold swapL; simpa using hl)
      obtain ⟨c, d, _⟩ := dvP_box hk a
      refine ⟨c, Nat.le_trans d ?_⟩
      rw [Nat.pow_succ]
      have := Nat.mul_le_mul_left 4 b
      rw [← Nat.mul_assoc, Nat.mul_comm 4 (4 ^ f)] at this
      exact this
theorem topJ_box {i : Nat} (hi : i < 7) {ys : List Int} (hy : ∀ j, (ys.getD j 0).natAbs ≤ 9) {b : Nat → Int} {T : Pl} (h : BxP b T) : ∀ m : Nat, BxP (fun k => if k = i then b k + (m : Int) else b k) (topJ i ys m T) ∧ L1P (topJ i ys m T) ≤ 10 ^ m * L1P T
  | 0 => ⟨h.mono fun k hk => by (try dsimp only); split <;> omega, by simp [topJ]⟩
  | m + 1 => by
    obtain ⟨a, c⟩ := topJ_box hi hy h m
    refine ⟨?_, ?_⟩
    · unfold topJ
      refine BxP.append ((a.rs hi).mono fun k hk => ?_) ((a.scl _).mono fun k hk => ?_)
      · (try dsimp only); split <;> omega
      · (try dsimp only); split <;> omega
    · unfold topJ
      rw [L1P_append, L1P_rs, L1P_scl, Int.natAbs_neg]
      have := Nat.mul_le_mul_right (L1P (topJ i ys m T)) (hy m)
      have e : 10 ^ (m + 1) * L1P T = 10 * (10 ^ m * L1P T) := by rw [Nat.pow_succ, Nat.mul_comm (10 ^ m) 10, Nat.mul_assoc]
      omega
theorem topI_box {n : Nat} (hn : n ≤ 5) {ys : List Int} (hy : ∀ j, (ys.getD j 0).natAbs ≤ 9) : ∀ i, i ≤ n → BxP (fun k => if k < i then stB k else 0) (topI n ys i) ∧ L1P (topI n ys i) ≤ 10 ^ topS n i
  | 0, _ => ⟨fun t ht => by
      unfold topI at ht
      rw [List.mem_singleton] at ht
      subst ht
      refine ⟨rfl, fun k hk => ?_⟩
      have : k = 0 ∨ k = 1 ∨ k = 2 ∨ k = 3 ∨ k = 4 ∨ k = 5 ∨ k = 6 := by omega
      rcases this with rfl | rfl | rfl | rfl | rfl | rfl | rfl <;> decide, by simp [topI, L1P, topS]⟩
  | i + 1, hi => by
    obtain ⟨a, c⟩ := topI_box hn hy i (by omega)
    obtain ⟨d, e⟩ := topJ_box (i := i) (by omega) hy a (n - 1 - i)
    refine ⟨?_, ?_⟩
    · unfold topI
      refine d.mono fun k hk => ?_
      try dsimp only
      by_cases e1 : k = i
      · subst e1
        rw [if_pos rfl, if_neg (by omega), if_pos (by omega)]
        unfold stB; omega
      · rw [if_neg e1]
        by_cases e2 : k < i
        · rw [if_pos e2, if_pos (by omega)]; omega
        · rw [if_neg e2, if_neg (by omega)]; omega
    · unfold topI topS
      rw [Nat.pow_add]
      refine Nat.le_trans e ?_
      rw [Nat.mul_comm (10 ^ topS n i)]
      exact Nat.mul_le_mul_left _ c
theorem stB_nn (k : Nat) : 0 ≤ stB k := by unfold stB; omega
/-- the double Schubert polynomial lies in the box, and its numbers are small beside 2^63 -/
theorem dbl_box {w ys : List Int} (hw : w.length ≤ 5) (hy : ∀ j, (ys.getD j 0).natAbs ≤ 9) : BxP stB (dblP w ys) ∧ L1P (dblP w ys) ≤ 10485760000000000 := by
  obtain ⟨a, c⟩ := topI_box hw hy w.length (Nat.le_refl _)
  have a' : BxP stB (topI w.length ys w.length) := a.mono fun k hk => by
    (try dsimp only); split
    · omega
    · exact stB_nn k
  obtain ⟨d, e⟩ := low_box a' 10 w hw
  refine ⟨d, Nat.le_trans e ?_⟩
  have h1 : (10 : Nat) ^ topS w.length w.length ≤ 10 ^ 10 := Nat.pow_le_pow_right (by omega) (topS_end hw)
  have h2 := Nat.mul_le_mul_left (4 ^ 10) (Nat.le_trans c h1)
  exact Nat.le_trans h2 (by decide)
/-- all exponents of the box -/
def boxL : List (List Int) := (List.range 5).flatMap fun (a : Nat) => (List.range 4).flatMap fun (b : Nat) => (List.range 3).flatMap fun (c : Nat) => (List.range 2).map fun (d : Nat) => [(a : Int), (b : Int), (c : Int), (d : Int), 0, 0, 0]
theorem boxL_len : boxL.length = 120 := by decide
theorem box_mem {e : List Int} (h : BxE stB e) : e ∈ boxL := by
  obtain ⟨hl, h⟩ := h
  match e, hl with
  | [a0, a1, a2, a3, a4, a5, a6], _ =>
    have h0 := h 0 (by omega)
    have h1 := h 1 (by omega)
    have h2 := h 2 (by omega)
    have h3 := h 3 (by omega)
    have h4 := h 4 (by omega)
    have h5 := h 5 (by omega)
    have h6 := h 6 (by omega)
    simp only [stB, List.getD_cons_zero, List.getD_cons_succ] at h0 h1 h2 h3 h4 h5 h6
    unfold boxL
    simp only [List.mem_flatMap, List.mem_map, List.mem_range]
    refine ⟨a0.toNat, by omega, a1.toNat, by omega, a2.toNat, by omega, a3.toNat, by omega, ?_⟩
    have e0 : ((a0.toNat : Nat) : Int) = a0 := by omega
    have e1 : ((a1.toNat : Nat) : Int) = a1 := by omega
    have e2 : ((a2.toNat : Nat) : Int) = a2 := by omega
    have e3 : ((a3.toNat : Nat) : Int) = a3 := by omega
    have e4 : (0 : Int) = a4 := by omega
    have e5 : (0 : Int) = a5 := by omega
    have e6 : (0 : Int) = a6 := by omega
    rw [e0, e1, e2, e3, ← e4, ← e5, ← e6]
theorem cf_box {b : Nat → Int} {P : Pl} (h : BxP b P) {e : List Int} (he : cfP P e ≠ 0) : BxE b e := by
  by_cases hx : ∃ t ∈ P, t.1 = e
  · obtain ⟨t, ht, rfl⟩ := hx
    exact h t ht
  · exact absurd (cf_none fun t ht e2 => hx ⟨t, ht, e2⟩) he

end Go.Proofs.Ytllmhicmikpfeaa

namespace Go.Proofs.Ytllmhicmikpfeaa
set_option linter.all false
set_option maxRecDepth 100000
open Go.RowKit Go.Maps Go.WideMaps

/-- seven exponents as one number -/
def keyN (e : List Int) : Int := e.getD 0 0 + 128 * (e.getD 1 0 + 128 * (e.getD 2 0 + 128 * (e.getD 3 0 + 128 * (e.getD 4 0 + 128 * (e.getD 5 0 + 128 * e.getD 6 0)))))
def B127 (_ : Nat) : Int := 127
def kT (t : List Int × Int) : Int × Int := (keyN t.1, t.2)
def msOf (P : Pl) : List (Int × Int) := P.map kT
theorem msOf_length (P : Pl) : (msOf P).length = P.length := by unfold msOf; simp
theorem msOf_append (P Q : Pl) : msOf (P ++ Q) = msOf P ++ msOf Q := by unfold msOf; simp
def tmD : List Int × Int := ([], 0)
theorem msOf_getD {P : Pl} {k : Nat} (h : k < P.length) : (msOf P).getD k (0, 0) = (keyN (P.getD k tmD).1, (P.getD k tmD).2) := by
  unfold msOf
  simp [List.getD_eq_getElem?_getD, h, kT]
theorem base_inj {a b X Y : Int} (ha : 0 ≤ a ∧ a ≤ 127) (hb : 0 ≤ b ∧ b ≤ 127) (h : a + 128 * X = b + 128 * Y) : a = b ∧ X = Y := by omega
theorem keyN_inj {e f : List Int} (he : BxE B127 e) (hf : BxE B127 f) (h : keyN e = keyN f) : e = f := by
  obtain ⟨l1, h1⟩ := he
  obtain ⟨l2, h2⟩ := hf
  unfold keyN at h
  obtain ⟨q0, h⟩ := base_inj (h1 0 (by omega)) (h2 0 (by omega)) h
  obtain ⟨q1, h⟩ := base_inj (h1 1 (by omega)) (h2 1 (by omega)) h
  obtain ⟨q2, h⟩ := base_inj (h1 2 (by omega)) (h2 2 (by omega)) h
  obtain ⟨q3, h⟩ := base_inj (h1 3 (by omega)) (h2 3 (by omega)) h
  obtain ⟨q4, h⟩ := base_inj (h1 4 (by omega)) (h2 4 (by omega)) h
  obtain ⟨q5, q6⟩ := base_inj (h1 5 (by omega)) (h2 5 (by omega)) h
  match e, f, l1, l2 with
  | [a0, a1, a2, a3, a4, a5, a6], [b0, b1, b2, b3, b4, b5, b6], _, _ =>
    simp only [List.getD_cons_zero, List.getD_cons_succ] at q0 q1 q2 q3 q4 q5 q6
    rw [q0, q1, q2, q3, q4, q5, q6]
theorem keyN_rng {e : List Int} (h : BxE B127 e) : 0 ≤ keyN e ∧ keyN e < 562949953421312 := by
  have h0 := h.2 0 (by omega)
  have h1 := h.2 1 (by omega)
  have h2 := h.2 2 (by omega)
  have h3 := h.2 3 (by omega)
  have h4 := h.2 4 (by omega)
  have h5 := h.2 5 (by omega)
  have h6 := h.2 6 (by omega)
  unfold B127 at *
  unfold keyN
  omega
/-- what is left where terms are put together -/
structure GaOk (P P' : Pl) : Prop where
  ev : ∀ g, Ev P' g = Ev P g
  sub : ∀ t ∈ P', ∃ s ∈ P, s.1 = t.1
  l1 : L1P P' ≤ L1P P
  len : P'.length ≤ P.length
theorem L1P_perm {P Q : Pl} (h : P.Perm Q) : L1P P = L1P Q := by
  induction h with
  | nil => rfl
  | cons x _ ih => rw [L1P, L1P, ih]
  | swap x y l => rw [L1P, L1P, L1P, L1P]; omega
  | trans _ _ h1 h2 => exact h1.trans h2
theorem GaOk.of_perm {P Q : Pl} (h : Q.Perm P) : GaOk P Q where
  ev g := Ev_perm h g
  sub t ht := ⟨t, h.mem_iff.1 ht, rfl⟩
  l1 := Nat.le_of_eq (L1P_perm h)
  len := Nat.le_of_eq h.length_eq
theorem GaOk.trans {P Q R : Pl} (h : GaOk P Q) (h' : GaOk Q R) : GaOk P R where
  ev g := (h'.ev g).trans (h.ev g)
  sub t ht := by
    obtain ⟨s, hs, e⟩ := h'.sub t ht
    obtain ⟨r, hr, e2⟩ := h.sub s hs
    exact ⟨r, hr, e2.trans e⟩
  l1 := Nat.le_trans h'.l1 h.l1
  len := Nat.le_trans h'.len h.len
theorem GaOk.refl (P : Pl) : GaOk P P := .of_perm (List.Perm.refl _)
theorem GaOk.box {b : Nat → Int} {P P' : Pl} (h : GaOk P P') (hb : BxP b P) : BxP b P' := fun t ht => by
  obtain ⟨s, hs, e⟩ := h.sub t ht
  rw [← e]; exact hb s hs
theorem GaOk.nil : GaOk [] [] := .refl _
/-- one more term -/
theorem GaOk.snoc {P P' : Pl} (h : GaOk P P') (t : List Int × Int) : GaOk (P ++ [t]) (P' ++ [t]) where
  ev g := by rw [Ev_append, Ev_append, h.ev]
  sub s hs := by
    rcases List.mem_append.1 hs with hs | hs
    · obtain ⟨r, hr, e⟩ := h.sub s hs
      exact ⟨r, List.mem_append_left _ hr, e⟩
    · exact ⟨s, List.mem_append_right _ hs, rfl⟩
  l1 := by rw [L1P_append, L1P_append]; have := h.l1; omega
  len := by rw [List.length_append, List.length_append]; have := h.len; omega
/-- one more term, of number 0, left out -/
theorem GaOk.skip {P P' : Pl} (h : GaOk P P') {t : List Int × Int} (h0 : t.2 = 0) : GaOk (P ++ [t]) P' where
  ev g := by rw [Ev_append, h.ev, Ev_cons, h0, Ev_nil]; simp
  sub s hs := by
    obtain ⟨r, hr, e⟩ := h.sub s hs
    exact ⟨r, List.mem_append_left _ hr, e⟩
  l1 := by rw [L1P_append]; have := h.l1; omega
  len := by rw [List.length_append]; have := h.len; omega
/-- one more term, added to the last one -/
theorem GaOk.join {P S : Pl} {s t : List Int × Int} (h : GaOk P (S ++ [s])) (he : s.1 = t.1) : GaOk (P ++ [t]) (S ++ [(s.1, s.2 + t.2)]) where
  ev g := by
    have := h.ev g
    rw [Ev_append, Ev_cons, Ev_nil] at this
    rw [Ev_append, Ev_append, Ev_cons, Ev_cons, Ev_nil, ← this, ← he]
    dsimp only
    rw [Int.add_mul]
    omega
  sub r hr := by
    rcases List.mem_append.1 hr with hr | hr
    · obtain ⟨q, hq, e⟩ := h.sub r (List.mem_append_left _ hr)
      exact ⟨q, List.mem_append_left _ hq, e⟩
    · rw [List.mem_singleton] at hr
      obtain ⟨q, hq, e⟩ := h.sub s (List.mem_append_right _ (List.mem_singleton.2 rfl))
      exact ⟨q, List.mem_append_left _ hq, by rw [hr]; exact e⟩
  l1 := by
    have := h.l1
    rw [L1P_append, L1P, L1P] at this
    rw [L1P_append, L1P_append, L1P, L1P, L1P, L1P]
    have := Int.natAbs_add_le s.2 t.2
    dsimp only
    omega
  len := by
    have := h.len
    rw [List.length_append] at this
    rw [List.length_append, List.length_append]
    simp only [List.length_cons, List.length_nil] at *
    omega
/-- part of a list -/
def sub (a b : Nat) (P : Pl) : Pl := (P.take b).drop a
theorem sub_nil {a : Nat} {P : Pl} : sub a a P = [] := by
  unfold sub
  rw [List.drop_eq_nil_iff, List.length_take]
  omega
theorem sub_cons {a b : Nat} {P : Pl} (h : a < b) (hb : b ≤ P.length) : sub a b P = P.getD a tmD :: sub (a + 1) b P := by
  unfold sub
  have hl : a < (P.take b).length := by rw [List.length_take]; omega
  rw [List.drop_eq_getElem_cons hl]
  congr 1
  rw [List.getElem_take]
  simp [List.getD_eq_getElem?_getD, show a < P.length by omega]
theorem sub_all {P : Pl} {n : Nat} (h : n = P.length) : sub 0 n P = P := by
  unfold sub
  rw [List.drop_zero, h, List.take_length]
theorem sub_join {a b c : Nat} {P : Pl} (h1 : a ≤ b) (h2 : b ≤ c) (h3 : c ≤ P.length) : sub a b P ++ sub b c P = sub a c P := by
  unfold sub
  have e : P.take b = (P.take c).take b := by rw [List.take_take, Nat.min_eq_left h2]
  rw [e]
  have : (P.take c).drop a = ((P.take c).take b).drop a ++ (P.take c).drop b := by
    conv => lhs; rw [← List.take_append_drop b (P.take c)]
    rw [List.drop_append, List.length_take, List.length_take]
    congr 1
    rw [show a - min b (min c P.length) = 0 by omega, List.drop_zero]
  exact this.symm
/-- two parts that are being merged -/
theorem merge_left {N Q A : Pl} {i m : Nat} {B : Pl} (h : (N ++ sub i m Q ++ B).Perm A) (hi : i < m) (hm : m ≤ Q.length) : ((N ++ [Q.getD i tmD]) ++ sub (i + 1) m Q ++ B).Perm A := by
  rw [sub_cons hi hm] at h
  refine List.Perm.trans (List.Perm.of_eq ?_) h
  simp
theorem merge_right {N Q A C : Pl} {j m : Nat} (h : (N ++ C ++ sub j m Q).Perm A) (hi : j < m) (hm : m ≤ Q.length) : ((N ++ [Q.getD j tmD]) ++ C ++ sub (j + 1) m Q).Perm A := by
  rw [sub_cons hi hm] at h
  refine List.Perm.trans ?_ h
  rw [List.append_assoc, List.append_assoc, List.append_assoc]
  refine List.Perm.append_left _ ?_
  show (Q.getD j tmD :: (C ++ sub (j + 1) m Q)).Perm (C ++ Q.getD j tmD :: sub (j + 1) m Q)
  exact (List.perm_middle).symm

end Go.Proofs.Ytllmhicmikpfeaa

namespace Go.Proofs.Ytllmhicmikpfeaa
set_option linter.all false
open Go.RowKit

theorem cell_kept {w w' : World} {a : Addr} {v : Value} (hb : Below w.heap.size w w') (h : w.cell? a = some v) : w'.cell? a = some v := by
  rw [hb.cell (World.block_lt_of_cell? _ _ h)]; exact h
def rkL (xs : List Int) (c : Int) : Nat → Nat
  | 0 => 0
  | r + 1 => rkL xs c r + if xs.getD r 0 < c then 1 else 0
theorem rkL_le (xs : List Int) (c : Int) : ∀ r, rkL xs c r ≤ r
  | 0 => Nat.le_refl _
  | r + 1 => by have := rkL_le xs c r; unfold rkL; split <;> omega

end Go.Proofs.Ytllmhicmikpfeaa

namespace Go.Proofs.Ytllmhicmikpfeaa
set_option linter.all false
open Go.RowKit

/-- one permutation below another one, by the ranks -/
def blwB (v w : List Int) : Bool := (List.range (v.length + 1)).all fun r => (List.range (v.length + 1)).all fun c => decide (rkL w (c : Int) r ≤ rkL v (c : Int) r)
/-- a check that all pairs of permutations of at most four pass -/
def pair4 (B : List Int → List Int → Bool) : Bool := (List.range 5).all fun n => (permsL n).all fun v => (permsL n).all fun w => !decide (1 ≤ n) || B v w
theorem pair4_at {B : List Int → List Int → Bool} (h : pair4 B = true) {v w : List Int} {n : Nat} (hv : P5 n v) (hw : P5 n w) (h4 : n ≤ 4) : B v w = true := by
  unfold pair4 at h
  rw [List.all_eq_true] at h
  have a := h n (List.mem_range.2 (by omega))
  rw [List.all_eq_true] at a
  have mv := perm_mem hv.ok (by rw [hv.len]; omega)
  have mw := perm_mem hw.ok (by rw [hw.len]; omega)
  rw [hv.len] at mv
  rw [hw.len] at mw
  have b := a v mv
  rw [List.all_eq_true] at b
  have c := b w mw
  have : 1 ≤ n := by have := hv.ok; simp only [permOk, decide_eq_true_eq] at this; have := hv.len; omega
  simpa [this] using c
def bruB (v w : List Int) : Bool := (List.range (v.length - 1)).all fun k => !ascB k w || decide (blwB v (sw k w) = (blwB v w || (!ascB k v && blwB (sw k v) w)))
def blidB (v : List Int) : Bool := decide (blwB v (idL v.length) = decide (idL v.length = v)) && (decide (lnN v = 0) || (List.range (v.length - 1)).any fun k => !ascB k v)
set_option maxRecDepth 100000 in
theorem bru_all : pair4 bruB = true := by decide +kernel
set_option maxRecDepth 100000 in
theorem blid_all : all5 blidB = true := by decide +kernel
theorem bru_at {n : Nat} {v w : List Int} (hv : P5 n v) (hw : P5 n w) (h4 : n ≤ 4) {k : Nat} (hk : k + 1 < n) (ha : ascB k w = true) : blwB v (sw k w) = (blwB v w || (!ascB k v && blwB (sw k v) w)) := by
  have := pair4_at bru_all hv hw h4
  simp only [bruB, List.all_eq_true, List.mem_range] at this
  have := this k (by rw [hv.len]; omega)
  rw [ha] at this
  simpa using this
theorem blid_at {n : Nat} {v : List Int} (hv : P5 n v) : blwB v (idL n) = decide (idL n = v) ∧ (lnN v = 0 ∨ ∃ k, k + 1 < n ∧ ascB k v = false) := by
  have := all5_at blid_all hv.ok (by have := hv.len; have := hv.le; omega)
  simp only [blidB, Bool.and_eq_true, decide_eq_true_eq, Bool.or_eq_true, List.any_eq_true, List.mem_range] at this
  rw [hv.len] at this
  refine ⟨this.1, this.2.imp_right fun ⟨k, hk, h⟩ => ⟨k, by omega, by simpa using h⟩⟩
theorem id_of_len {n : Nat} {w : List Int} (hw : P5 n w) (h0 : lnN w = 0) : w = idL n := by
  have := (wrd_at hw).1
  unfold fstL at this
  rw [h0] at this
  exact this.symm
theorem len_desc {n : Nat} {w : List Int} (hw : P5 n w) {k : Nat} (hk : k + 1 < n) (ha : ascB k w = false) : lnN (sw k w) + 1 = lnN w := by
  have a := (wrd_at hw).2.2.2
  have b := (wrd_at (hw.sw hk)).2.2.2
  have c := (hw.desc hk ha).1
  omega
end Go.Proofs.Ytllmhicmikpfeaa

namespace Go.Proofs.Ytllmhicmikpfeaa
set_option linter.all false
open Go.RowKit

/-- how many of the t numbers behind place i are less than the one there -/
def cdN (xs : List Int) (i t : Nat) : Nat := ((List.range t).filter fun (s : Nat) => decide (xs.getD (i + 1 + s) 0 < xs.getD i 0)).length
theorem cdN_zero (xs : List Int) (i : Nat) : cdN xs i 0 = 0 := rfl
theorem cdN_yes {xs : List Int} {i t : Nat} (h : xs.getD (i + 1 + t) 0 < xs.getD i 0) : cdN xs i (t + 1) = cdN xs i t + 1 := by
  unfold cdN
  rw [List.range_succ, List.filter_append, List.length_append]
  have e : List.filter (fun (s : Nat) => decide (xs.getD (i + 1 + s) 0 < xs.getD i 0)) [t] = [t] := by
    rw [List.filter_cons, if_pos (decide_eq_true h)]; rfl
  rw [e]; rfl
theorem cdN_no {xs : List Int} {i t : Nat} (h : ¬ xs.getD (i + 1 + t) 0 < xs.getD i 0) : cdN xs i (t + 1) = cdN xs i t := by
  unfold cdN
  rw [List.range_succ, List.filter_append, List.length_append]
  have e : List.filter (fun (s : Nat) => decide (xs.getD (i + 1 + s) 0 < xs.getD i 0)) [t] = [] := by
    rw [List.filter_cons, if_neg (by rw [decide_eq_false h]; simp)]; rfl
  rw [e]; rfl
theorem cdN_le (xs : List Int) (i t : Nat) : cdN xs i t ≤ t := by
  unfold cdN
  exact Nat.le_trans (List.length_filter_le _ _) (by simp)
/-- the code -/
def codeN (xs : List Int) (i : Nat) : Nat := cdN xs i (xs.length - (i + 1))
def codeL (xs : List Int) : List Int := (List.range xs.length).map fun i => (codeN xs i : Int)
theorem codeL_length (xs : List Int) : (codeL xs).length = xs.length := by simp [codeL]
theorem codeL_getD {xs : List Int} {i : Nat} (h : i < xs.length) : (codeL xs).getD i 0 = (codeN xs i : Int) := by simp [codeL, List.getD_eq_getElem?_getD, h]
/-- the length, place by place -/
def lenTo (xs : List Int) : Nat → Nat
  | 0 => 0
  | k + 1 => lenTo xs k + codeN xs k
def lenP (xs : List Int) : Nat := lenTo xs xs.length
theorem lenTo_le (xs : List Int) : ∀ k, lenTo xs k ≤ k * xs.length
  | 0 => by simp [lenTo]
  | k + 1 => by
    have := lenTo_le xs k
    have h2 := cdN_le xs k (xs.length - (k + 1))
    unfold lenTo codeN
    rw [Nat.succ_mul]; omega

set_option maxRecDepth 100000 in
set_option maxHeartbeats 2000000 in
theorem implCode_any (v : Value) (xs : List Int) (w : World) (h : Ints w v xs) (hp : permOk xs = true) :
    Calls Try.prog 44 #[v] w (RetI w (codeL xs)) := by
  obtain ⟨hl1, hl7, _, _⟩ := of_decide_eq_true hp
  have Hp := Lib.hid hp
  have Hh := Lib.hid h
  obtain ⟨p, cap, rfl, ⟨hx1, hx⟩, hxc⟩ := h
  obtain ⟨b, off, rfl, hc⟩ := hxc (by omega)
  unfold maxLen at hx
  have Hc := Lib.hid hc
  have hmk := run_make_row' (P := Try.prog) 24 3 (.int .i64 0) 8 Try.underlying24 info_int rfl .i64 .i64 xs.length (by omega) (by omega)
  have Hmk := Lib.hid hmk
  clear hp hxc hc hmk
  go_enter Try.func44, Try.ntmps44
  go_wp2_with fail
  refine (implIsPerm_b _ xs _ Hp.out _ Hh.out).mono ?_
  rintro e w1 ⟨rfl, hb⟩
  have Hb1 := Lib.hid hb
  have hmk := Hmk.out
  clear hb
  go_wp2_with fail
  clear hmk
  obtain ⟨w2, hw2⟩ : ∃ x, x = w1.alloc (.cells (madeCells #[Value.int .i64 0] xs.length) 3) := ⟨_, rfl⟩
  have Hbl := Lib.hid (show Below w.heap.size w w2 by rw [hw2]; exact Hb1.out.trans ((below_alloc w1 _).mono Hb1.out.size))
  have Hs := Lib.hid (show w.heap.size ≤ w1.heap.size ∧ w2.heap.size = w1.heap.size + 1 from ⟨Hb1.out.size, by rw [hw2, size_alloc]⟩)
  have hO : OwnF w2 w1.heap.size (w1.heap.size + 1) 3 (.slice (some ⟨w1.heap.size, 0, none⟩) xs.length xs.length) xs.length (fun _ => .int .i64 0) := by
    rw [hw2]
    have := World.rowIs_alloc w1 (madeCells #[Value.int .i64 0] xs.length) 3 (fun _ => .int .i64 0) (fun k hk => by
      simp [madeCells] at hk
      simp [madeCells, hk, Nat.mod_one])
    exact OwnF.mk' (F := fun _ => .int .i64 0) (by simpa [madeCells] using this) (Nat.le_refl _) (by omega) (Nat.le_refl _) (by unfold maxLen; omega) fun j hj => rfl
  have HO := Lib.hid hO
  rw [← hw2]
  clear hw2 hO
  go_loopg [15] xs.length (fun gg s15 wr => ∃ i : Nat, i ≤ xs.length ∧ gg = xs.length - i ∧ s15 = .int .i64 i ∧ Frm w1.heap.size (w1.heap.size + 1) w2 wr ∧ Hid (OwnF wr w1.heap.size (w1.heap.size + 1) 3 (.slice (some ⟨w1.heap.size, 0, none⟩) xs.length xs.length) xs.length (fun j => .int .i64 (if j < i then (codeN xs j : Int) else 0))))
  case atStart => exact ⟨0, Nat.zero_le _, rfl, rfl, Frm.refl _ _ _, HO.out.congr fun j hj => by simp⟩
  case round =>
    obtain ⟨i, hi, rfl, rfl, hF, hO⟩ := hrel
    obtain ⟨wo, rfl⟩ : ∃ x : World, x = wr := ⟨_, rfl⟩
    have HF := Lib.hid hF
    have HO1 := Lib.hid hO.out
    clear hO hF
    have Hbw := fun (W : World) (hf : Frm w1.heap.size (w1.heap.size + 1) w2 W) => show Below w.heap.size w W from Hbl.out.trans (hf.below Hs.out.1 Hbl.out.size)
    have HBw := Lib.hid Hbw
    clear Hbw
    by_cases hlt : i < xs.length
    · have hlt2 : (i : Int) < (xs.length : Int) := by omega
      have hlt3 : (0 : Int) ≤ (i : Int) := by omega
      have hlt4 : (i : Int) + 1 ≤ (xs.length : Int) := by omega
      have hlt5 : (0 : Int) ≤ (i : Int) + 1 := by omega
      have hlt6 : ((i : Int) + 1).toNat = i + 1 := by omega
      by_cases hcap : cap = i + 1
      · have hn : xs.length - (i + 1) = 0 := by omega
        have Hcap := Lib.hid hcap
        have hcap3 : cap - (i + 1) = 0 := by omega
        have hcap4 : (i : Int) + 1 ≤ (cap : Int) := by omega
        clear hcap
        go_wp2_with fail
        go_loopg [23] (xs.length - (i + 1)) (fun gg s23 wr => ∃ t : Nat, t ≤ xs.length - (i + 1) ∧ gg = xs.length - (i + 1) - t ∧ s23 = .int .i64 t ∧ Frm w1.heap.size (w1.heap.size + 1) w2 wr ∧ Hid (OwnF wr w1.heap.size (w1.heap.size + 1) 3 (.slice (some ⟨w1.heap.size, 0, none⟩) xs.length xs.length) xs.length (fun j => .int .i64 (if j < i then (codeN xs j : Int) else if j = i then (cdN xs i t : Int) else 0))))
        case atStart => exact ⟨0, Nat.zero_le _, rfl, rfl, HF.out, HO1.out.congr fun j hj => by
          by_cases h1 : j < i
          · simp [h1]
          · simp [h1, cdN_zero]⟩
        case round =>
          obtain ⟨t, ht, rfl, rfl, hF, hO⟩ := hrel
          have HF2 := Lib.hid hF
          have HO2 := Lib.hid hO.out
          clear hF hO
          by_cases htl : t < xs.length - (i + 1)
          · exact absurd htl (by omega)
          · obtain rfl : t = xs.length - (i + 1) := by omega
            have htl2 : ¬ ((xs.length - (i + 1) : Nat) : Int) < ((xs.length - (i + 1) : Nat) : Int) := by omega
            have HO3 := Lib.hid (show OwnF wr w1.heap.size (w1.heap.size + 1) 3 (.slice (some ⟨w1.heap.size, 0, none⟩) xs.length xs.length) xs.length (fun j => .int .i64 (if j < i + 1 then (codeN xs j : Int) else 0)) from HO2.out.congr fun j hj => by
              by_cases h1 : j < i
              · rw [if_pos h1, if_pos (by omega)]
              · by_cases h2 : j = i
                · subst h2; rw [if_neg h1, if_pos rfl, if_pos (by omega)]; rfl
                · rw [if_neg h1, if_neg h2, if_neg (by omega)])
            go_wp2_with fail
            go_roundg (xs.length - (i + 1))
            case measure => omega
            case rel => exact ⟨i + 1, by omega, rfl, by go_num, HF2.out, HO3.out⟩
      · have hcap2 : ¬ cap - (i + 1) = 0 := by omega
        go_wp2_with fail
        go_loopg [23] (xs.length - (i + 1)) (fun gg s23 wr => ∃ t : Nat, t ≤ xs.length - (i + 1) ∧ gg = xs.length - (i + 1) - t ∧ s23 = .int .i64 t ∧ Frm w1.heap.size (w1.heap.size + 1) w2 wr ∧ Hid (OwnF wr w1.heap.size (w1.heap.size + 1) 3 (.slice (some ⟨w1.heap.size, 0, none⟩) xs.length xs.length) xs.length (fun j => .int .i64 (if j < i then (codeN xs j : Int) else if j = i then (cdN xs i t : Int) else 0))))
        case atStart => exact ⟨0, Nat.zero_le _, rfl, rfl, HF.out, HO1.out.congr fun j hj => by
          by_cases h1 : j < i
          · simp [h1]
          · simp [h1, cdN_zero]⟩
        case round =>
          obtain ⟨t, ht, rfl, rfl, hF, hO⟩ := hrel
          have HF2 := Lib.hid hF
          have HO2 := Lib.hid hO.out
          clear hF hO
          by_cases htl : t < xs.length - (i + 1)
          · have htl2 : (t : Int) < ((xs.length - (i + 1) : Nat) : Int) := by omega
            have htl3 : (0 : Int) ≤ (t : Int) := by omega
            have hk1 := Hc.out (i + 1 + t) (by omega)
            have hk2 := Hc.out i hlt
            have hbw := HBw.out wr HF2.out
            have c1 : wr.cell? ⟨b, off + (i + 1) + t, none⟩ = some (.int .i64 (xs.getD (i + 1 + t) 0)) := by
              rw [show off + (i + 1) + t = off + (i + 1 + t) by omega, hbw.cell (p := ⟨b, off + (i + 1 + t), none⟩) (World.block_lt_of_cell? _ _ hk1), hk1]; rfl
            have c2 : wr.cell? ⟨b, off + i, none⟩ = some (.int .i64 (xs.getD i 0)) := by
              rw [hbw.cell (p := ⟨b, off + i, none⟩) (World.block_lt_of_cell? _ _ hk2), hk2]; rfl
            have c3 := HO2.out.cell hlt
            have c4 := HO2.out.frozen i
            rw [if_neg (Nat.lt_irrefl i), if_pos rfl] at c3
            have hle := cdN_le xs i t
            obtain ⟨x, hx'⟩ : ∃ x, x = xs.getD i 0 := ⟨_, rfl⟩
            obtain ⟨y, hy'⟩ : ∃ y, y = xs.getD (i + 1 + t) 0 := ⟨_, rfl⟩
            obtain ⟨c, hc'⟩ : ∃ c, c = cdN xs i t := ⟨_, rfl⟩
            rw [← hy'] at c1
            rw [← hx'] at c2
            rw [← hc'] at c3 hle
            have Hx := Lib.hid hx'
            have Hy := Lib.hid hy'
            have Hcc := Lib.hid hc'
            clear hk1 hk2 hbw hx' hy' hc'
            by_cases hlt9 : y < x
            · have HG := Lib.hid (show cdN xs i (t + 1) = c + 1 by rw [cdN_yes (by rw [← Hx.out, ← Hy.out]; exact hlt9), Hcc.out])
              go_wp2_with fail
              go_roundg (xs.length - (i + 1) - (t + 1))
              case measure => omega
              case rel =>
                refine ⟨t + 1, by omega, rfl, by go_num, HF2.out.setCell (p := ⟨w1.heap.size, i, none⟩) (Nat.le_refl _) (Nat.lt_succ_self _) _, ?_⟩
                refine (HO2.out.set i _).congr fun j hj => ?_
                by_cases h1 : j = i
                · subst h1; rw [if_pos rfl, if_neg (Nat.lt_irrefl _), if_pos rfl, HG.out]; go_num
                · rw [if_neg h1]
                  simp only [h1, if_false]
            · have HG := Lib.hid (show cdN xs i (t + 1) = cdN xs i t from cdN_no (by rw [← Hx.out, ← Hy.out]; exact hlt9))
              go_wp2_with fail
              go_roundg (xs.length - (i + 1) - (t + 1))
              case measure => omega
              case rel => exact ⟨t + 1, by omega, rfl, by go_num, HF2.out, by show OwnF _ _ _ _ _ _ _; rw [HG.out]; exact HO2.out⟩
          · obtain rfl : t = xs.length - (i + 1) := by omega
            have htl2 : ¬ ((xs.length - (i + 1) : Nat) : Int) < ((xs.length - (i + 1) : Nat) : Int) := by omega
            have HO3 := Lib.hid (show OwnF wr w1.heap.size (w1.heap.size + 1) 3 (.slice (some ⟨w1.heap.size, 0, none⟩) xs.length xs.length) xs.length (fun j => .int .i64 (if j < i + 1 then (codeN xs j : Int) else 0)) from HO2.out.congr fun j hj => by
              by_cases h1 : j < i
              · rw [if_pos h1, if_pos (by omega)]
              · by_cases h2 : j = i
                · subst h2; rw [if_neg h1, if_pos rfl, if_pos (by omega)]; rfl
                · rw [if_neg h1, if_neg h2, if_neg (by omega)])
            go_wp2_with fail
            go_roundg (xs.length - (i + 1))
            case measure => omega
            case rel => exact ⟨i + 1, by omega, rfl, by go_num, HF2.out, HO3.out⟩
    · obtain rfl : i = xs.length := by omega
      have hlt2 : ¬ (xs.length : Int) < (xs.length : Int) := by omega
      have HO9 := Lib.hid (show OwnI 3 wo w1.heap.size (w1.heap.size + 1) (.slice (some ⟨w1.heap.size, 0, none⟩) xs.length xs.length) (codeL xs) by
        refine OwnF.ints ?_
        rw [codeL_length]
        exact HO1.out.congr fun j hj => by rw [if_pos hj]; unfold iv; rw [codeL_getD hj])
      go_wp2_with fail
      go_ret
      exact ⟨_, rfl, HO9.out.mono Hs.out.1 (by have := Hs.out.2; have := HF.out.size; omega), HBw.out _ HF.out⟩

set_option maxRecDepth 100000 in
set_option maxHeartbeats 2000000 in
theorem implLength_any (v : Value) (xs : List Int) (w : World) (h : Ints w v xs) (hp : permOk xs = true) :
    Calls Try.prog 19 #[v] w fun e w' => e = .returned (.int .i64 (lenP xs : Int)) ∧ Below w.heap.size w w' := by
  obtain ⟨hl1, hl7, _, _⟩ := of_decide_eq_true hp
  have Hp := Lib.hid hp
  have Hh := Lib.hid h
  clear hp h
  go_enter Try.func19, Try.ntmps19
  go_wp2_with fail
  refine (implIsPerm_b _ xs _ Hp.out _ Hh.out).mono ?_
  rintro e w1 ⟨rfl, hb⟩
  have Hb1 := Lib.hid hb
  have Hh1 := Lib.hid (Hh.out.below hb)
  clear hb
  go_wp2_with fail
  refine (implCode_any _ xs _ Hh1.out Hp.out).mono ?_
  rintro e w2 ⟨u, rfl, ho, hb⟩
  have hoi := ho.ints
  obtain ⟨p, cap, rfl, ⟨hx1, hx⟩, hxc⟩ := hoi
  rw [codeL_length] at *
  unfold maxLen at hx
  have Hb2 := Lib.hid (Hb1.out.trans (hb.mono Hb1.out.size))
  obtain ⟨b, off, rfl, hc⟩ := hxc (by omega)
  have Hc := Lib.hid hc
  clear hb ho hxc hc
  go_wp2_with fail
  go_loop [3, 12] (fun s3 s12 => ∃ k : Nat, k ≤ xs.length ∧ s12 = .int .i64 k ∧ s3 = .int .i64 (lenTo xs k : Int)) (fun _ s12 => xs.length - (intOf s12).toNat)
  case atStart => exact ⟨0, Nat.zero_le _, rfl, rfl⟩
  case round =>
    obtain ⟨k, hk, rfl, rfl⟩ := hrel
    by_cases hlt : k < xs.length
    · have hlt2 : (k : Int) < (xs.length : Int) := by omega
      have hlt3 : (0 : Int) ≤ (k : Int) := by omega
      have c1 := Hc.out k hlt
      unfold iv at c1
      rw [codeL_getD hlt] at c1
      have hle := lenTo_le xs k
      have hle2 : codeN xs k ≤ xs.length - (k + 1) := cdN_le xs k _
      have hle3 : k * xs.length ≤ 7 * 7 := Nat.mul_le_mul (by omega) hl7
      have HS := Lib.hid (show lenTo xs (k + 1) = lenTo xs k + codeN xs k from rfl)
      obtain ⟨A, hA⟩ : ∃ A, A = lenTo xs k := ⟨_, rfl⟩
      obtain ⟨B, hB⟩ : ∃ B, B = codeN xs k := ⟨_, rfl⟩
      have hAl : A ≤ 49 := by omega
      have hBl : B ≤ 7 := by omega
      rw [← hA, ← hB] at HS
      rw [← hB] at c1
      rw [← hA]
      clear hA hB hle hle2 hle3
      go_wp2_with fail
      go_round
      case rel => exact ⟨k + 1, by omega, by go_num, by rw [HS.out]; go_num⟩
      case measure => simp [intOf]; omega
    · obtain rfl : k = xs.length := by omega
      have hlt2 : ¬ (xs.length : Int) < (xs.length : Int) := by omega
      go_wp2_with fail
      go_ret
      exact ⟨rfl, Hb2.out⟩

end Go.Proofs.Ytllmhicmikpfeaa

namespace Go.Proofs.Ytllmhicmikpfeaa
set_option linter.all false
set_option maxRecDepth 100000
open Go.RowKit

/-! ### words -/
def upK1 (k : Nat) (b : List Int) : List Int := if ascB k b then sw k b else b
def dmz (x : List Nat) (v : List Int) : List Int := x.foldl (fun w k => upK1 k w) v
theorem dmz_snoc (x : List Nat) (k : Nat) (v : List Int) : dmz (x ++ [k]) v = upK1 k (dmz x v) := by simp [dmz]
theorem dmz_append (x y : List Nat) (v : List Int) : dmz (x ++ y) v = dmz y (dmz x v) := by simp [dmz]
theorem play_snoc' (r : List Nat) (k : Nat) (u : List Int) : play (r ++ [k]) u = sw k (play r u) := by simp [play]
theorem play_ok {n : Nat} : ∀ (r : List Nat) (u : List Int), P5 n u → (∀ j ∈ r, j + 1 < n) → P5 n (play r u)
  | [], _, h, _ => h
  | k :: r, u, h, hr => play_ok r (sw k u) (h.sw (hr k List.mem_cons_self)) fun j hj => hr j (List.mem_cons_of_mem _ hj)
theorem ln_asc {n : Nat} {v : List Int} (h : P5 n v) {k : Nat} (hk : k + 1 < n) (ha : ascB k v = true) : lnN (sw k v) = lnN v + 1 := by
  have a := (wrd_at h).2.2.2
  have b := (wrd_at (h.sw hk)).2.2.2
  have c := (h.asc hk ha).1
  omega
theorem ln_step {n : Nat} {v : List Int} (h : P5 n v) {k : Nat} (hk : k + 1 < n) : lnN (sw k v) ≤ lnN v + 1 := by
  cases ha : ascB k v with
  | true => rw [ln_asc h hk ha]; exact Nat.le_refl _
  | false => have := len_desc h hk ha; omega
theorem ln_play {n : Nat} : ∀ (r : List Nat) (u : List Int), P5 n u → (∀ j ∈ r, j + 1 < n) → lnN (play r u) ≤ lnN u + r.length
  | [], _, _, _ => Nat.le_refl _
  | k :: r, u, h, hr => by
    have h1 := ln_play r (sw k u) (h.sw (hr k List.mem_cons_self)) fun j hj => hr j (List.mem_cons_of_mem _ hj)
    have h2 := ln_step h (hr k List.mem_cons_self)
    show lnN (play r (sw k u)) ≤ _
    rw [List.length_cons]; omega
/-- the last letter of a word that is as long as can be -/
theorem last_up {n : Nat} {r : List Nat} {k : Nat} {u : List Int} (hu : P5 n u) (hr : ∀ j ∈ r ++ [k], j + 1 < n) (h : lnN (play (r ++ [k]) u) = lnN u + (r ++ [k]).length) :
    k + 1 < n ∧ (∀ j ∈ r, j + 1 < n) ∧ P5 n (play r u) ∧ lnN (play r u) = lnN u + r.length ∧ ascB k (play r u) = true := by
  have hk : k + 1 < n := hr k (by simp)
  have hr' : ∀ j ∈ r, j + 1 < n := fun j hj => hr j (by simp [hj])
  have hp := play_ok r u hu hr'
  have h1 := ln_play r u hu hr'
  rw [play_snoc', List.length_append] at h
  simp only [List.length_singleton] at h
  have h2 := ln_step hp hk
  refine ⟨hk, hr', hp, by omega, ?_⟩
  cases ha : ascB k (play r u) with
  | true => rfl
  | false => have := len_desc hp hk ha; omega
/-- a word that makes longer at each step -/
theorem dmz_play {n : Nat} : ∀ (m : Nat) (r : List Nat) (u : List Int), r.length = m → P5 n u → (∀ j ∈ r, j + 1 < n) → lnN (play r u) = lnN u + r.length → dmz r u = play r u
  | 0, r, u, hm, _, _, _ => by rw [List.length_eq_zero_iff.1 hm]; rfl
  | m + 1, r, u, hm, hu, hr, h => by
    obtain ⟨r', k, rfl⟩ : ∃ r' k, r = r' ++ [k] := by
      rcases List.eq_nil_or_concat r with e | ⟨r', k, e⟩
      · rw [e] at hm; simp at hm
      · exact ⟨r', k, by simpa using e⟩
    obtain ⟨hk, hr', hp, hl, ha⟩ := last_up hu hr h
    rw [dmz_snoc, dmz_play m r' u (by simpa using hm) hu hr' hl, play_snoc', upK1, if_pos ha]
/-- a permutation after another -/
def cmpL (v u : List Int) : List Int := u.map fun x => v.getD x.toNat 0
theorem cmpL_length (v u : List Int) : (cmpL v u).length = u.length := by simp [cmpL]
theorem cmpL_getD {v u : List Int} {i : Nat} (h : i < u.length) : (cmpL v u).getD i 0 = v.getD (u.getD i 0).toNat 0 := by simp [cmpL, List.getD_eq_getElem?_getD, h]
theorem cmpL_sw (v u : List Int) {k : Nat} (hk : k + 1 < u.length) : cmpL v (sw k u) = sw k (cmpL v u) := by
  refine getD_eq_list (by rw [cmpL_length, sw_length, sw_length, cmpL_length]) fun j hj => ?_
  rw [cmpL_length, sw_length] at hj
  rw [cmpL_getD (by rw [sw_length]; exact hj)]
  unfold sw
  rw [swapL_getD (by omega) hk, swapL_getD (by rw [cmpL_length]; omega) (by rw [cmpL_length]; exact hk), cmpL_getD (by omega), cmpL_getD hk, cmpL_getD hj]
  by_cases h1 : j = k + 1
  · rw [if_pos h1, if_pos h1]
  · rw [if_neg h1, if_neg h1]
    by_cases h2 : j = k
    · rw [if_pos h2, if_pos h2]
    · rw [if_neg h2, if_neg h2]
theorem cmpL_id {n : Nat} {v : List Int} (hv : v.length = n) : cmpL v (idL n) = v := by
  refine getD_eq_list (by rw [cmpL_length, idL_length, hv]) fun j hj => ?_
  rw [cmpL_length, idL_length] at hj
  rw [cmpL_getD (by rw [idL_length]; exact hj), idL_getD hj, Int.toNat_natCast]
theorem cmpL_play {n : Nat} {v : List Int} : ∀ (r : List Nat) (u : List Int), u.length = n → (∀ j ∈ r, j + 1 < n) → cmpL v (play r u) = play r (cmpL v u)
  | [], _, _, _ => rfl
  | k :: r, u, hu, hr => by
    show cmpL v (play r (sw k u)) = play r (sw k (cmpL v u))
    rw [cmpL_play r (sw k u) (by rw [sw_length]; exact hu) fun j hj => hr j (List.mem_cons_of_mem _ hj), cmpL_sw v u (by rw [hu]; exact hr k List.mem_cons_self)]


end Go.Proofs.Ytllmhicmikpfeaa

namespace Go.Proofs.Ytllmhicmikpfeaa
set_option linter.all false
set_option maxRecDepth 100000
open Go.RowKit Go.Maps Go.WideMaps

/-! ### terms merged -/
def addM (t : List Int × Int) : Pl → Pl
  | [] => [t]
  | s :: l => if s.1 = t.1 then (s.1, s.2 + t.2) :: l else s :: addM t l
def nrm (P : Pl) : Pl := (P.foldl (fun l t => addM t l) []).filter fun t => decide (t.2 ≠ 0)
theorem Ev_addM (t : List Int × Int) (g : List Int → Int) : ∀ l, Ev (addM t l) g = Ev l g + t.2 * g t.1
  | [] => by rw [addM, Ev_cons]; simp [Ev]
  | s :: l => by
    rw [addM]
    by_cases h : s.1 = t.1
    · rw [if_pos h, Ev_cons, Ev_cons, ← h]; grind
    · rw [if_neg h, Ev_cons, Ev_cons, Ev_addM t g l]; grind
theorem Ev_foldM (g : List Int → Int) : ∀ (P acc : Pl), Ev (P.foldl (fun l t => addM t l) acc) g = Ev acc g + Ev P g
  | [], acc => by simp [Ev]
  | t :: P, acc => by
    rw [List.foldl_cons, Ev_foldM g P, Ev_addM, Ev_cons]; omega
theorem Ev_filter0 (g : List Int → Int) : ∀ P : Pl, Ev (P.filter fun t => decide (t.2 ≠ 0)) g = Ev P g
  | [] => rfl
  | t :: P => by
    rw [List.filter_cons]
    by_cases h : t.2 = 0
    · rw [if_neg (by simp [h]), Ev_cons, h, Ev_filter0 g P]; simp
    · rw [if_pos (by simpa using h), Ev_cons, Ev_cons, Ev_filter0 g P]
theorem Ev_nrm (P : Pl) (g : List Int → Int) : Ev (nrm P) g = Ev P g := by
  unfold nrm
  rw [Ev_filter0, Ev_foldM]
  show 0 + _ = _
  omega
/-- lowered, and merged at each step -/
def lowN : Nat → List Int → Pl → Pl
  | 0, _, P => P
  | f + 1, xs, P => match fasc xs with
    | none => P
    | some k => nrm (dvP k (lowN f (swapL xs k (k + 1)) P))

/-! ### numbers as variables -/
/-- seven exponents of variables, seven of numbers -/
def Hy (g : List Int → Int) (y : List Int) (e : List Int) : Int := g (e.take 7) * mono y (e.drop 7)
theorem getD_take7 (e : List Int) {i : Nat} (h : i < 7) : (e.take 7).getD i 0 = e.getD i 0 := by
  rw [List.getD_eq_getElem?_getD, List.getD_eq_getElem?_getD, List.getElem?_take, if_pos h]
theorem dvS_take (i : Nat) (e : List Int) (s t : Int) : (dvS i e s t).take 7 = dvS i (e.take 7) s t := by
  unfold dvS
  rw [List.take_set, List.take_set]
theorem dvS_drop {i : Nat} (e : List Int) (s t : Int) (h : i + 1 < 7) : (dvS i e s t).drop 7 = e.drop 7 := by
  unfold dvS
  rw [List.drop_set_of_lt (by omega), List.drop_set_of_lt (by omega)]
theorem Ev_dvK_H {i : Nat} (e : List Int) (lo hi c : Int) (n : Nat) (h : i + 1 < 7) (g : List Int → Int) (y : List Int) : Ev (dvK i e lo hi c n) (Hy g y) = Ev (dvK i (e.take 7) lo hi c n) g * mono y (e.drop 7) := by
  induction n with
  | zero => simp [dvK, Ev]
  | succ n ih =>
    rw [dvK_succ, dvK_succ, Ev_append, Ev_append, ih]
    simp only [Ev, Int.add_zero, Hy, dvS_take, dvS_drop e _ _ h]
    grind
theorem Ev_dvE_H {i : Nat} (e : List Int) (h : i + 1 < 7) (g : List Int → Int) (y : List Int) : Ev (dvE i e) (Hy g y) = Hy (fun e => Ev (dvE i e) g) y e := by
  show Ev (dvE i e) (Hy g y) = Ev (dvE i (e.take 7)) g * mono y (e.drop 7)
  unfold dvE
  rw [getD_take7 e (by omega), getD_take7 e h]
  split
  · exact Ev_dvK_H e _ _ _ _ h g y
  · exact Ev_dvK_H e _ _ _ _ h g y
theorem Ev_dvP_H {i : Nat} (P : Pl) (h : i + 1 < 7) (g : List Int → Int) (y : List Int) : Ev (dvP i P) (Hy g y) = Ev P (Hy (fun e => Ev (dvE i e) g) y) := by
  rw [Ev_dv]
  congr 1
  funext e
  exact Ev_dvE_H e h g y
theorem fasc_ltC {xs : List Int} {k : Nat} (h : fasc xs = some k) : k < xs.length - 1 := by
  unfold fasc at h
  exact List.mem_range.1 (List.mem_of_find?_eq_some h)
/-- two polynomials alike stay alike when they are lowered -/
theorem low_H {y : List Int} {P Q : Pl} (h : ∀ g, Ev P g = Ev Q (Hy g y)) : ∀ (f : Nat) (xs : List Int), xs.length ≤ 7 → ∀ g, Ev (lowP f xs P) g = Ev (lowN f xs Q) (Hy g y)
  | 0, _, _, g => h g
  | f + 1, xs, hl, g => by
    rw [lowP, lowN]
    cases hf : fasc xs with
    | none => exact h g
    | some k =>
      have hk := fasc_ltC hf
      show Ev (dvP k _) g = Ev (nrm (dvP k _)) _
      rw [Ev_nrm, Ev_dv, Ev_dvP_H _ (by omega)]
      exact low_H h f (swapL xs k (k + 1)) (by rw [swapL_length]; exact hl) _
theorem low_N {P : Pl} : ∀ (f : Nat) (xs : List Int), ∀ g, Ev (lowN f xs P) g = Ev (lowP f xs P) g
  | 0, _, g => rfl
  | f + 1, xs, g => by
    rw [lowP, lowN]
    cases hf : fasc xs with
    | none => rfl
    | some k =>
      show Ev (nrm (dvP k _)) g = Ev (dvP k _) g
      rw [Ev_nrm, Ev_dv, Ev_dv]
      exact low_N f _ _

/-! ### the highest polynomial -/
def topSJ (i : Nat) : Nat → Pl → Pl
  | 0, T => T
  | m + 1, T => rsP i (topSJ i m T) ++ sclP (-1) (rsP (7 + m) (topSJ i m T))
def topSI (n : Nat) : Nat → Pl
  | 0 => [([0, 0, 0, 0, 0, 0, 0, 0, 0, 0, 0, 0, 0, 0], 1)]
  | i + 1 => topSJ i (n - 1 - i) (topSI n i)
def Ok14 (P : Pl) : Prop := ∀ t ∈ P, t.1.length = 14 ∧ ∀ j, 0 ≤ t.1.getD j 0
theorem rsE_ok {i : Nat} {e : List Int} (h : e.length = 14 ∧ ∀ j, 0 ≤ e.getD j 0) : (rsE i e).length = 14 ∧ ∀ j, 0 ≤ (rsE i e).getD j 0 := by
  unfold rsE
  refine ⟨by rw [List.length_set]; exact h.1, fun j => ?_⟩
  rw [List.getD_eq_getElem?_getD, List.getElem?_set]
  have h1 := h.2 i
  have h2 := h.2 j
  rw [List.getD_eq_getElem?_getD] at h2
  split
  · split
    · show 0 ≤ e.getD i 0 + 1
      omega
    · exact Int.le_refl _
  · exact h2
theorem Ok14.rs {P : Pl} (h : Ok14 P) (i : Nat) : Ok14 (rsP i P) := fun t ht => by
  obtain ⟨s, hs, rfl⟩ := List.mem_map.1 ht
  exact rsE_ok (h s hs)
theorem Ok14.scl {P : Pl} (h : Ok14 P) (k : Int) : Ok14 (sclP k P) := fun t ht => by
  obtain ⟨s, hs, rfl⟩ := List.mem_map.1 ht
  exact h s hs
theorem Ok14.app {P Q : Pl} (h : Ok14 P) (h' : Ok14 Q) : Ok14 (P ++ Q) := fun t ht => (List.mem_append.1 ht).elim (h t) (h' t)
theorem topSJ_ok {i : Nat} {T : Pl} (h : Ok14 T) : ∀ m, Ok14 (topSJ i m T)
  | 0 => h
  | m + 1 => ((topSJ_ok h m).rs i).app (((topSJ_ok h m).rs (7 + m)).scl (-1))
theorem topSI_ok (n : Nat) : ∀ i, Ok14 (topSI n i)
  | 0 => fun t ht => by
    rw [topSI, List.mem_singleton] at ht
    rw [ht]
    refine ⟨rfl, fun j => ?_⟩
    match j with
    | 0 | 1 | 2 | 3 | 4 | 5 | 6 | 7 | 8 | 9 | 10 | 11 | 12 | 13 => exact Int.le_refl _
    | j + 14 => exact Int.le_refl _
  | i + 1 => topSJ_ok (topSI_ok n i) _
theorem Ev_congr {P : Pl} {g g' : List Int → Int} (h : ∀ t ∈ P, g t.1 = g' t.1) : Ev P g = Ev P g' := by
  induction P with
  | nil => rfl
  | cons t P ih => rw [Ev_cons, Ev_cons, h t List.mem_cons_self, ih fun s hs => h s (List.mem_cons_of_mem _ hs)]
theorem rs_low {i : Nat} (h : i < 7) (P : Pl) (g : List Int → Int) (y : List Int) : Ev (rsP i P) (Hy g y) = Ev P (Hy (fun e => g (rsE i e)) y) := by
  rw [Ev_rs]
  congr 1
  funext e
  unfold Hy rsE
  dsimp only
  rw [List.take_set, List.drop_set_of_lt h, getD_take7 e h]
theorem monoK_set (y e : List Int) {j : Nat} (hj : j < e.length) (v : Int) : ∀ k, monoK y (e.set j v) k * (if j < k then y.getD j 0 ^ (e.getD j 0).toNat else 1) = monoK y e k * (if j < k then y.getD j 0 ^ v.toNat else 1)
  | 0 => by simp [monoK]
  | k + 1 => by
    have ih := monoK_set y e hj v k
    rw [monoK, monoK]
    have hset : ∀ t, (e.set j v).getD t 0 = if t = j then v else e.getD t 0 := fun t => by
      rw [List.getD_eq_getElem?_getD, List.getElem?_set]
      by_cases e1 : j = t
      · subst e1; simp [hj]
      · rw [if_neg e1, if_neg (fun x => e1 x.symm), List.getD_eq_getElem?_getD]
    rw [hset k]
    by_cases h1 : k = j
    · subst h1
      rw [if_neg (by omega), if_neg (by omega)] at ih
      rw [if_pos rfl, if_pos (by omega), if_pos (by omega)]
      grind
    · rw [if_neg h1]
      by_cases h2 : j < k
      · rw [if_pos h2, if_pos h2] at ih
        rw [if_pos (by omega), if_pos (by omega)]
        grind
      · rw [if_neg h2, if_neg h2] at ih
        rw [if_neg (by omega), if_neg (by omega)]
        grind
theorem monoK_rs (y e : List Int) {j : Nat} (hj : j < e.length) (h0 : 0 ≤ e.getD j 0) : ∀ k, j < k → monoK y (rsE j e) k = y.getD j 0 * monoK y e k
  | 0, h => absurd h (by omega)
  | k + 1, h => by
    have hset : ∀ t, (rsE j e).getD t 0 = if t = j then e.getD j 0 + 1 else e.getD t 0 := fun t => by
      unfold rsE
      rw [List.getD_eq_getElem?_getD, List.getElem?_set]
      by_cases e1 : j = t
      · subst e1; simp [hj]
      · rw [if_neg e1, if_neg (fun x => e1 x.symm), List.getD_eq_getElem?_getD]
    have hlow : ∀ k, k ≤ j → monoK y (rsE j e) k = monoK y e k := fun k => by
      induction k with
      | zero => intro _; rfl
      | succ k ih =>
        intro hk
        rw [monoK, monoK, ih (by omega), hset k, if_neg (by omega)]
    rw [monoK, monoK, hset k]
    by_cases h1 : k = j
    · subst h1
      rw [if_pos rfl, hlow k (Nat.le_refl _), show (e.getD k 0 + 1).toNat = (e.getD k 0).toNat + 1 by omega, Int.pow_succ]
      grind
    · rw [if_neg h1, monoK_rs y e hj h0 k (by omega)]
      grind
theorem rs_high {j : Nat} (h : j < 7) {P : Pl} (hP : Ok14 P) (g : List Int → Int) (y : List Int) : Ev (rsP (7 + j) P) (Hy g y) = y.getD j 0 * Ev P (Hy g y) := by
  rw [Ev_rs, ← Ev_mul]
  refine Ev_congr fun t ht => ?_
  obtain ⟨hl, hn⟩ := hP t ht
  have e1 : (rsE (7 + j) t.1).take 7 = t.1.take 7 := by
    unfold rsE
    rw [List.take_set_of_le (by omega)]
  have e2 : (rsE (7 + j) t.1).drop 7 = rsE j (t.1.drop 7) := by
    unfold rsE
    rw [List.drop_set, if_neg (by omega), show 7 + j - 7 = j by omega, List.getD_eq_getElem?_getD, List.getD_eq_getElem?_getD, List.getElem?_drop]
  unfold Hy
  rw [e1, e2]
  have : mono y (rsE j (t.1.drop 7)) = y.getD j 0 * mono y (t.1.drop 7) := monoK_rs y _ (by rw [List.length_drop]; omega) (by
    rw [List.getD_eq_getElem?_getD, List.getElem?_drop, ← List.getD_eq_getElem?_getD]
    exact hn _) 7 h
  rw [this]
  grind
theorem topJ_H {i : Nat} (hi : i < 7) {T Q : Pl} {y : List Int} (hQ : Ok14 Q) (h : ∀ g, Ev T g = Ev Q (Hy g y)) : ∀ m, m ≤ 7 → ∀ g, Ev (topJ i y m T) g = Ev (topSJ i m Q) (Hy g y)
  | 0, _, g => h g
  | m + 1, hm, g => by
    rw [topJ, topSJ, Ev_append, Ev_append, Ev_rs, Ev_scl, Ev_mul, Ev_scl, Ev_mul, rs_low hi, rs_high (by omega) (topSJ_ok hQ m), topJ_H hi hQ h m (by omega), topJ_H hi hQ h m (by omega)]
    grind
theorem topI_H {n : Nat} (hn : n ≤ 7) (y : List Int) : ∀ i, i ≤ n → ∀ g, Ev (topI n y i) g = Ev (topSI n i) (Hy g y)
  | 0, _, g => by
    rw [topI, topSI, Ev_cons, Ev_cons]
    simp [Ev, Hy, mono, monoK]
  | i + 1, hi, g => topJ_H (by omega) (topSI_ok n i) (topI_H hn y i (by omega)) _ (by omega) g
/-- a double polynomial, the numbers as variables -/
def symW (w : List Int) : Pl := lowN 10 w (nrm (topSI w.length w.length))
theorem sym_eq {w : List Int} (hw : w.length ≤ 7) (y : List Int) (g : List Int → Int) : Ev (dblP w y) g = Ev (symW w) (Hy g y) :=
  low_H (fun g => by rw [Ev_nrm]; exact topI_H hw y _ (Nat.le_refl _) g) 10 w hw g

end Go.Proofs.Ytllmhicmikpfeaa
