/-
  What divided differences do to the values of a polynomial, and what a change by multiples of a number does. Plain.
  Neighbours of permutations of at most five, and the divided differences along any way. Plain.
  The reference's code of a list, and its place among the permutations.
  For regions that draw their order: append as a step; what is kept of two boxes and the result's cell.
  The inverse permutation, on both sides.
  The identity, as the reference makes it.
  The reference's words and its sums over subwords. Plain.
  l1Same, slices.Equal, l7Same.
-/
import Derived.Test.YtfpjenmehoemcaaJ6
import Derived.Test.YtfpjenmehoemcaaJ4
import Derived.Test.YtfpjenmehoemcaaJ5
namespace Go.Proofs.Ytfpjenmehoemcaa
set_option linter.all false
open Go.RowKit

/-! ### alike but for multiples of N -/
def Mg (N a b : Int) : Prop := ∃ m, a = b + N * m
theorem Mg.refl (N a : Int) : Mg N a a := ⟨0, by simp⟩
theorem Mg.symm {N a b : Int} (h : Mg N a b) : Mg N b a := by
  obtain ⟨m, rfl⟩ := h
  exact ⟨-m, by rw [Int.mul_neg]; omega⟩
theorem Mg.trans {N a b c : Int} (h : Mg N a b) (h' : Mg N b c) : Mg N a c := by
  obtain ⟨m, rfl⟩ := h
  obtain ⟨m', rfl⟩ := h'
  exact ⟨m' + m, by rw [Int.mul_add]; omega⟩
theorem Mg.add {N a b c e : Int} (h : Mg N a b) (h' : Mg N c e) : Mg N (a + c) (b + e) := by
  obtain ⟨m, rfl⟩ := h
  obtain ⟨m', rfl⟩ := h'
  exact ⟨m + m', by rw [Int.mul_add]; omega⟩
theorem Mg.mul {N a b c e : Int} (h : Mg N a b) (h' : Mg N c e) : Mg N (a * c) (b * e) := by
  obtain ⟨m, rfl⟩ := h
  obtain ⟨m', rfl⟩ := h'
  refine ⟨m * e + b * m' + N * m * m', ?_⟩
  grind
theorem Mg.neg {N a b : Int} (h : Mg N a b) : Mg N (-a) (-b) := by
  obtain ⟨m, rfl⟩ := h
  exact ⟨-m, by rw [Int.mul_neg]; omega⟩
theorem Mg.sub {N a b c e : Int} (h : Mg N a b) (h' : Mg N c e) : Mg N (a - c) (b - e) := by
  have := h.add h'.neg
  rw [Int.sub_eq_add_neg, Int.sub_eq_add_neg]
  exact this
theorem Mg.pow {N a b : Int} (h : Mg N a b) : ∀ n : Nat, Mg N (a ^ n) (b ^ n)
  | 0 => by rw [Int.pow_zero, Int.pow_zero]; exact Mg.refl _ _
  | n + 1 => by rw [Int.pow_succ, Int.pow_succ]; exact (Mg.pow h n).mul h
/-- a number that is a multiple of all great numbers is 0 -/
theorem Mg.zero {D : Int} (c : Int) (h : ∀ N, c < N → 0 < N → Mg N D 0) : D = 0 := by
  obtain ⟨K, h1, h2, h3, h4⟩ : ∃ K : Int, c < K ∧ 0 < K ∧ D < K ∧ -D < K := ⟨1 + (c.natAbs : Int) + (D.natAbs : Int), by omega, by omega, by omega, by omega⟩
  obtain ⟨m, hm⟩ := h K h1 h2
  rcases Int.lt_trichotomy m 0 with h0 | h0 | h0
  · have := Int.mul_le_mul_of_nonneg_left (show m ≤ -1 by omega) (show 0 ≤ K by omega)
    rw [Int.mul_neg, Int.mul_one] at this
    omega
  · rw [h0] at hm; simpa using hm
  · have := Int.mul_le_mul_of_nonneg_left (show 1 ≤ m by omega) (show 0 ≤ K by omega)
    rw [Int.mul_one] at this
    omega

theorem Ev_mg {N : Int} {g g' : List Int → Int} (h : ∀ e, Mg N (g e) (g' e)) : ∀ P : Pl, Mg N (Ev P g) (Ev P g')
  | [] => Mg.refl _ _
  | p :: l => ((Mg.refl N p.2).mul (h p.1)).add (Ev_mg h l)
theorem mono_mg {N : Int} {xs xs' : List Int} (h : ∀ i, Mg N (xs.getD i 0) (xs'.getD i 0)) (e : List Int) : Mg N (mono xs e) (mono xs' e) := by
  unfold mono
  have : ∀ n, Mg N (monoK xs e n) (monoK xs' e n) := fun n => by
    induction n with
    | zero => exact Mg.refl _ _
    | succ n ih => exact ih.mul ((h n).pow _)
  exact this 7
/-- two polynomials have values alike but for multiples of N -/
def PMg (N : Int) (P Q : Pl) : Prop := ∀ g, Mg N (Ev P g) (Ev Q g)
theorem PMg.dv {N : Int} {P Q : Pl} (h : PMg N P Q) (k : Nat) : PMg N (dvP k P) (dvP k Q) := fun g => by
  rw [Ev_dv, Ev_dv]; exact h _
theorem PMg.low {N : Int} {P Q : Pl} (h : PMg N P Q) : ∀ f xs, PMg N (lowP f xs P) (lowP f xs Q)
  | 0, _ => h
  | f + 1, xs => by
    rw [lowP, lowP]
    cases fasc xs with
    | none => exact h
    | some k => exact (PMg.low h f _).dv k
theorem PMg.top {N : Int} {ys ys' : List Int} (h : ∀ i, Mg N (ys.getD i 0) (ys'.getD i 0)) (n : Nat) : ∀ i, PMg N (topI n ys i) (topI n ys' i)
  | 0 => fun g => Mg.refl _ _
  | i + 1 => by
    rw [topI, topI]
    have : ∀ m, PMg N (topJ i ys m (topI n ys i)) (topJ i ys' m (topI n ys' i)) := fun m => by
      induction m with
      | zero => exact PMg.top h n i
      | succ m ih =>
        intro g
        rw [topJ, topJ, Ev_append, Ev_append, Ev_rs, Ev_rs, Ev_scl, Ev_scl, Ev_mul, Ev_mul]
        exact (ih _).add ((h m).neg.mul (ih g))
    exact this _

/-! ### exponents are not below 0 -/
def Pos7 (P : Pl) : Prop := ∀ p ∈ P, p.1.length = 7 ∧ ∀ x ∈ p.1, (0 : Int) ≤ x
theorem list7 {e : List Int} (h : e.length = 7) : ∃ a0 a1 a2 a3 a4 a5 a6, e = [a0, a1, a2, a3, a4, a5, a6] := by
  match e, h with
  | [a0, a1, a2, a3, a4, a5, a6], _ => exact ⟨a0, a1, a2, a3, a4, a5, a6, rfl⟩

theorem tele (X Y : Int) (b : Nat) : ∀ (m a : Nat), m ≤ a →
    (X - Y) * ((List.range m).foldl (fun s j => s + X ^ (a - 1 - j) * Y ^ (b + j)) 0) = X ^ a * Y ^ b - X ^ (a - m) * Y ^ (b + m)
  | 0, a, _ => by simp
  | m + 1, a, h => by
    rw [List.range_succ, List.foldl_append, List.foldl_cons, List.foldl_nil, Int.mul_add, tele X Y b m a (by omega)]
    have e1 : a - m = (a - 1 - m) + 1 := by omega
    have e2 : a - (m + 1) = a - 1 - m := by omega
    have e3 : b + (m + 1) = (b + m) + 1 := by omega
    rw [e1, e2, e3, Int.pow_succ X, Int.pow_succ Y]
    grind
theorem Ev_range (f : Nat → List Int) (c : Int) (g : List Int → Int) (n : Nat) : Ev ((List.range n).map fun j => (f j, c)) g = c * (List.range n).foldl (fun s j => s + g (f j)) 0 := by
  induction n with
  | zero => simp [Ev]
  | succ n ih => rw [List.range_succ, List.map_append, Ev_append, ih, List.foldl_append]; simp [Ev, Int.mul_add]
theorem fold_mul (R : Int) (f g : Nat → Int) (n : Nat) (h : ∀ j, j < n → f j = R * g j) : (List.range n).foldl (fun s j => s + f j) 0 = R * (List.range n).foldl (fun s j => s + g j) 0 := by
  induction n with
  | zero => simp
  | succ n ih =>
    rw [List.range_succ, List.foldl_append, List.foldl_append, List.foldl_cons, List.foldl_cons, List.foldl_nil, List.foldl_nil, ih (fun j hj => h j (by omega)), h n (by omega), Int.mul_add]
/-- the monomial with two places told apart -/
theorem mono_two {xs e : List Int} {k : Nat} (hk : k < 4) (he : e.length = 7) (hx : xs.length = 7) : ∃ R : Int, ∀ (s t X Y : Int),
    mono ((xs.set (k + 1) Y).set k X) ((e.set (k + 1) t).set k s) = R * (X ^ s.toNat * Y ^ t.toNat) := by
  obtain ⟨a0, a1, a2, a3, a4, a5, a6, rfl⟩ := list7 he
  obtain ⟨x0, x1, x2, x3, x4, x5, x6, rfl⟩ := list7 hx
  have : k = 0 ∨ k = 1 ∨ k = 2 ∨ k = 3 := by omega
  rcases this with rfl | rfl | rfl | rfl
  · refine ⟨x2 ^ a2.toNat * x3 ^ a3.toNat * x4 ^ a4.toNat * x5 ^ a5.toNat * x6 ^ a6.toNat, fun s t X Y => ?_⟩
    simp [mono, monoK]; ac_rfl
  · refine ⟨x0 ^ a0.toNat * x3 ^ a3.toNat * x4 ^ a4.toNat * x5 ^ a5.toNat * x6 ^ a6.toNat, fun s t X Y => ?_⟩
    simp [mono, monoK]; ac_rfl
  · refine ⟨x0 ^ a0.toNat * x1 ^ a1.toNat * x4 ^ a4.toNat * x5 ^ a5.toNat * x6 ^ a6.toNat, fun s t X Y => ?_⟩
    simp [mono, monoK]; ac_rfl
  · refine ⟨x0 ^ a0.toNat * x1 ^ a1.toNat * x2 ^ a2.toNat * x5 ^ a5.toNat * x6 ^ a6.toNat, fun s t X Y => ?_⟩
    simp [mono, monoK]; ac_rfl
theorem set_two {xs : List Int} {k : Nat} (hk : k + 1 < xs.length) : (xs.set (k + 1) (xs.getD (k + 1) 0)).set k (xs.getD k 0) = xs := by
  have a : ∀ j, j < xs.length → xs.set j (xs.getD j 0) = xs := fun j hj => by rw [getD_lt hj, List.set_getElem_self]
  rw [a (k + 1) hk, a k (by omega)]
theorem swap_set {xs : List Int} {k : Nat} (hk : k + 1 < xs.length) : swapL xs k (k + 1) = (xs.set (k + 1) (xs.getD k 0)).set k (xs.getD (k + 1) 0) := by
  unfold swapL
  rw [List.set_comm _ _ (by omega)]

theorem dvE_val {xs e : List Int} {k : Nat} (hk : k < 4) (he : e.length = 7) (hp : ∀ x ∈ e, (0 : Int) ≤ x) (hx : xs.length = 7) :
    (xs.getD k 0 - xs.getD (k + 1) 0) * Ev (dvE k e) (mono xs) = mono xs e - mono (swapL xs k (k + 1)) e := by
  obtain ⟨R, hR⟩ := mono_two (xs := xs) hk he hx
  obtain ⟨a, ha⟩ : ∃ a : Nat, e.getD k 0 = (a : Int) := ⟨(e.getD k 0).toNat, by have := hp _ (getD_mem (show k < e.length by omega)); omega⟩
  obtain ⟨b, hb⟩ : ∃ b : Nat, e.getD (k + 1) 0 = (b : Int) := ⟨(e.getD (k + 1) 0).toNat, by have := hp _ (getD_mem (show k + 1 < e.length by omega)); omega⟩
  have e1 : mono xs e = R * (xs.getD k 0 ^ a * xs.getD (k + 1) 0 ^ b) := by
    have := hR a b (xs.getD k 0) (xs.getD (k + 1) 0)
    rw [set_two (by omega), ← ha, ← hb, set_two (by omega), ha, hb] at this
    simpa using this
  have e2 : mono (swapL xs k (k + 1)) e = R * (xs.getD (k + 1) 0 ^ a * xs.getD k 0 ^ b) := by
    have := hR a b (xs.getD (k + 1) 0) (xs.getD k 0)
    rw [← swap_set (by omega), ← ha, ← hb, set_two (by omega), ha, hb] at this
    simpa using this
  have e3 : ∀ s t : Int, mono xs (dvS k e s t) = R * (xs.getD k 0 ^ (s - 1 - t).toNat * xs.getD (k + 1) 0 ^ t.toNat) := fun s t => by
    have := hR (s - 1 - t) t (xs.getD k 0) (xs.getD (k + 1) 0)
    rw [set_two (by omega)] at this
    exact this
  rw [e1, e2]
  obtain ⟨X, hX⟩ : ∃ X, X = xs.getD k 0 := ⟨_, rfl⟩
  obtain ⟨Y, hY⟩ : ∃ Y, Y = xs.getD (k + 1) 0 := ⟨_, rfl⟩
  rw [← hX, ← hY] at e3 ⊢
  by_cases hab : e.getD k 0 < e.getD (k + 1) 0
  · rw [dvE_le hab, dvK, Ev_range, ha, hb]
    have hn : ((b : Int) - (a : Int)).toNat = b - a := by omega
    rw [hn, fold_mul R _ (fun j => Y ^ (a + j) * X ^ (b - 1 - j)) _ (fun j hj => by
      rw [e3]
      have h1 : ((a : Int) + (b : Int) - 1 - ((a : Int) + (j : Int))).toNat = b - 1 - j := by omega
      have h2 : ((a : Int) + (j : Int)).toNat = a + j := by omega
      rw [h1, h2, Int.mul_comm (X ^ _)])]
    have t := tele X Y a (b - a) b (by omega)
    have h3 : b - (b - a) = a := by omega
    have h4 : a + (b - a) = b := by omega
    rw [h3, h4] at t
    have h5 : ((List.range (b - a)).foldl (fun s j => s + Y ^ (a + j) * X ^ (b - 1 - j)) 0) = (List.range (b - a)).foldl (fun s j => s + X ^ (b - 1 - j) * Y ^ (a + j)) 0 := by
      congr 1; funext s j; rw [Int.mul_comm (Y ^ _)]
    rw [h5]
    obtain ⟨S, hS⟩ : ∃ S, S = (List.range (b - a)).foldl (fun s j => s + X ^ (b - 1 - j) * Y ^ (a + j)) 0 := ⟨_, rfl⟩
    rw [← hS] at t ⊢
    have : (X - Y) * (-1 * (R * S)) = -(R * ((X - Y) * S)) := by grind
    rw [this, t]
    grind
  · rw [dvE_ge hab, dvK, Ev_range, ha, hb]
    have hn : ((a : Int) - (b : Int)).toNat = a - b := by omega
    rw [hn, fold_mul R _ (fun j => X ^ (a - 1 - j) * Y ^ (b + j)) _ (fun j hj => by
      rw [e3]
      have h1 : ((b : Int) + (a : Int) - 1 - ((b : Int) + (j : Int))).toNat = a - 1 - j := by omega
      have h2 : ((b : Int) + (j : Int)).toNat = b + j := by omega
      rw [h1, h2])]
    have t := tele X Y b (a - b) a (by omega)
    have h3 : a - (a - b) = b := by omega
    have h4 : b + (a - b) = a := by omega
    rw [h3, h4] at t
    obtain ⟨S, hS⟩ : ∃ S, S = (List.range (a - b)).foldl (fun s j => s + X ^ (a - 1 - j) * Y ^ (b + j)) 0 := ⟨_, rfl⟩
    rw [← hS] at t ⊢
    have : (X - Y) * (1 * (R * S)) = R * ((X - Y) * S) := by grind
    rw [this, t]
    grind
theorem dv_val {xs : List Int} {k : Nat} (hk : k < 4) (hx : xs.length = 7) : ∀ {P : Pl}, Pos7 P →
    (xs.getD k 0 - xs.getD (k + 1) 0) * Ev (dvP k P) (mono xs) = Ev P (mono xs) - Ev P (mono (swapL xs k (k + 1)))
  | [], _ => by simp [dvP, Ev]
  | p :: l, h => by
    have ih := dv_val hk hx (P := l) fun q hq => h q (List.mem_cons_of_mem _ hq)
    have hp := h p List.mem_cons_self
    have := dvE_val hk hp.1 hp.2 hx
    rw [Ev_dv] at ih ⊢
    simp only [Ev] at ih ⊢
    rw [Int.mul_add, ih, Int.mul_left_comm, this]
    grind

/-! ### the polynomials have exponents that are not below 0 -/
theorem Pos7.append {P Q : Pl} (h : Pos7 P) (h' : Pos7 Q) : Pos7 (P ++ Q) := fun p hp => (List.mem_append.1 hp).elim (h p) (h' p)
theorem Pos7.scl {P : Pl} (h : Pos7 P) (k : Int) : Pos7 (sclP k P) := fun p hp => by
  obtain ⟨q, hq, rfl⟩ := List.mem_map.1 hp
  exact h q hq
theorem Pos7.rs {P : Pl} (h : Pos7 P) (i : Nat) : Pos7 (rsP i P) := fun p hp => by
  obtain ⟨q, hq, rfl⟩ := List.mem_map.1 hp
  refine ⟨by simpa [rsE] using (h q hq).1, fun x hx => ?_⟩
  rcases List.mem_or_eq_of_mem_set hx with hx | rfl
  · exact (h q hq).2 x hx
  · by_cases hi : i < q.1.length
    · have := (h q hq).2 _ (getD_mem hi); omega
    · rw [List.getD_eq_getElem?_getD, List.getElem?_eq_none (by omega)]; simp
theorem Pos7.dv {P : Pl} (h : Pos7 P) {k : Nat} (hk : k < 4) : Pos7 (dvP k P) := fun p hp => by
  obtain ⟨q, hq, hp⟩ := List.mem_flatMap.1 hp
  obtain ⟨r, hr, rfl⟩ := List.mem_map.1 hp
  have hq' := h q hq
  have h1 := hq'.2 _ (getD_mem (show k < q.1.length by omega))
  have h2 := hq'.2 _ (getD_mem (show k + 1 < q.1.length by omega))
  have key : ∀ s t : Int, 0 ≤ t → t ≤ s - 1 → (dvS k q.1 s t).length = 7 ∧ ∀ x ∈ dvS k q.1 s t, (0 : Int) ≤ x := fun s t ht hs => by
    refine ⟨by simpa [dvS] using hq'.1, fun x hx => ?_⟩
    rcases List.mem_or_eq_of_mem_set hx with hx | rfl
    · rcases List.mem_or_eq_of_mem_set hx with hx | rfl
      · exact hq'.2 x hx
      · exact ht
    · omega
  by_cases hab : q.1.getD k 0 < q.1.getD (k + 1) 0
  · rw [dvE_le hab] at hr
    obtain ⟨j, hj, rfl⟩ := List.mem_map.1 hr
    have := List.mem_range.1 hj
    exact key _ _ (by omega) (by omega)
  · rw [dvE_ge hab] at hr
    obtain ⟨j, hj, rfl⟩ := List.mem_map.1 hr
    have := List.mem_range.1 hj
    exact key _ _ (by omega) (by omega)
theorem fasc_lt {xs : List Int} {k : Nat} (h : fasc xs = some k) : k < xs.length - 1 ∧ xs.getD k 0 < xs.getD (k + 1) 0 ∧ ∀ j, j < k → ¬ xs.getD j 0 < xs.getD (j + 1) 0 := by
  unfold fasc at h
  rw [List.find?_range_eq_some] at h
  obtain ⟨h1, h2, h3⟩ := h
  exact ⟨by simpa using h2, by simpa using h1, fun j hj => by simpa using h3 j hj⟩
theorem Pos7.low {P : Pl} (h : Pos7 P) : ∀ f xs, xs.length ≤ 5 → Pos7 (lowP f xs P)
  | 0, _, _ => h
  | f + 1, xs, hx => by
    rw [lowP]
    cases hf : fasc xs with
    | none => exact h
    | some k => exact (Pos7.low h f _ (by rw [swapL_length]; exact hx)).dv (by have := (fasc_lt hf).1; omega)
theorem Pos7.top (n : Nat) (ys : List Int) : ∀ i, Pos7 (topI n ys i)
  | 0 => fun p hp => by
    obtain rfl := List.mem_singleton.1 hp
    exact ⟨rfl, by simp⟩
  | i + 1 => by
    rw [topI]
    have : ∀ m, Pos7 (topJ i ys m (topI n ys i)) := fun m => by
      induction m with
      | zero => exact Pos7.top n ys i
      | succ m ih => exact (ih.rs i).append (ih.scl _)
    exact this _
/-- the fuel does not matter -/
theorem low_more {P : Pl} : ∀ f g xs, lowOk f xs = true → f ≤ g → lowP g xs P = lowP f xs P
  | 0, 0, _, _, _ => rfl
  | 0, g + 1, xs, h, _ => by
    unfold lowOk at h
    have : fasc xs = none := by simpa using h
    show (match fasc xs with | none => P | some k => dvP k (lowP g (swapL xs k (k + 1)) P)) = P
    rw [this]
  | f + 1, 0, _, _, hg => by omega
  | f + 1, g + 1, xs, h, hg => by
    rw [lowP, lowP]
    unfold lowOk at h
    cases hf : fasc xs with
    | none => rfl
    | some k => rw [hf] at h; dsimp only at h ⊢; rw [low_more f g _ h (by omega)]

end Go.Proofs.Ytfpjenmehoemcaa

namespace Go.Proofs.Ytfpjenmehoemcaa
set_option linter.all false
open Go.RowKit

/-! ### permutations: what is decided by looking at all of them -/
theorem toFin {n : Nat} {x : Int} (h : 0 ≤ x ∧ x < (n : Int)) : ∃ a : Fin n, x = ((a : Nat) : Int) := ⟨⟨x.toNat, by omega⟩, by simp; omega⟩
def memB (xs : List Int) : Bool := !permOk xs || (permsL xs.length).contains xs
set_option maxRecDepth 100000 in
theorem mem_1 : ∀ a : Fin 1, memB [((a : Nat) : Int)] = true := by decide +kernel
set_option maxRecDepth 100000 in
theorem mem_2 : ∀ a b : Fin 2, memB [((a : Nat) : Int), ((b : Nat) : Int)] = true := by decide +kernel
set_option maxRecDepth 100000 in
theorem mem_3 : ∀ a b c : Fin 3, memB [((a : Nat) : Int), ((b : Nat) : Int), ((c : Nat) : Int)] = true := by decide +kernel
set_option maxRecDepth 100000 in
theorem mem_4 : ∀ a b c d : Fin 4, memB [((a : Nat) : Int), ((b : Nat) : Int), ((c : Nat) : Int), ((d : Nat) : Int)] = true := by decide +kernel
set_option maxRecDepth 100000 in
theorem mem_5 : ∀ a b c d e : Fin 5, memB [((a : Nat) : Int), ((b : Nat) : Int), ((c : Nat) : Int), ((d : Nat) : Int), ((e : Nat) : Int)] = true := by decide +kernel
theorem perm_mem {xs : List Int} (h : permOk xs = true) (h5 : xs.length ≤ 5) : xs ∈ permsL xs.length := by
  have key : memB xs = true := by
    have hp := h
    simp only [permOk, decide_eq_true_eq] at hp
    obtain ⟨h1, h7, hr, _⟩ := hp
    match xs, h1, h5, hr with
    | [a], _, _, hr =>
      obtain ⟨a, rfl⟩ := toFin (n := 1) (hr a (by simp))
      exact mem_1 a
    | [a, b], _, _, hr =>
      obtain ⟨a, rfl⟩ := toFin (n := 2) (hr a (by simp))
      obtain ⟨b, rfl⟩ := toFin (n := 2) (hr b (by simp))
      exact mem_2 a b
    | [a, b, c], _, _, hr =>
      obtain ⟨a, rfl⟩ := toFin (n := 3) (hr a (by simp))
      obtain ⟨b, rfl⟩ := toFin (n := 3) (hr b (by simp))
      obtain ⟨c, rfl⟩ := toFin (n := 3) (hr c (by simp))
      exact mem_3 a b c
    | [a, b, c, d], _, _, hr =>
      obtain ⟨a, rfl⟩ := toFin (n := 4) (hr a (by simp))
      obtain ⟨b, rfl⟩ := toFin (n := 4) (hr b (by simp))
      obtain ⟨c, rfl⟩ := toFin (n := 4) (hr c (by simp))
      obtain ⟨d, rfl⟩ := toFin (n := 4) (hr d (by simp))
      exact mem_4 a b c d
    | [a, b, c, d, e], _, _, hr =>
      obtain ⟨a, rfl⟩ := toFin (n := 5) (hr a (by simp))
      obtain ⟨b, rfl⟩ := toFin (n := 5) (hr b (by simp))
      obtain ⟨c, rfl⟩ := toFin (n := 5) (hr c (by simp))
      obtain ⟨d, rfl⟩ := toFin (n := 5) (hr d (by simp))
      obtain ⟨e, rfl⟩ := toFin (n := 5) (hr e (by simp))
      exact mem_5 a b c d e
  unfold memB at key
  rw [h] at key
  simpa using key
/-- a check that all permutations of at most five pass -/
def all5 (B : List Int → Bool) : Bool := (List.range 6).all fun n => (permsL n).all fun v => !decide (1 ≤ n) || B v
theorem all5_at {B : List Int → Bool} (h : all5 B = true) {xs : List Int} (hp : permOk xs = true) (h5 : xs.length ≤ 5) : B xs = true := by
  unfold all5 at h
  rw [List.all_eq_true] at h
  have a := h xs.length (List.mem_range.2 (by omega))
  rw [List.all_eq_true] at a
  have b := a xs (perm_mem hp h5)
  have : 1 ≤ xs.length := by simp only [permOk, decide_eq_true_eq] at hp; exact hp.1
  simpa [this] using b

/-- two neighbours exchanged -/
def sw (k : Nat) (v : List Int) : List Int := swapL v k (k + 1)
def ascB (k : Nat) (v : List Int) : Bool := decide (v.getD k 0 < v.getD (k + 1) 0)
/-- the pairs in order -/
def upN (v : List Int) : Nat := ((List.range v.length).map fun j => ((List.range j).filter fun i => decide (v.getD i 0 < v.getD j 0)).length).sum
def okB (v : List Int) : Bool := lowOk 10 v && (List.range (v.length - 1)).all fun k => permOk (sw k v) && (if ascB k v then decide (upN (sw k v) + 1 = upN v) && !ascB k (sw k v) else decide (upN (sw k v) = upN v + 1) && ascB k (sw k v))
def farB (v : List Int) : Bool := (List.range (v.length - 1)).all fun j => (List.range (v.length - 1)).all fun k =>
  !(ascB j v && ascB k v && decide (j + 2 ≤ k)) || (ascB k (sw j v) && ascB j (sw k v) && decide (sw k (sw j v) = sw j (sw k v)))
def nearB (v : List Int) : Bool := (List.range (v.length - 2)).all fun j =>
  !(ascB j v && ascB (j + 1) v) || (ascB (j + 1) (sw j v) && ascB j (sw (j + 1) (sw j v)) && ascB j (sw (j + 1) v) && ascB (j + 1) (sw j (sw (j + 1) v)) && decide (sw j (sw (j + 1) (sw j v)) = sw (j + 1) (sw j (sw (j + 1) v))))
set_option maxRecDepth 100000 in
theorem ok_all : all5 okB = true := by decide +kernel
set_option maxRecDepth 100000 in
theorem far_all : all5 farB = true := by decide +kernel
set_option maxRecDepth 100000 in
theorem near_all : all5 nearB = true := by decide +kernel
theorem sw_length (k : Nat) (v : List Int) : (sw k v).length = v.length := swapL_length _ _ _
structure P5 (n : Nat) (v : List Int) : Prop where
  ok : permOk v = true
  len : v.length = n
  le : n ≤ 5
theorem P5.low {n : Nat} {v : List Int} (h : P5 n v) : lowOk 10 v = true := by
  have := all5_at ok_all h.ok (by have := h.len; have := h.le; omega)
  simp only [okB, Bool.and_eq_true] at this
  exact this.1
theorem P5.sw {n : Nat} {v : List Int} (h : P5 n v) {k : Nat} (hk : k + 1 < n) : P5 n (sw k v) := by
  have := all5_at ok_all h.ok (by have := h.len; have := h.le; omega)
  simp only [okB, Bool.and_eq_true, List.all_eq_true, List.mem_range] at this
  exact ⟨(this.2 k (by have := h.len; omega)).1, by rw [sw_length]; exact h.len, h.le⟩
theorem P5.asc {n : Nat} {v : List Int} (h : P5 n v) {k : Nat} (hk : k + 1 < n) (ha : ascB k v = true) : upN (Go.Proofs.Ytfpjenmehoemcaa.sw k v) + 1 = upN v ∧ ascB k (Go.Proofs.Ytfpjenmehoemcaa.sw k v) = false := by
  have := all5_at ok_all h.ok (by have := h.len; have := h.le; omega)
  simp only [okB, Bool.and_eq_true, List.all_eq_true, List.mem_range] at this
  have := (this.2 k (by have := h.len; omega)).2
  rw [ha] at this
  simpa using this
theorem P5.desc {n : Nat} {v : List Int} (h : P5 n v) {k : Nat} (hk : k + 1 < n) (ha : ascB k v = false) : upN (Go.Proofs.Ytfpjenmehoemcaa.sw k v) = upN v + 1 ∧ ascB k (Go.Proofs.Ytfpjenmehoemcaa.sw k v) = true := by
  have := all5_at ok_all h.ok (by have := h.len; have := h.le; omega)
  simp only [okB, Bool.and_eq_true, List.all_eq_true, List.mem_range] at this
  have := (this.2 k (by have := h.len; omega)).2
  rw [ha] at this
  simpa using this
theorem P5.far {n : Nat} {v : List Int} (h : P5 n v) {j k : Nat} (hk : k + 1 < n) (hjk : j + 2 ≤ k) (ha : ascB j v = true) (hb : ascB k v = true) :
    ascB k (Go.Proofs.Ytfpjenmehoemcaa.sw j v) = true ∧ ascB j (Go.Proofs.Ytfpjenmehoemcaa.sw k v) = true ∧ Go.Proofs.Ytfpjenmehoemcaa.sw k (Go.Proofs.Ytfpjenmehoemcaa.sw j v) = Go.Proofs.Ytfpjenmehoemcaa.sw j (Go.Proofs.Ytfpjenmehoemcaa.sw k v) := by
  have := all5_at far_all h.ok (by have := h.len; have := h.le; omega)
  simp only [farB, List.all_eq_true, List.mem_range] at this
  have := this j (by have := h.len; omega) k (by have := h.len; omega)
  rw [ha, hb] at this
  simpa [hjk, and_assoc] using this
theorem P5.near {n : Nat} {v : List Int} (h : P5 n v) {j : Nat} (hk : j + 2 < n) (ha : ascB j v = true) (hb : ascB (j + 1) v = true) :
    ascB (j + 1) (Go.Proofs.Ytfpjenmehoemcaa.sw j v) = true ∧ ascB j (Go.Proofs.Ytfpjenmehoemcaa.sw (j + 1) (Go.Proofs.Ytfpjenmehoemcaa.sw j v)) = true ∧ ascB j (Go.Proofs.Ytfpjenmehoemcaa.sw (j + 1) v) = true ∧ ascB (j + 1) (Go.Proofs.Ytfpjenmehoemcaa.sw j (Go.Proofs.Ytfpjenmehoemcaa.sw (j + 1) v)) = true ∧
      Go.Proofs.Ytfpjenmehoemcaa.sw j (Go.Proofs.Ytfpjenmehoemcaa.sw (j + 1) (Go.Proofs.Ytfpjenmehoemcaa.sw j v)) = Go.Proofs.Ytfpjenmehoemcaa.sw (j + 1) (Go.Proofs.Ytfpjenmehoemcaa.sw j (Go.Proofs.Ytfpjenmehoemcaa.sw (j + 1) v)) := by
  have := all5_at near_all h.ok (by have := h.len; have := h.le; omega)
  simp only [nearB, List.all_eq_true, List.mem_range] at this
  have := this j (by have := h.len; omega)
  rw [ha, hb] at this
  simpa [and_assoc] using this

end Go.Proofs.Ytfpjenmehoemcaa

namespace Go.Proofs.Ytfpjenmehoemcaa
set_option linter.all false
open Go.RowKit

theorem cdK_yes {xs : List Int} {i t : Nat} (h : xs.getD (i + 1 + t) 0 < xs.getD i 0) : cdK xs i (t + 1) = cdK xs i t + 1 := by
  unfold cdK
  rw [List.range_succ, List.filter_append]
  simp only [List.filter_cons, List.filter_nil, h, decide_true, if_true, List.length_append, List.length_singleton]
theorem cdK_no {xs : List Int} {i t : Nat} (h : ¬ xs.getD (i + 1 + t) 0 < xs.getD i 0) : cdK xs i (t + 1) = cdK xs i t := by
  unfold cdK
  rw [List.range_succ, List.filter_append]
  have e : List.filter (fun (s : Nat) => decide (xs.getD (i + 1 + s) 0 < xs.getD i 0)) [t] = [] := by
    rw [List.filter_cons, decide_eq_false h]; rfl
  rw [e, List.append_nil]
theorem cdK_le (xs : List Int) (i t : Nat) : cdK xs i t ≤ t := by
  unfold cdK
  exact Nat.le_trans (List.length_filter_le _ _) (by simp)
def cdF (xs : List Int) (i t j : Nat) : Nat := if j < i then cdA xs j else if j = i then cdK xs i t else 0
def cdL (xs : List Int) : List Int := (List.range xs.length).map fun i => (cdA xs i : Int)
theorem cdL_length (xs : List Int) : (cdL xs).length = xs.length := by simp [cdL]
theorem cdL_getD {xs : List Int} {i : Nat} (h : i < xs.length) : (cdL xs).getD i 0 = (cdA xs i : Int) := by simp [cdL, List.getD_eq_getElem?_getD, h]

set_option maxRecDepth 100000 in
set_option maxHeartbeats 4000000 in
theorem l1Code_any (v : Value) (xs : List Int) (w : World) (h : Ints w v xs) (hl : xs.length ≤ 10) :
    Calls Try.prog 57 #[v] w (RetI w (cdL xs)) := by
  obtain ⟨p, cap, rfl, ⟨hx1, hx⟩, hxc⟩ := h
  unfold maxLen at hx
  obtain ⟨n, hn⟩ : ∃ n, n = xs.length := ⟨_, rfl⟩
  have hmk := run_make_row' (P := Try.prog) 22 3 (.int .i64 0) 8 Try.underlying22 info_int rfl .i64 .i64 n (by omega) (by omega)
  have Hn := Lib.hid hn
  rw [← hn] at hx1 hxc hl ⊢
  have Hxc := Lib.hid hxc
  clear hn hxc
  go_enter Try.func57, Try.ntmps57
  go_wp2_with fail
  go_loopg [4, 5] n (fun g s4 s5 wr => ∃ i : Nat, i ≤ n ∧ g = n - i ∧ s4 = .int .i64 i ∧ Hid (Below w.heap.size w wr) ∧ Hid (wr.rowIs w.heap.size 3 n (fun j => .int .i64 (cdF xs i 0 j : Nat))))
  case atStart =>
    refine ⟨0, Nat.zero_le _, rfl, rfl, Lib.hid (below_alloc _ _), Lib.hid ?_⟩
    exact (World.rowIs_made w (.int .i64 0) n 3).congr fun j _ => by
      unfold cdF cdK
      by_cases e : j = 0 <;> simp [e]
  case round =>
    obtain ⟨i, hi, rfl, rfl, hb, hrow⟩ := hrel
    by_cases hlt : i < n
    · have hlti : (i : Int) < (n : Int) := by omega
      obtain ⟨b, off, rfl, hc⟩ := Hxc.out (by omega)
      have Hc := Lib.hid hc
      obtain ⟨wo, rfl⟩ : ∃ x : World, x = wr := ⟨_, rfl⟩
      have Hb := Lib.hid hb.out
      have Hrow := Lib.hid hrow.out
      clear hc hb hrow
      go_wp2_with fail
      go_loopg [5] (n - (i + 1)) (fun g s5 wr => ∃ t : Nat, i + 1 + t ≤ n ∧ g = n - (i + 1) - t ∧ s5 = .int .i64 ((i : Int) + 1 + (t : Int)) ∧ Hid (Below w.heap.size w wr) ∧ Hid (wr.rowIs w.heap.size 3 n (fun j => .int .i64 (cdF xs i t j : Nat))))
      case atStart => exact ⟨0, by omega, rfl, by go_num, Hb, Hrow⟩
      case round =>
        obtain ⟨t, ht, rfl, rfl, hb, hrow⟩ := hrel
        by_cases htl : i + 1 + t < n
        · have hti : (i : Int) + 1 + (t : Int) < (n : Int) := by omega
          obtain ⟨x, hx'⟩ : ∃ x, x = xs.getD (i + 1 + t) 0 := ⟨_, rfl⟩
          obtain ⟨y, hy'⟩ : ∃ y, y = xs.getD i 0 := ⟨_, rfl⟩
          have c1 : wr.cell? ⟨b, off + (i + 1 + t), none⟩ = some (.int .i64 x) := by rw [hx']; exact cell_below hb.out (Hc.out (i + 1 + t) htl)
          have c2 : wr.cell? ⟨b, off + i, none⟩ = some (.int .i64 y) := by rw [hy']; exact cell_below hb.out (Hc.out i hlt)
          have hnat : ((i : Int) + 1 + (t : Int)).toNat = i + 1 + t := by omega
          have h0 : (0 : Int) ≤ (i : Int) + 1 + (t : Int) := by omega
          have d1 := hrow.out.cell hlt
          have d2 := hrow.out.frozen i
          obtain ⟨z, hz⟩ : ∃ z, z = cdF xs i t i := ⟨_, rfl⟩
          rw [← hz] at d1
          have hz2 : z = cdK xs i t := by rw [hz]; unfold cdF; rw [if_neg (Nat.lt_irrefl _), if_pos rfl]
          have hz3 : z ≤ 10 := by rw [hz2]; have := cdK_le xs i t; omega
          have Hx := Lib.hid hx'
          have Hy := Lib.hid hy'
          have Hz := Lib.hid hz2
          have Hb1 := Lib.hid hb.out
          have Hrow1 := Lib.hid hrow.out
          clear hx' hy' hz hz2 hb hrow
          go_wp2_with fail
          go_quiet (fail)
          have Hb2 := Lib.hid (Below.drewN Hb1.out nq)
          have Hrow2 := Lib.hid (show (wr.drewN nq).rowIs w.heap.size 3 n (fun j => .int .i64 (cdF xs i t j : Nat)) from Hrow1.out.of_block rfl)
          have d1' : (wr.drewN nq).cell? ⟨w.heap.size, i, none⟩ = some (.int .i64 (z : Int)) := d1
          have d2' : (wr.drewN nq).frozen? ⟨w.heap.size, i, none⟩ = false := d2
          generalize wr.drewN nq = wd at *
          by_cases hxy : x < y
          · have Hk := Lib.hid (show cdK xs i (t + 1) = z + 1 by rw [cdK_yes (by rw [← Hx.out, ← Hy.out]; exact hxy), Hz.out])
            go_wp2_with fail
            go_roundg (n - (i + 1) - (t + 1))
            case measure => omega
            case rel =>
              refine ⟨t + 1, by omega, rfl, by go_num, Lib.hid (Hb2.out.setCell (Nat.le_refl _) _), Lib.hid ((Hrow2.out.set i _).congr fun j _ => ?_)⟩
              by_cases e : j = i
              · subst e
                rw [if_pos rfl]
                unfold cdF
                rw [if_neg (Nat.lt_irrefl _), if_pos rfl, Hk.out]
                go_num
              · rw [if_neg e]
                unfold cdF
                rw [if_neg e, if_neg e]
          · have Hk := Lib.hid (show cdK xs i (t + 1) = cdK xs i t by rw [cdK_no (by rw [← Hx.out, ← Hy.out]; exact hxy)])
            go_wp2_with fail
            go_roundg (n - (i + 1) - (t + 1))
            case measure => omega
            case rel =>
              refine ⟨t + 1, by omega, rfl, by go_num, Hb2, Lib.hid (Hrow2.out.congr fun j _ => ?_)⟩
              unfold cdF
              rw [Hk.out]
        · have hti : ¬ (i : Int) + 1 + (t : Int) < (n : Int) := by omega
          have htn : t = n - (i + 1) := by omega
          have Hb1 := Lib.hid hb.out
          have Hrow1 := Lib.hid hrow.out
          have Htn := Lib.hid htn
          clear hb hrow htn
          go_wp2_with fail
          go_roundg (n - (i + 1))
          case measure => omega
          case rel =>
            refine ⟨i + 1, by omega, rfl, by go_num, Hb1, Lib.hid (Hrow1.out.congr fun j _ => ?_)⟩
            unfold cdF
            by_cases e1 : j < i
            · rw [if_pos e1, if_pos (show j < i + 1 by omega)]
            · by_cases e2 : j = i
              · subst e2
                rw [if_neg e1, if_pos rfl, if_pos (Nat.lt_succ_self j)]
                unfold cdA
                rw [← Hn.out, Htn.out]
              · rw [if_neg e1, if_neg e2, if_neg (show ¬ j < i + 1 by omega)]
                by_cases e3 : j = i + 1
                · rw [if_pos e3]; rfl
                · rw [if_neg e3]
    · obtain rfl : n = i := by omega
      have hlti : ¬ (n : Int) < (n : Int) := by omega
      have hr0 : wr.rowIs w.heap.size 3 n (iv (cdL xs)) := hrow.out.congr fun j hj => by
        rw [iv, cdL_getD (by rw [← Hn.out]; exact hj)]
        unfold cdF
        rw [if_pos hj]
      have ho := rowIs_ints (xs := cdL xs) (by rw [cdL_length, ← Hn.out]; exact hr0) (by rw [cdL_length, ← Hn.out]; unfold maxLen; omega)
      rw [cdL_length, ← Hn.out] at ho
      have Ho := Lib.hid ho
      clear ho hrow
      go_wp2_with fail
      go_ret
      exact ⟨_, rfl, Ho.out, hb.out⟩

end Go.Proofs.Ytfpjenmehoemcaa

namespace Go.Proofs.Ytfpjenmehoemcaa
set_option linter.all false
open Go.RowKit

/-- append, as a step of a region that draws -/
theorem step_append_F {P : Program} {w : World} {ops : Array Oper} {o : Oper} {a : Act} {K : Act → World → Prop} {Q : Exit → Act → World → Prop} {E : Prop} (hgd : o.guard = none) (s x : Operand) (t : TypeId)
    (ho : o.op = .call { callee := .builtin .append, args := #[s, x], argTypes := #[t, t] })
    (e : TypeId) (z : Value) (bytes : Nat) (ht : P.underlying t = some (.slice e)) (hinfo : (P.info? e).map (fun i => (i.zero, i.size, i.bytes)) = some (some z, 1, bytes)) (hzs : z.cells.size = 1)
    (lo hi' : Nat) (v : Value) (n : Nat) (f : Nat → Value) (hs : a.eval s = v) (hown : OwnF w lo hi' e v n f) (hlo : lo ≤ w.heap.size) (hhi : hi' ≤ w.heap.size)
    (u : Value) (m : Nat) (g : Nat → Value) (hxu : a.eval x = u) (hx : Rd w u m g) (h1 : ∀ j, j < m → (g j).oneCell' = true) (h63 : n + m ≤ maxLen) (hbytes : (n + m) * bytes ≤ 140737488355328)
    (h : ∀ v' w', OwnF w' lo w'.heap.size e v' (n + m) (fun j => if j < n then f j else g (j - n)) → w.grownBy w' v.ownBlock → K (a.put o.dst v') w') :
    if Region.wanted o (yielded ops a.tmps) = true then Oper.wp P o a w K Q else E := by
  have hw : Region.wanted o (yielded ops a.tmps) = true := by simp [Region.wanted, hgd]
  rw [if_pos hw]
  obtain ⟨i, hi, hz, hsz, hby⟩ := info_parts hinfo
  obtain ⟨v', w', hr, h2, h3⟩ := run_append_F (P := P) w t o.type e i z bytes ht hi hz hsz hby hzs lo hi' v n f hown hlo hhi u m g hx h1 h63 hbytes
  unfold Oper.wp
  simp [execOp, ho, resolve, invoke, builtin, hs, hxu, hr, Result.andThen]
  exact h v' w' h2 h3

theorem grownBy_below2 {w w' : World} {v : Value} {lo hi : Nat} {T : TypeId} {n : Nat} {f : Nat → Value} (h : w.grownBy w' v.ownBlock) (ho : OwnF w lo hi T v n f) {B : Nat} (h1 : B ≤ lo) (h2 : B ≤ w.heap.size) : Below B w w' :=
  grownBy_below h ho.blocks h1 h2

/-- eight cells that are read, and a block for the result -/
theorem keep9 {w W W' : World} {a0 a1 a2 a3 a4 a5 a6 a7 : Addr} {v0 v1 v2 v3 v4 v5 v6 v7 : Value} {b : Nat} {T : TypeId} (hb : Below W.heap.size W W')
    (h : ((W.cell? a0 = some v0 ∧ W.cell? a1 = some v1 ∧ W.cell? a2 = some v2 ∧ W.cell? a3 = some v3 ∧ W.cell? a4 = some v4 ∧ W.cell? a5 = some v5 ∧ W.cell? a6 = some v6 ∧ W.cell? a7 = some v7) ∧ ∃ y0 y1 y2 y3, W.heap[b]? = some (.cells #[y0, y1, y2, y3] T (0, 0))) ∧ Below w.heap.size w W) :
    ((W'.cell? a0 = some v0 ∧ W'.cell? a1 = some v1 ∧ W'.cell? a2 = some v2 ∧ W'.cell? a3 = some v3 ∧ W'.cell? a4 = some v4 ∧ W'.cell? a5 = some v5 ∧ W'.cell? a6 = some v6 ∧ W'.cell? a7 = some v7) ∧ ∃ y0 y1 y2 y3, W'.heap[b]? = some (.cells #[y0, y1, y2, y3] T (0, 0))) ∧ Below w.heap.size w W' := by
  obtain ⟨⟨⟨h0, h1, h2, h3, h4, h5, h6, h7⟩, y0, y1, y2, y3, hy⟩, hB⟩ := h
  exact ⟨⟨⟨cell_below hb h0, cell_below hb h1, cell_below hb h2, cell_below hb h3, cell_below hb h4, cell_below hb h5, cell_below hb h6, cell_below hb h7⟩, y0, y1, y2, y3, blk_later hy hb⟩, hB.trans (hb.mono hB.size)⟩
theorem keep9_gen {w W W' : World} {b1 b2 o0 o1 o2 o3 o4 o5 o6 o7 : Nat} {v0 v1 v2 v3 v4 v5 v6 v7 z0 z1 z2 z3 : Value} {b : Nat} {T : TypeId} (hh : W'.heap[b1]? = W.heap[b1]?) (hh2 : W'.heap[b2]? = W.heap[b2]?) (hy : W'.heap[b]? = some (.cells #[z0, z1, z2, z3] T (0, 0))) (hB : Below w.heap.size w W')
    (h : W.cell? ⟨b1, o0, none⟩ = some v0 ∧ W.cell? ⟨b1, o1, none⟩ = some v1 ∧ W.cell? ⟨b1, o2, none⟩ = some v2 ∧ W.cell? ⟨b1, o3, none⟩ = some v3 ∧ W.cell? ⟨b2, o4, none⟩ = some v4 ∧ W.cell? ⟨b2, o5, none⟩ = some v5 ∧ W.cell? ⟨b2, o6, none⟩ = some v6 ∧ W.cell? ⟨b2, o7, none⟩ = some v7) :
    ((W'.cell? ⟨b1, o0, none⟩ = some v0 ∧ W'.cell? ⟨b1, o1, none⟩ = some v1 ∧ W'.cell? ⟨b1, o2, none⟩ = some v2 ∧ W'.cell? ⟨b1, o3, none⟩ = some v3 ∧ W'.cell? ⟨b2, o4, none⟩ = some v4 ∧ W'.cell? ⟨b2, o5, none⟩ = some v5 ∧ W'.cell? ⟨b2, o6, none⟩ = some v6 ∧ W'.cell? ⟨b2, o7, none⟩ = some v7) ∧ ∃ y0 y1 y2 y3, W'.heap[b]? = some (.cells #[y0, y1, y2, y3] T (0, 0))) ∧ Below w.heap.size w W' := by
  obtain ⟨h0, h1, h2, h3, h4, h5, h6, h7⟩ := h
  refine ⟨⟨⟨?_, ?_, ?_, ?_, ?_, ?_, ?_, ?_⟩, z0, z1, z2, z3, hy⟩, hB⟩
  · rw [World.cell?_of_block (w := W) hh]; exact h0
  · rw [World.cell?_of_block (w := W) hh]; exact h1
  · rw [World.cell?_of_block (w := W) hh]; exact h2
  · rw [World.cell?_of_block (w := W) hh]; exact h3
  · rw [World.cell?_of_block (w := W) hh2]; exact h4
  · rw [World.cell?_of_block (w := W) hh2]; exact h5
  · rw [World.cell?_of_block (w := W) hh2]; exact h6
  · rw [World.cell?_of_block (w := W) hh2]; exact h7
theorem heap_set4 {W : World} {b1 b : Nat} (hne : b1 ≠ b) (x0 x1 x2 x3 : Value) : ((((W.setCell ⟨b, 0, none⟩ x0).setCell ⟨b, 1, none⟩ x1).setCell ⟨b, 2, none⟩ x2).setCell ⟨b, 3, none⟩ x3).heap[b1]? = W.heap[b1]? := by
  rw [Below.heap_setCell _ _ _ _ (show b1 ≠ (⟨b, 3, none⟩ : Addr).block from hne), Below.heap_setCell _ _ _ _ (show b1 ≠ (⟨b, 2, none⟩ : Addr).block from hne), Below.heap_setCell _ _ _ _ (show b1 ≠ (⟨b, 1, none⟩ : Addr).block from hne), Below.heap_setCell _ _ _ _ (show b1 ≠ (⟨b, 0, none⟩ : Addr).block from hne)]
theorem keep9_set {w W : World} {b1 b2 o0 o1 o2 o3 o4 o5 o6 o7 : Nat} {v0 v1 v2 v3 v4 v5 v6 v7 : Value} {b : Nat} {T : TypeId} (hne : b1 ≠ b) (hne2 : b2 ≠ b) (hbw : w.heap.size ≤ b) (x0 x1 x2 x3 : Value)
    (h : ((W.cell? ⟨b1, o0, none⟩ = some v0 ∧ W.cell? ⟨b1, o1, none⟩ = some v1 ∧ W.cell? ⟨b1, o2, none⟩ = some v2 ∧ W.cell? ⟨b1, o3, none⟩ = some v3 ∧ W.cell? ⟨b2, o4, none⟩ = some v4 ∧ W.cell? ⟨b2, o5, none⟩ = some v5 ∧ W.cell? ⟨b2, o6, none⟩ = some v6 ∧ W.cell? ⟨b2, o7, none⟩ = some v7) ∧ ∃ y0 y1 y2 y3, W.heap[b]? = some (.cells #[y0, y1, y2, y3] T (0, 0))) ∧ Below w.heap.size w W) :
    ((((((W.setCell ⟨b, 0, none⟩ x0).setCell ⟨b, 1, none⟩ x1).setCell ⟨b, 2, none⟩ x2).setCell ⟨b, 3, none⟩ x3).cell? ⟨b1, o0, none⟩ = some v0 ∧ ((((W.setCell ⟨b, 0, none⟩ x0).setCell ⟨b, 1, none⟩ x1).setCell ⟨b, 2, none⟩ x2).setCell ⟨b, 3, none⟩ x3).cell? ⟨b1, o1, none⟩ = some v1 ∧
      ((((W.setCell ⟨b, 0, none⟩ x0).setCell ⟨b, 1, none⟩ x1).setCell ⟨b, 2, none⟩ x2).setCell ⟨b, 3, none⟩ x3).cell? ⟨b1, o2, none⟩ = some v2 ∧ ((((W.setCell ⟨b, 0, none⟩ x0).setCell ⟨b, 1, none⟩ x1).setCell ⟨b, 2, none⟩ x2).setCell ⟨b, 3, none⟩ x3).cell? ⟨b1, o3, none⟩ = some v3 ∧
      ((((W.setCell ⟨b, 0, none⟩ x0).setCell ⟨b, 1, none⟩ x1).setCell ⟨b, 2, none⟩ x2).setCell ⟨b, 3, none⟩ x3).cell? ⟨b2, o4, none⟩ = some v4 ∧ ((((W.setCell ⟨b, 0, none⟩ x0).setCell ⟨b, 1, none⟩ x1).setCell ⟨b, 2, none⟩ x2).setCell ⟨b, 3, none⟩ x3).cell? ⟨b2, o5, none⟩ = some v5 ∧
      ((((W.setCell ⟨b, 0, none⟩ x0).setCell ⟨b, 1, none⟩ x1).setCell ⟨b, 2, none⟩ x2).setCell ⟨b, 3, none⟩ x3).cell? ⟨b2, o6, none⟩ = some v6 ∧ ((((W.setCell ⟨b, 0, none⟩ x0).setCell ⟨b, 1, none⟩ x1).setCell ⟨b, 2, none⟩ x2).setCell ⟨b, 3, none⟩ x3).cell? ⟨b2, o7, none⟩ = some v7) ∧
      ∃ y0 y1 y2 y3, ((((W.setCell ⟨b, 0, none⟩ x0).setCell ⟨b, 1, none⟩ x1).setCell ⟨b, 2, none⟩ x2).setCell ⟨b, 3, none⟩ x3).heap[b]? = some (.cells #[y0, y1, y2, y3] T (0, 0))) ∧
      Below w.heap.size w ((((W.setCell ⟨b, 0, none⟩ x0).setCell ⟨b, 1, none⟩ x1).setCell ⟨b, 2, none⟩ x2).setCell ⟨b, 3, none⟩ x3) := by
  obtain ⟨⟨hc, y0, y1, y2, y3, hy⟩, hB⟩ := h
  have hy4 := set4_all hy x0 x1 x2 x3
  have hB4 := below_set4 hB hbw x0 x1 x2 x3
  exact keep9_gen (heap_set4 hne x0 x1 x2 x3) (heap_set4 hne2 x0 x1 x2 x3) hy4 hB4 hc
theorem s9_blk {w W : World} {c : Prop} {b : Nat} {T : TypeId}
    (h : (c ∧ ∃ y0 y1 y2 y3, W.heap[b]? = some (.cells #[y0, y1, y2, y3] T (0, 0))) ∧ Below w.heap.size w W) :
    ∃ y0 y1 y2 y3, W.heap[b]? = some (.cells #[y0, y1, y2, y3] T (0, 0)) := h.1.2

/-- .. where what changed lies from B on -/
theorem keep9B {w W W' : World} {B b1 b2 o0 o1 o2 o3 o4 o5 o6 o7 : Nat} {v0 v1 v2 v3 v4 v5 v6 v7 : Value} {b : Nat} {T : TypeId} (hb : Below B W W') (hB1 : b1 < B) (hB2 : b2 < B) (hB3 : b < B) (hw : w.heap.size ≤ B)
    (h : ((W.cell? ⟨b1, o0, none⟩ = some v0 ∧ W.cell? ⟨b1, o1, none⟩ = some v1 ∧ W.cell? ⟨b1, o2, none⟩ = some v2 ∧ W.cell? ⟨b1, o3, none⟩ = some v3 ∧ W.cell? ⟨b2, o4, none⟩ = some v4 ∧ W.cell? ⟨b2, o5, none⟩ = some v5 ∧ W.cell? ⟨b2, o6, none⟩ = some v6 ∧ W.cell? ⟨b2, o7, none⟩ = some v7) ∧ ∃ y0 y1 y2 y3, W.heap[b]? = some (.cells #[y0, y1, y2, y3] T (0, 0))) ∧ Below w.heap.size w W) :
    ((W'.cell? ⟨b1, o0, none⟩ = some v0 ∧ W'.cell? ⟨b1, o1, none⟩ = some v1 ∧ W'.cell? ⟨b1, o2, none⟩ = some v2 ∧ W'.cell? ⟨b1, o3, none⟩ = some v3 ∧ W'.cell? ⟨b2, o4, none⟩ = some v4 ∧ W'.cell? ⟨b2, o5, none⟩ = some v5 ∧ W'.cell? ⟨b2, o6, none⟩ = some v6 ∧ W'.cell? ⟨b2, o7, none⟩ = some v7) ∧ ∃ y0 y1 y2 y3, W'.heap[b]? = some (.cells #[y0, y1, y2, y3] T (0, 0))) ∧ Below w.heap.size w W' := by
  obtain ⟨⟨hc, y0, y1, y2, y3, hy⟩, hB⟩ := h
  exact keep9_gen (hb.block _ hB1) (hb.block _ hB2) ((hb.block _ hB3).trans hy) (hB.trans (hb.mono hw)) hc
theorem held_lt {w W : World} {c : Prop} {b : Nat} {T : TypeId} (h : (c ∧ ∃ y0 y1 y2 y3, W.heap[b]? = some (.cells #[y0, y1, y2, y3] T (0, 0))) ∧ Below w.heap.size w W) : b + 1 ≤ W.heap.size := by
  obtain ⟨y0, y1, y2, y3, hy⟩ := h.1.2
  exact blk_lt hy

/-- one list behind another one -/
theorem own_join {T : TypeId} {w : World} {lo hi : Nat} {v : Value} {xs ys : List Int} (h : OwnF w lo hi T v (xs.length + ys.length) (fun j => if j < xs.length then iv xs j else iv ys (j - xs.length))) : OwnI T w lo hi v (xs ++ ys) := by
  refine OwnF.ints ?_
  rw [List.length_append]
  exact h.congr fun j _ => iv_append rfl j

theorem OwnI.one {T : TypeId} {w : World} {lo hi : Nat} {v : Value} {xs : List Int} (h : OwnI T w lo hi v xs) : v.oneCell' = true := by
  obtain ⟨p, cap, rfl, _, _⟩ := h.shape
  rfl
/-- rows of the call's own, put behind others, as a step of a region that draws -/
theorem step_append_II {w : World} {ops : Array Oper} {o : Oper} {a : Act} {K : Act → World → Prop} {Q : Exit → Act → World → Prop} {E : Prop} (hgd : o.guard = none) (s x : Operand)
    (ho : o.op = .call { callee := .builtin .append, args := #[s, x], argTypes := #[44, 44] })
    (lo mid hi : Nat) (v u : Value) (rows rows2 : List (List Int)) (hs : a.eval s = v) (hxu : a.eval x = u)
    (h1 : OwnII 22 3 w lo mid v rows) (h2 : OwnII 22 3 w mid hi u rows2) (hm : lo ≤ mid) (hmh : mid ≤ hi) (hhi : hi ≤ w.heap.size) (hl : rows.length + rows2.length ≤ 1000)
    (h : ∀ v' w', OwnII 22 3 w' lo w'.heap.size v' (rows ++ rows2) → Below lo w w' → K (a.put o.dst v') w') :
    if Region.wanted o (yielded ops a.tmps) = true then Oper.wp Try.prog o a w K Q else E := by
  obtain ⟨f, g1, g2, g3⟩ := h1
  obtain ⟨g, k1, k2, k3⟩ := h2
  refine step_append_F hgd s x 44 ho 22 (.slice none 0 0) 24 Try.underlying44 info_sl rfl lo mid v rows.length f hs g1 (by omega) (by omega) u rows2.length g hxu k1.rd (fun j hj => (k2 j hj).one) (by unfold maxLen; omega) (by omega) ?_
  intro v' w' ho' hg'
  exact h v' w' (OwnII.join g1 g2 g3 k2 k3 hm hmh (by decide) hg' (Nat.le_trans hhi hg'.size) ho') (grownBy_below2 hg' g1 (Nat.le_refl _) (by omega))

/-- the boxes of two arguments -/
theorem boxes_ab (w : World) (A B : Obj) : ((w.alloc A).alloc B).heap[w.heap.size]? = some A ∧ ((w.alloc A).alloc B).heap[w.heap.size + 1]? = some B := by
  refine ⟨?_, heap_alloc_at _ _ (by simp)⟩
  rw [heap_alloc_low _ _ (by simp)]; exact heap_alloc_top _ _
/-- .. and the result's cell -/
theorem boxes_abz (w : World) (A B Z : Obj) : (((w.alloc A).alloc B).alloc Z).heap[w.heap.size]? = some A ∧ (((w.alloc A).alloc B).alloc Z).heap[w.heap.size + 1]? = some B ∧ (((w.alloc A).alloc B).alloc Z).heap[w.heap.size + 1 + 1]? = some Z := by
  refine ⟨?_, ?_, heap_alloc_at _ _ (by simp)⟩
  · rw [heap_alloc_low _ _ (by simp; omega)]; exact (boxes_ab w A B).1
  · rw [heap_alloc_low _ _ (by simp)]; exact (boxes_ab w A B).2
theorem size_ab (w : World) (A B : Obj) : ((w.alloc A).alloc B).heap.size = w.heap.size + 1 + 1 := by simp
theorem size_abz (w : World) (A B Z : Obj) : (((w.alloc A).alloc B).alloc Z).heap.size = w.heap.size + 1 + 1 + 1 := by simp

end Go.Proofs.Ytfpjenmehoemcaa

namespace Go.Proofs.Ytfpjenmehoemcaa
set_option linter.all false
open Go.RowKit

/-- where the number j stands among the first k -/
def invK (xs : List Int) : Nat → Nat → Int
  | 0, _ => 0
  | k + 1, j => if (j : Int) = xs.getD k 0 then k else invK xs k j
def invL (xs : List Int) : List Int := (List.range xs.length).map (invK xs xs.length)
theorem invL_length (xs : List Int) : (invL xs).length = xs.length := by simp [invL]
theorem invL_getD {xs : List Int} {j : Nat} (h : j < xs.length) : (invL xs).getD j 0 = invK xs xs.length j := by simp [invL, List.getD_eq_getElem?_getD, h]

set_option maxRecDepth 100000 in
set_option maxHeartbeats 2000000 in
theorem specInverse_any (v : Value) (xs : List Int) (w : World) (h : Ints w v xs) (hp : permOk xs = true) :
    Calls Try.prog 50 #[v] w (RetI w (invL xs)) := by
  have Hh := Lib.hid h
  obtain ⟨q, cap, rfl, ⟨hx1, hx⟩, hxc⟩ := h
  obtain ⟨hl1, hl7, hr, _⟩ := of_decide_eq_true hp
  have Hr := Lib.hid hr
  obtain ⟨b, off, rfl, hc⟩ := hxc (by omega)
  have Hc := Lib.hid hc
  obtain ⟨N, hN⟩ : ∃ N, N = xs.length := ⟨_, rfl⟩
  have hmk := run_make_row' (P := Try.prog) 22 3 (.int .i64 0) 8 Try.underlying22 info_int rfl .i64 .i64 N (by omega) (by omega)
  rw [hN] at hmk
  unfold maxLen at hx
  clear hr hxc hp hc
  go_enter Try.func50, Try.ntmps50
  go_wp2_with fail
  go_loopg [4] xs.length (fun g s4 wr => ∃ k : Nat, k ≤ xs.length ∧ g = xs.length - k ∧ s4 = .int .i64 k ∧ Below w.heap.size w wr ∧ Hid (wr.rowIs w.heap.size 3 xs.length (fun j => .int .i64 (invK xs k j))))
  case atStart =>
    refine ⟨0, Nat.zero_le _, rfl, rfl, below_alloc _ _, ?_⟩
    exact (World.rowIs_made w (.int .i64 0) xs.length 3).congr fun j _ => by simp [invK]
  case round =>
    obtain ⟨k, hk, rfl, rfl, hbw, hrow⟩ := hrel
    by_cases hlt : k < xs.length
    · have hx0 := Hr.out _ (getD_mem hlt)
      obtain ⟨m, hm⟩ := Int.eq_ofNat_of_zero_le hx0.1
      have c1 : wr.cell? ⟨b, off + k, none⟩ = some (.int .i64 (m : Int)) := by
        rw [hbw.cell (p := ⟨b, off + k, none⟩) (World.block_lt_of_cell? _ _ (Hc.out k hlt)), Hc.out k hlt]; simp only [iv, hm]
      have hml : m < xs.length := by omega
      obtain ⟨z, c2⟩ : ∃ z, wr.cell? ⟨w.heap.size, m, none⟩ = some (.int .i64 z) := ⟨_, hrow.out.cell hml⟩
      have c3 := hrow.out.frozen m
      have i1 : (k : Int) < (xs.length : Int) := by omega
      have i2 : (m : Int) < (xs.length : Int) := by omega
      have Hm := Lib.hid hm
      have Hrow := Lib.hid hrow.out
      clear hx0 hm hrow
      go_wp2_with fail
      go_roundg (xs.length - (k + 1))
      case measure => omega
      case rel =>
        refine ⟨k + 1, by omega, rfl, by go_num, hbw.setCell (Nat.le_refl _) _, (Hrow.out.set m _).congr fun j hj => ?_⟩
        rw [invK, Hm.out]
        by_cases e : j = m
        · subst e; simp
        · simp [e, show ¬ (j : Int) = (m : Int) by omega]
    · obtain rfl : k = xs.length := by omega
      have i1 : ¬ (xs.length : Int) < (xs.length : Int) := by omega
      have ho := rowIs_ints (xs := invL xs) (by rw [invL_length]; exact hrow.out.congr fun j hj => by rw [iv, invL_getD hj]) (by rw [invL_length]; unfold maxLen; omega)
      rw [invL_length] at ho
      have Ho := Lib.hid ho
      clear ho hrow
      go_wp2_with fail
      go_ret
      exact ⟨_, rfl, Ho.out, hbw⟩

end Go.Proofs.Ytfpjenmehoemcaa

namespace Go.Proofs.Ytfpjenmehoemcaa
set_option linter.all false
open Go.RowKit

/-- the identity of n -/
def idL (n : Nat) : List Int := (List.range n).map fun (i : Nat) => (i : Int)
theorem idL_length (n : Nat) : (idL n).length = n := by simp [idL]
theorem idL_getD {n i : Nat} (h : i < n) : (idL n).getD i 0 = i := by simp [idL, List.getD_eq_getElem?_getD, h]
theorem idL_succ (n : Nat) : idL (n + 1) = idL n ++ [(n : Int)] := by simp [idL, List.range_succ]
theorem idL_ok {n : Nat} (h1 : 1 ≤ n) (h7 : n ≤ 7) : permOk (idL n) = true := by
  have : n = 1 ∨ n = 2 ∨ n = 3 ∨ n = 4 ∨ n = 5 ∨ n = 6 ∨ n = 7 := by omega
  rcases this with rfl | rfl | rfl | rfl | rfl | rfl | rfl <;> decide

set_option maxRecDepth 100000 in
set_option maxHeartbeats 2000000 in
theorem specIdentity_any (n : Nat) (w : World) (h1 : 1 ≤ n) (h7 : n ≤ 7) :
    Calls Try.prog 37 #[.int .i64 (n : Int)] w (RetI w (idL n)) := by
  have hin : Hid ((1 : Int) ≤ n ∧ (n : Int) ≤ 7) := ⟨by omega, by omega⟩
  go_enter Try.func37, Try.ntmps37
  go_wp2_with fail
  refine (l1In_yes _ _ _ _ hin.out).mono ?_
  rintro e w' ⟨rfl, rfl⟩
  go_wp2_with fail
  go_loopg [3, 4] n (fun g s3 s4 wr => ∃ i : Nat, i ≤ n ∧ g = n - i ∧ s4 = .int .i64 i ∧ Hid (Below w.heap.size w wr) ∧ Hid (OwnI 3 wr w.heap.size wr.heap.size s3 (idL i)))
  case atStart =>
    refine ⟨0, Nat.zero_le _, rfl, rfl, below_alloc w _, ?_⟩
    exact OwnF.ints ((OwnF.made0 w 3 (iv [])).mono (Nat.le_refl _) (by simp))
  case round =>
    obtain ⟨i, hi, rfl, rfl, hb, ho⟩ := hrel
    have hsr := hb.out.size
    by_cases hlt : i < n
    · have hlt2 : (i : Int) < (n : Int) := by omega
      obtain ⟨p5, k5, rfl, _, _⟩ := ho.out.shape
      have hofn := ho.out.fn
      rw [idL_length] at hofn ⊢
      have Ho := Lib.hid hofn
      have Hb := Lib.hid hb.out
      have Hb1 := Lib.hid (show i + 1 ≤ maxLen by unfold maxLen; omega)
      have Hb2 := Lib.hid (show (i + 1) * 8 ≤ 140737488355328 by omega)
      clear ho hofn hb
      go_wp2_with (at_builtin; go_must (refine wpList_append_F rfl (.tmp 14) (.tmp 16) 22 rfl 3 (.int .i64 0) 8 Try.underlying22 info_int rfl w.heap.size wr.heap.size _ i (iv (idL i)) rfl (Ho.out.below (below_alloc wr _)) (by rw [size_alloc]; omega) (by rw [size_alloc]; omega) _ 1 _ rfl (rd_one _ _ _ rfl) (fun j _ => rfl) Hb1.out Hb2.out ?_; intro v2 w2 ho2 hg2))
      go_roundg (n - (i + 1))
      case measure => omega
      case rel =>
        have hbx : Below w.heap.size wr w2 := ((below_alloc wr _).mono (by omega)).trans (grownBy_below hg2 Ho.out.blocks (Nat.le_refl _) (by rw [size_alloc]; omega))
        refine ⟨i + 1, by omega, rfl, by go_num, Hb.out.trans hbx, ?_⟩
        rw [idL_succ]
        exact OwnI.snoc1 (by rw [idL_length]; exact ho2)
    · obtain rfl : i = n := by omega
      have hlt2 : ¬ (i : Int) < (i : Int) := by omega
      have Ho := Lib.hid ho.out
      have Hb := Lib.hid hb.out
      clear ho hb
      go_wp2_with fail
      go_ret
      exact ⟨_, rfl, Ho.out, Hb.out⟩


end Go.Proofs.Ytfpjenmehoemcaa

namespace Go.Proofs.Ytfpjenmehoemcaa
set_option linter.all false
open Go.RowKit

/-- the sum over the reduced words of v within a word -/
def sumS (v ys : List Int) : List Nat → List Int → List Int → Int
  | [], _, h => if h = v then 1 else 0
  | k :: r, u, h => sumS v ys r (sw k u) h + (if ascB k h then (ys.getD (u.getD (k + 1) 0).toNat 0 - ys.getD (u.getD k 0).toNat 0) * sumS v ys r (sw k u) (sw k h) else 0)

def lnK (xs : List Int) : Nat → Nat
  | 0 => 0
  | k + 1 => lnK xs k + cdA xs k
/-- how many inversions -/
def lnN (xs : List Int) : Nat := lnK xs xs.length
theorem lnK_le (xs : List Int) (h : xs.length ≤ 10) : ∀ k, k ≤ xs.length → lnK xs k ≤ k * 10
  | 0, _ => Nat.le_refl _
  | k + 1, hk => by
    have a := lnK_le xs h k (by omega)
    have b := cdK_le xs k (xs.length - (k + 1))
    rw [lnK]
    unfold cdA
    omega
/-- the first place where a list goes down -/
def fdN (b : List Int) : Nat := ((List.range (b.length - 1)).find? fun k => !ascB k b).getD 0
def frN (w : List Int) : Nat := fdN (invL w)
/-- the values k and k + 1 exchanged -/
def frV (w : List Int) (k : Nat) : List Int := (w.set ((invL w).getD k 0).toNat ((k + 1 : Nat) : Int)).set ((invL w).getD (k + 1) 0).toNat (k : Int)
def frS (w : List Int) : List Int := frV w (frN w)
def firL : Nat → List Int → List Nat
  | 0, _ => []
  | f + 1, w => frN w :: firL f (frS w)
/-- the word of the reference -/
def fstL (w : List Int) : List Nat := firL (lnN w) w
/-- a word played -/
def play (r : List Nat) (u : List Int) : List Int := r.foldl (fun u k => sw k u) u

def firB (w : List Int) : Bool := decide (lnN w = 0) || (decide (frN w + 1 < w.length) && !ascB (frN w) (invL w) && (List.range (frN w)).all (fun j => ascB j (invL w)) && permOk (frS w) && decide (lnN (frS w) + 1 = lnN w) && (invL w).all (fun x => decide (0 ≤ x ∧ x < (w.length : Int))))
def wrdB (w : List Int) : Bool := decide (play (fstL w) (idL w.length) = w) && (fstL w).all (fun k => decide (k + 1 < w.length)) && decide ((fstL w).length ≤ 10) && decide (lnN w + upN w = w.length * (w.length - 1) / 2)
set_option maxRecDepth 100000 in
theorem fir_all : all5 firB = true := by decide +kernel
set_option maxRecDepth 100000 in
theorem wrd_all : all5 wrdB = true := by decide +kernel
structure FirAt (w : List Int) : Prop where
  lt : frN w + 1 < w.length
  down : ascB (frN w) (invL w) = false
  up : ∀ j, j < frN w → ascB j (invL w) = true
  ok : permOk (frS w) = true
  less : lnN (frS w) + 1 = lnN w
  rng : ∀ j, j < w.length → ∃ m : Nat, (invL w).getD j 0 = (m : Int) ∧ m < w.length
theorem fir_at {n : Nat} {w : List Int} (h : P5 n w) (h0 : lnN w ≠ 0) : FirAt w := by
  have := all5_at fir_all h.ok (by have := h.len; have := h.le; omega)
  unfold firB at this
  rw [decide_eq_false h0, Bool.false_or] at this
  simp only [Bool.and_eq_true, decide_eq_true_eq, List.all_eq_true, List.mem_range] at this
  obtain ⟨⟨⟨⟨⟨h1, h2⟩, h3⟩, h4⟩, h5⟩, h6⟩ := this
  refine ⟨h1, by simpa using h2, h3, h4, h5, fun j hj => ?_⟩
  have := h6 _ (getD_mem (show j < (invL w).length by rw [invL_length]; exact hj))
  exact ⟨((invL w).getD j 0).toNat, by omega, by omega⟩
theorem wrd_at {n : Nat} {w : List Int} (h : P5 n w) : play (fstL w) (idL n) = w ∧ (∀ k ∈ fstL w, k + 1 < n) ∧ (fstL w).length ≤ 10 ∧ lnN w + upN w = n * (n - 1) / 2 := by
  have := all5_at wrd_all h.ok (by have := h.len; have := h.le; omega)
  unfold wrdB at this
  rw [h.len] at this
  simp only [Bool.and_eq_true, decide_eq_true_eq, List.all_eq_true] at this
  exact ⟨this.1.1.1, this.1.1.2, this.1.2, this.2⟩
theorem P5.mk' {w : List Int} (h : permOk w = true) (h5 : w.length ≤ 5) : P5 w.length w := ⟨h, rfl, h5⟩
theorem P5.rng {n : Nat} {w : List Int} (h : P5 n w) {j : Nat} (hj : j < n) : ∃ m : Nat, w.getD j 0 = (m : Int) ∧ m < n := by
  have hp := h.ok
  simp only [permOk, decide_eq_true_eq] at hp
  have := hp.2.2.1 _ (getD_mem (show j < w.length by rw [h.len]; exact hj))
  rw [h.len] at this
  exact ⟨(w.getD j 0).toNat, by omega, by omega⟩
theorem P5.id {n : Nat} (h1 : 1 ≤ n) (h5 : n ≤ 5) : P5 n (idL n) := ⟨idL_ok h1 (by omega), idL_length n, h5⟩

end Go.Proofs.Ytfpjenmehoemcaa

namespace Go.Proofs.Ytfpjenmehoemcaa
set_option linter.all false
open Go.RowKit

set_option maxRecDepth 100000 in
set_option maxHeartbeats 400000 in
theorem l1Same_any (v1 v2 : Value) (xs ys : List Int) (w : World) (h1 : Ints w v1 xs) (h2 : Ints w v2 ys) :
    Calls Try.prog 47 #[v1, v2] w fun e w' => e = .returned (.bool (decide (xs = ys))) ∧ Qt w w' := by
  obtain ⟨p, cap, rfl, ⟨hx1, hx⟩, hxc⟩ := h1
  obtain ⟨q, cap', rfl, ⟨hy1, hy⟩, hyc⟩ := h2
  unfold maxLen at hx hy
  by_cases hl : xs.length = ys.length
  · have e1 : ((xs.length : Int) != (ys.length : Int)) = false := by simp [hl]
    have Hl := Lib.hid hl
    clear hl
    go_enter Try.func47, Try.ntmps47
    go_wp2
    clear e1
    go_loopg [5] xs.length (fun g i wr => ∃ k : Nat, k ≤ xs.length ∧ g = xs.length - k ∧ i = .int .i64 k ∧ Qt w wr ∧ Hid (∀ j, j < k → xs.getD j 0 = ys.getD j 0))
    case atStart => exact ⟨0, Nat.zero_le _, rfl, rfl, Qt.refl _, fun j hj => absurd hj (Nat.not_lt_zero _)⟩
    case round =>
      obtain ⟨k, hk, rfl, rfl, hq, hp⟩ := hrel
      by_cases hlt : k < xs.length
      · obtain ⟨b, off, rfl, hc⟩ := hxc (by omega)
        have hl := Hl.out
        obtain ⟨b', off', rfl, hc'⟩ := hyc (by omega)
        have c1 := hq.cell (hc k hlt)
        have c2 := hq.cell (hc' k (by omega))
        have hk2 : k < ys.length := by omega
        unfold iv at c1 c2
        clear hl hxc hyc hc hc'
        go_wp2
        go_quiet (fail)
        go_wp2
        · have ht : (xs[k] != ys[k]) = true := by assumption
          go_ret
          refine ⟨ret_bool ?_, hq.drewN _⟩
          symm
          simp only [decide_eq_false_iff_not]
          intro e
          subst e
          simp at ht
        · have ht : (xs[k] != ys[k]) = false := by assumption
          go_roundg (xs.length - (k + 1))
          case measure => omega
          case rel =>
            refine ⟨k + 1, by omega, rfl, by go_num, hq.drewN _, eq_snoc hp.out ?_⟩
            have := by simpa using ht
            simpa [List.getD_eq_getElem?_getD, hlt, hk2] using this
      · go_wp2
        go_ret
        refine ⟨ret_bool ?_, hq⟩
        symm
        simp only [decide_eq_true_eq]
        exact getD_eq_list Hl.out fun j hj => hp.out j (by omega)
  · have e1 : ((xs.length : Int) != (ys.length : Int)) = true := by simp; omega
    go_enter Try.func47, Try.ntmps47
    go_wp2
    go_ret
    refine ⟨ret_bool ?_, Qt.refl _⟩
    symm
    simp only [decide_eq_false_iff_not]
    intro e
    exact hl (by rw [e])

end Go.Proofs.Ytfpjenmehoemcaa
