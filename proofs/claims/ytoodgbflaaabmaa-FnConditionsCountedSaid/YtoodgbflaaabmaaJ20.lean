/-
  The law FnSpacesCounted, on lists: plain.
  Conditions of shapes: plain. What dimensions in common with a flag say of the position's shape.
  Ranks by reckoning: an elimination that a check confirms. Plain.
  What is reckoned of the small boxes: spaces, ranks, counts. Plain.
  What is reckoned of the small boxes: counts of spaces that meet. Plain.
  The law FnConditionsCounted, on lists: spaces that meet a flag are counted as if it were the flag of units. Plain.
-/
import Derived.Test.YtoodgbflaaabmaaJ15
import Derived.Test.YtoodgbflaaabmaaJ16
import Derived.Test.YtoodgbflaaabmaaJ17
import Derived.Test.YtoodgbflaaabmaaJ10
import Derived.Test.YtoodgbflaaabmaaJ18
import Derived.Test.YtoodgbflaaabmaaJ19
import Derived.Test.YtoodgbflaaabmaaJ11
namespace Go.Proofs.Ytoodgbflaaabmaa
set_option linter.all false
open Go.RowKit

/-- the places of the ones of a string -/
def onesL (s : List Int) : List Nat := (List.range s.length).filter fun j => decide (¬ s.getD j 0 = 0)
def onesQ (s : List Int) (i : Nat) : Nat := (onesL s).getD i 0
/-- what a string's rows and free places look like -/
def scChk (s : List Int) : Bool :=
  strOk s && decide ((spR s s.length).length = (onesL s).length) && decide ((spR s s.length).flatten.length = (onesL s).length * s.length) &&
  (List.range (onesL s).length).all (fun i => decide (onesQ s i < s.length) && (List.range i).all (fun k => decide (onesQ s k < onesQ s i)) &&
    (List.range s.length).all (fun j => decide ((spR s s.length).flatten.getD (i * s.length + j) 0 = if j = onesQ s i then 1 else 0) &&
      (decide (¬ (i * s.length + j) ∈ spF s s.length) || (decide (onesQ s i < j) && decide (s.getD j 0 = 0)))) && decide (¬ s.getD (onesQ s i) 0 = 0)) &&
  decide (strL s.length (onesQ s) (onesL s).length = s)
structure ScS (s : List Int) : Prop where
  str : strOk s = true
  rows : (spR s s.length).length = (onesL s).length
  flat : (spR s s.length).flatten.length = (onesL s).length * s.length
  lt : ∀ i, i < (onesL s).length → onesQ s i < s.length
  asc : ∀ i k, k < i → i < (onesL s).length → onesQ s k < onesQ s i
  base : ∀ i j, i < (onesL s).length → j < s.length → (spR s s.length).flatten.getD (i * s.length + j) 0 = if j = onesQ s i then 1 else 0
  free : ∀ i j, i < (onesL s).length → j < s.length → (i * s.length + j) ∈ spF s s.length → onesQ s i < j ∧ s.getD j 0 = 0
  one : ∀ i, i < (onesL s).length → ¬ s.getD (onesQ s i) 0 = 0
  back : strL s.length (onesQ s) (onesL s).length = s
theorem scS_of {s : List Int} (h : scChk s = true) : ScS s := by
  unfold scChk at h
  simp only [Bool.and_eq_true, decide_eq_true_eq, List.all_eq_true, List.mem_range, Bool.or_eq_true] at h
  obtain ⟨⟨⟨⟨h1, h2⟩, h3⟩, h4⟩, h5⟩ := h
  exact ⟨h1, h2, h3, fun i hi => (h4 i hi).1.1.1, fun i k hk hi => (h4 i hi).1.1.2 k hk, fun i j hi hj => ((h4 i hi).1.2 j hj).1, fun i j hi hj hm => by
    rcases ((h4 i hi).1.2 j hj).2 with h | h
    · exact absurd hm h
    · exact h, fun i hi => (h4 i hi).2, h5⟩
set_option maxRecDepth 100000 in
theorem sc_1 : ∀ a : Fin 2, scChk [(((a : Nat) : Int))] = true := by decide +kernel
set_option maxRecDepth 100000 in
theorem sc_2 : ∀ a b : Fin 2, scChk [(((a : Nat) : Int)), (((b : Nat) : Int))] = true := by decide +kernel
set_option maxRecDepth 100000 in
theorem sc_3 : ∀ a b c : Fin 2, scChk [(((a : Nat) : Int)), (((b : Nat) : Int)), (((c : Nat) : Int))] = true := by decide +kernel
set_option maxRecDepth 100000 in
theorem sc_4 : ∀ a b c d : Fin 2, scChk [(((a : Nat) : Int)), (((b : Nat) : Int)), (((c : Nat) : Int)), (((d : Nat) : Int))] = true := by decide +kernel
theorem fin2_of {x : Int} (h : x = 0 ∨ x = 1) : ∃ a : Fin 2, x = ((a : Nat) : Int) := by
  rcases h with rfl | rfl
  · exact ⟨0, rfl⟩
  · exact ⟨1, rfl⟩
theorem scS {s : List Int} (hs : strOk s = true) (h4 : s.length ≤ 4) : ScS s := by
  obtain ⟨h1, _, hr⟩ := of_decide_eq_true hs
  refine scS_of ?_
  match s, h1, h4, hr with
  | [a], _, _, hr =>
    obtain ⟨a, rfl⟩ := fin2_of (hr a (by simp))
    exact sc_1 a
  | [a, b], _, _, hr =>
    obtain ⟨a, rfl⟩ := fin2_of (hr a (by simp))
    obtain ⟨b, rfl⟩ := fin2_of (hr b (by simp))
    exact sc_2 a b
  | [a, b, c], _, _, hr =>
    obtain ⟨a, rfl⟩ := fin2_of (hr a (by simp))
    obtain ⟨b, rfl⟩ := fin2_of (hr b (by simp))
    obtain ⟨c, rfl⟩ := fin2_of (hr c (by simp))
    exact sc_3 a b c
  | [a, b, c, d], _, _, hr =>
    obtain ⟨a, rfl⟩ := fin2_of (hr a (by simp))
    obtain ⟨b, rfl⟩ := fin2_of (hr b (by simp))
    obtain ⟨c, rfl⟩ := fin2_of (hr c (by simp))
    obtain ⟨d, rfl⟩ := fin2_of (hr d (by simp))
    exact sc_4 a b c d

/-- each of the spaces with a string is a space with that string -/
theorem fill_red {P : Nat} {s : List Int} (hp : primeOk (P : Int) = true) (h : ScS s) (x : Nat) :
    IsRed P s.length (onesL s).length (mf s.length fun t => (fillSt P (spR s s.length).flatten (spF s s.length) x (spF s s.length).length).1.getD t 0) (onesL s).length (mf s.length fun t => (fillSt P (spR s s.length).flatten (spF s s.length) x (spF s s.length).length).1.getD t 0) (onesQ s) := by
  obtain ⟨hP, _⟩ := primeOk_range hp
  have hA := fillSt_at (p := P) (by omega) (spR s s.length).flatten (spF s s.length) x (spF s s.length).length (Nat.le_refl _)
  have hz : ∀ i j, i < (onesL s).length → j < s.length → ¬ (onesQ s i < j ∧ s.getD j 0 = 0) → mf s.length (fun t => (fillSt P (spR s s.length).flatten (spF s s.length) x (spF s s.length).length).1.getD t 0) i j = if j = onesQ s i then 1 else 0 := fun i j hi hj hf => by
    rw [← h.base i j hi hj]
    rcases hA (i * s.length + j) with h1 | ⟨h1, _⟩
    · exact h1
    · exact absurd (h.free i j hi hj h1) hf
  refine ⟨⟨h.lt, fun i k hi hk => ?_, fun i j hi hj => ?_⟩, fun i k hik hk => h.asc k i hik hk, fun i j hi hj => ?_, SameSp.refl⟩
  · rw [hz i _ hi (h.lt k hk) (fun e => h.one k hk e.2)]
    by_cases e : i = k
    · subst e; rw [if_pos rfl, if_pos rfl]
    · rw [if_neg e, if_neg]
      intro e2
      rcases Nat.lt_or_gt_of_ne e with h3 | h3
      · have := h.asc k i h3 hk; omega
      · have := h.asc i k h3 hi; omega
  · have := h.lt i hi
    rw [hz i j hi (by omega) (by omega), if_neg (by omega)]
  · show 0 ≤ List.getD _ (i * s.length + j) 0 ∧ List.getD _ (i * s.length + j) 0 < _
    rcases hA (i * s.length + j) with h1 | ⟨_, h1⟩
    · rw [h1, h.base i j hi hj]
      split <;> omega
    · exact h1
theorem fill_sp {P : Nat} {s : List Int} (hp : primeOk (P : Int) = true) (h : ScS s) (x : Nat) :
    IsSp P (onesL s).length s.length (fillSt P (spR s s.length).flatten (spF s s.length) x (spF s s.length).length).1 ∧
    ∀ l, StIs P (onesL s).length s.length (fillSt P (spR s s.length).flatten (spF s s.length) x (spF s s.length).length).1 l → l = s := by
  obtain ⟨h1, h7, _⟩ := of_decide_eq_true h.str
  have hr := fill_red hp h x
  have hsp := hr.isSp hp h1 h7
  have e : flatM (onesL s).length s.length (mf s.length fun t => (fillSt P (spR s s.length).flatten (spF s s.length) x (spF s s.length).length).1.getD t 0) = (fillSt P (spR s s.length).flatten (spF s s.length) x (spF s s.length).length).1 := by
    rw [flatM_mf]
    refine getD_eq_list (by simp [fillSt_length, h.flat]) fun j hj => ?_
    have hj : j < (onesL s).length * s.length := by simpa using hj
    simp [List.getD_eq_getElem?_getD, hj]
  rw [e] at hsp
  refine ⟨hsp, fun l hl => ?_⟩
  obtain ⟨n, M, q, h2, rfl⟩ := hl.1 ⟨fun _ => hsp, fun _ => rfl⟩
  simp only [Int.toNat_natCast] at h2 ⊢
  obtain ⟨e1, e2, _⟩ := h2.one (primeOk_range hp).1 hr
  subst e1
  rw [strL_congr e2]
  exact h.back

/-- what is asked of each shape of a box -/
def boxChk (k m : Nat) : Bool :=
  (shs k m []).all (fun l => bxOk l k (k + m) && strOk (gsL l k (k + m)) && decide ((onesL (gsL l k (k + m))).length = k) && decide (l.length ≤ 4) && l.all (fun x => decide (0 ≤ x ∧ x ≤ 4)) &&
    decide (((spF (gsL l k (k + m)) (k + m)).length : Int) = (k : Int) * (m : Int) - sumI l) && decide (0 ≤ sumI l)) &&
  (List.range (ishs k m).length).all (fun t => let l := (ishs k m).getD t []; decide (l.length ≤ 4) && l.all (fun x => decide (0 ≤ x ∧ x ≤ 4)) && decide (0 ≤ sumI l) && decide (sumI l < ((k * m + 1 : Nat) : Int)))
def totA (p k m : Nat) (L : List (List Int)) : Nat := (L.map fun l => p ^ ((k : Int) * (m : Int) - sumI l).toNat).sum
set_option maxRecDepth 100000 in
theorem box_all : boxChk 1 1 = true ∧ boxChk 1 2 = true ∧ boxChk 2 1 = true ∧ boxChk 1 3 = true ∧ boxChk 2 2 = true ∧ boxChk 3 1 = true := by decide +kernel
set_option maxRecDepth 100000 in
theorem tot_all : (totA 2 1 1 (shs 1 1 []) = csA (ishs 1 1) 2 2 ∧ totA 3 1 1 (shs 1 1 []) = csA (ishs 1 1) 3 2) ∧ (totA 2 1 2 (shs 1 2 []) = csA (ishs 1 2) 2 3 ∧ totA 3 1 2 (shs 1 2 []) = csA (ishs 1 2) 3 3) ∧ (totA 2 2 1 (shs 2 1 []) = csA (ishs 2 1) 2 3 ∧ totA 3 2 1 (shs 2 1 []) = csA (ishs 2 1) 3 3) ∧
    totA 2 1 3 (shs 1 3 []) = csA (ishs 1 3) 2 4 ∧ totA 2 2 2 (shs 2 2 []) = csA (ishs 2 2) 2 5 ∧ totA 2 3 1 (shs 3 1 []) = csA (ishs 3 1) 2 4 := by decide +kernel
/-- the boxes that are drawn -/
def SmBox (p k m : Nat) : Prop := (p = 2 ∨ p = 3 ∧ k + m < 4) ∧ 1 ≤ k ∧ 1 ≤ m ∧ k + m ≤ 4
theorem SmBox.cases {p k m : Nat} (h : SmBox p k m) : (k = 1 ∧ m = 1 ∧ (p = 2 ∨ p = 3)) ∨ (k = 1 ∧ m = 2 ∧ (p = 2 ∨ p = 3)) ∨ (k = 2 ∧ m = 1 ∧ (p = 2 ∨ p = 3)) ∨ (k = 1 ∧ m = 3 ∧ p = 2) ∨ (k = 2 ∧ m = 2 ∧ p = 2) ∨ (k = 3 ∧ m = 1 ∧ p = 2) := by
  obtain ⟨h1, h2, h3, h4⟩ := h
  omega
theorem SmBox.chk {p k m : Nat} (h : SmBox p k m) : boxChk k m = true := by
  rcases h.cases with ⟨rfl, rfl, _⟩ | ⟨rfl, rfl, _⟩ | ⟨rfl, rfl, _⟩ | ⟨rfl, rfl, _⟩ | ⟨rfl, rfl, _⟩ | ⟨rfl, rfl, _⟩
  · exact box_all.1
  · exact box_all.2.1
  · exact box_all.2.2.1
  · exact box_all.2.2.2.1
  · exact box_all.2.2.2.2.1
  · exact box_all.2.2.2.2.2
theorem SmBox.tot {p k m : Nat} (h : SmBox p k m) : totA p k m (shs k m []) = csA (ishs k m) p (k * m + 1) := by
  rcases h.cases with ⟨rfl, rfl, rfl | rfl⟩ | ⟨rfl, rfl, rfl | rfl⟩ | ⟨rfl, rfl, rfl | rfl⟩ | ⟨rfl, rfl, rfl⟩ | ⟨rfl, rfl, rfl⟩ | ⟨rfl, rfl, rfl⟩
  · exact tot_all.1.1
  · exact tot_all.1.2
  · exact tot_all.2.1.1
  · exact tot_all.2.1.2
  · exact tot_all.2.2.1.1
  · exact tot_all.2.2.1.2
  · exact tot_all.2.2.2.1
  · exact tot_all.2.2.2.2.1
  · exact tot_all.2.2.2.2.2
theorem SmBox.prime {p k m : Nat} (h : SmBox p k m) : primeOk (p : Int) = true := by
  rcases h.1 with rfl | ⟨rfl, _⟩ <;> decide
theorem SmBox.small {p k m : Nat} (h : SmBox p k m) : (m + 1) ^ k ≤ 1000 ∧ p ^ (k * m + 1) ≤ 1000 ∧ k * m ≤ 4 := by
  rcases h.cases with ⟨rfl, rfl, rfl | rfl⟩ | ⟨rfl, rfl, rfl | rfl⟩ | ⟨rfl, rfl, rfl | rfl⟩ | ⟨rfl, rfl, rfl⟩ | ⟨rfl, rfl, rfl⟩ | ⟨rfl, rfl, rfl⟩ <;> decide

theorem sumOk_of {l : List Int} (h1 : l.length ≤ 4) (h2 : ∀ x ∈ l, 0 ≤ x ∧ x ≤ 4) : sumOk l := ⟨by omega, fun k hk => by have := h2 _ (getD_mem hk); omega⟩
/-- a shape of the box, and the spaces with its string -/
structure ScL (p k m : Nat) (l : List Int) (ms : List Mx) : Prop where
  box : bxOk l k (k + m) = true
  sum : sumOk l
  two : 0 ≤ sumI l ∧ sumI l ≤ (k : Int) * (m : Int)
  mss : spMs p (gsL l k (k + m)) = (ms, true)
  len : ms.length = p ^ ((k : Int) * (m : Int) - sumI l).toNat
  few : ms.length ≤ 1000
  each : ∀ i, i < ms.length → ∃ D, ms.getD i mxZero = ⟨p, k, (k + m : Nat), D⟩ ∧ IsSp p k (k + m : Nat) D ∧ ∀ s, StIs p k (k + m : Nat) D s → s = gsL l k (k + m)
theorem scL {p k m : Nat} (h : SmBox p k m) {l : List Int} (hl : l ∈ shs k m []) : ∃ ms, ScL p k m l ms := by
  have hc := h.chk
  unfold boxChk at hc
  simp only [Bool.and_eq_true, decide_eq_true_eq, List.all_eq_true] at hc
  obtain ⟨⟨⟨⟨⟨⟨h1, h2⟩, h3⟩, h4⟩, h5⟩, h6⟩, h7⟩ := hc.1 l hl
  obtain ⟨_, hsm, hkm⟩ := h.small
  have hp := h.prime
  have hs4 : (gsL l k (k + m)).length ≤ 4 := by rw [gsL_length]; exact h.2.2.2
  have hS := scS h2 hs4
  have hlen : (gsL l k (k + m)).length = k + m := gsL_length _ _ _
  have hkmI : (k : Int) * (m : Int) = ((k * m : Nat) : Int) := by simp
  have hfr : (spF (gsL l k (k + m)) (k + m)).length = ((k : Int) * (m : Int) - sumI l).toNat := by omega
  have hfr2 : (spF (gsL l k (k + m)) (k + m)).length ≤ k * m + 1 := by omega
  have hp2 : 1 ≤ p := by rcases h.1 with rfl | ⟨rfl, _⟩ <;> omega
  have hb : p ^ (spF (gsL l k (k + m)) (k + m)).length ≤ 400 := by
    have a : p ^ (spF (gsL l k (k + m)) (k + m)).length ≤ p ^ 4 := Nat.pow_le_pow_right hp2 (by omega)
    rcases h.1 with rfl | ⟨rfl, h9⟩
    · exact Nat.le_trans a (by decide)
    · exact Nat.le_trans a (by decide)
  have hrows : (spR (gsL l k (k + m)) (k + m)).length = k := by
    have := hS.rows
    rw [hlen, h3] at this
    exact this
  refine ⟨fillMs p k (k + m : Nat) (spR (gsL l k (k + m)) (k + m)).flatten (spF (gsL l k (k + m)) (k + m)) (p ^ (spF (gsL l k (k + m)) (k + m)).length), h1, sumOk_of h4 h5, ⟨h7, by omega⟩, ?_, by rw [fillMs_length, hfr], by rw [fillMs_length]; omega, fun i hi => ?_⟩
  · rw [spMs_yes hp h2, hlen, hrows]
    unfold fillB
    rw [Int.toNat_natCast, if_pos hb]
  · rw [fillMs_length] at hi
    have := fill_sp hp hS i
    rw [hlen, h3] at this
    refine ⟨_, ?_, this.1, this.2⟩
    unfold fillMs
    simp [List.getD_eq_getElem?_getD, hi]
theorem gcOk_of {p k m : Nat} (h : SmBox p k m) : GcOk (ishs k m) (k * m + 1) := fun t ht => by
  have hc := h.chk
  unfold boxChk at hc
  simp only [Bool.and_eq_true, decide_eq_true_eq, List.all_eq_true, List.mem_range] at hc
  obtain ⟨⟨⟨h1, h2⟩, h3⟩, h4⟩ := hc.2 t ht
  exact ⟨sumOk_of h1 h2, h3, h4⟩

/-- the sum of the first powers -/
def totT (p k m : Nat) (L : List (List Int)) (t : Nat) : Nat := totA p k m (L.take t)
theorem totT_zero (p k m : Nat) (L : List (List Int)) : totT p k m L 0 = 0 := by simp [totT, totA]
theorem totT_succ {p k m t : Nat} {L : List (List Int)} (h : t < L.length) : totT p k m L (t + 1) = totT p k m L t + p ^ ((k : Int) * (m : Int) - sumI (L.getD t [])).toNat := by
  unfold totT totA
  rw [List.take_succ, List.getElem?_eq_getElem h, List.map_append, List.sum_append, List.getD_eq_getElem?_getD, List.getElem?_eq_getElem h]
  simp
theorem totT_all (p k m : Nat) (L : List (List Int)) : totT p k m L L.length = totA p k m L := by simp [totT]

end Go.Proofs.Ytoodgbflaaabmaa

namespace Go.Proofs.Ytoodgbflaaabmaa
set_option linter.all false
open Go.RowKit

/-- dimensions in common with the members of a flag -/
structure Dm (n r : Nat) (d : Nat → Nat) : Prop where
  zero : d 0 = 0
  top : d n = r
  step : ∀ j, j < n → d (j + 1) = d j ∨ d (j + 1) = d j + 1
namespace Dm
variable {n r : Nat} {d : Nat → Nat}
theorem mono (h : Dm n r d) {i j : Nat} (hij : i ≤ j) (hj : j ≤ n) : d i ≤ d j ∧ d j ≤ d i + (j - i) := by
  have := steps_le h.step (j - i) i (by omega)
  rw [show i + (j - i) = j by omega] at this
  exact this
theorem le (h : Dm n r d) {j : Nat} (hj : j ≤ n) : d j ≤ j ∧ d j ≤ r := by
  have a := h.mono (Nat.zero_le j) hj
  have b := h.mono hj (Nat.le_refl n)
  have := h.zero
  have := h.top
  omega
theorem rn (h : Dm n r d) : r ≤ n := by
  have := (h.le (Nat.le_refl n)).1
  have := h.top
  omega
/-- the place of the one that brings the dimension from b to b + 1 -/
theorem at_ex (h : Dm n r d) {b : Nat} (hb : b < r) : ∃ j, j < n ∧ d j = b ∧ d (j + 1) = b + 1 := by
  have key : ∀ m, m ≤ n → b < d m → ∃ j, j < m ∧ d j = b ∧ d (j + 1) = b + 1 := by
    intro m
    induction m with
    | zero => intro _ h0; rw [h.zero] at h0; omega
    | succ m ih =>
      intro hm hb'
      by_cases e : b < d m
      · obtain ⟨j, h1, h2⟩ := ih (by omega) e
        exact ⟨j, by omega, h2⟩
      · have := h.step m (by omega)
        exact ⟨m, by omega, by omega, by omega⟩
  exact key n (Nat.le_refl n) (by rw [h.top]; exact hb)
theorem at_iff (h : Dm n r d) {b j m : Nat} (hj : j < n) (h1 : d j = b) (h2 : d (j + 1) = b + 1) (hm : m ≤ n) : b + 1 ≤ d m ↔ j + 1 ≤ m := by
  constructor
  · intro e
    rcases Nat.lt_or_ge j m with h3 | h3
    · exact h3
    · have := (h.mono h3 (by omega)).1
      omega
  · intro e
    have := (h.mono e hm).1
    omega
end Dm

/-- the string of the places where the dimension grows -/
def DmT (n : Nat) (d : Nat → Nat) (t : List Int) : Prop := t.length = n ∧ ∀ j, j < n → t.getD j 0 = (d (j + 1) : Int) - (d j : Int)
section
variable {n r : Nat} {d : Nat → Nat} {t : List Int}
theorem DmT.str (hd : Dm n r d) (h : DmT n d t) (h1 : 1 ≤ n) (h7 : n ≤ 7) : strOk t = true := by
  obtain ⟨hl, ht⟩ := h
  unfold strOk
  refine decide_eq_true ⟨by omega, by omega, strOk_take fun k hk => ?_⟩
  rw [ht k (by omega)]
  have := hd.step k (by omega)
  omega
theorem DmT.zeros (hd : Dm n r d) (h : DmT n d t) : ∀ i, i ≤ n → ssZ t i + d i = i
  | 0, _ => by rw [ssZ, hd.zero]
  | i + 1, hi => by
    have ih := DmT.zeros hd h i (by omega)
    have e := h.2 i (by omega)
    rw [ssZ]
    rcases hd.step i (by omega) with s | s
    · rw [if_pos (by rw [e]; omega)]; omega
    · rw [if_neg (by rw [e]; omega)]; omega
theorem DmT.rows (hd : Dm n r d) (h : DmT n d t) : ∀ i, i ≤ n → (ssR t i).length = d i ∧ ∀ j, j < i → d (j + 1) = d j + 1 → (ssR t i).getD (d i - 1 - d j) 0 = (j : Int) - (d j : Int)
  | 0, _ => ⟨by rw [ssR, hd.zero]; rfl, fun j hj => absurd hj (Nat.not_lt_zero _)⟩
  | i + 1, hi => by
    obtain ⟨ih1, ih2⟩ := DmT.rows hd h i (by omega)
    have e := h.2 i (by omega)
    have z := DmT.zeros hd h i (by omega)
    rw [ssR]
    rcases hd.step i (by omega) with s | s
    · rw [if_pos (by rw [e]; omega), s]
      refine ⟨ih1, fun j hj hs => ?_⟩
      by_cases ej : j = i
      · subst ej; omega
      · exact ih2 j (by omega) hs
    · rw [if_neg (by rw [e]; omega), s]
      refine ⟨by rw [List.length_cons, ih1], fun j hj hs => ?_⟩
      by_cases ej : j = i
      · subst ej
        rw [show d j + 1 - 1 - d j = 0 by omega]
        show (ssZ t j : Int) = _
        omega
      · have h1 := (hd.mono (show j + 1 ≤ i by omega) (by omega)).1
        rw [show d i + 1 - 1 - d j = (d i - 1 - d j) + 1 by omega]
        exact ih2 j (by omega) hs
end

theorem getD_shL (xs : List Int) (a : Nat) : (shL xs).getD a 0 = xs.getD a 0 := by
  have key : ∀ n a, shN xs n ≤ a → a < n → xs.getD a 0 = 0 := by
    intro n
    induction n with
    | zero => intro a _ h; omega
    | succ n ih =>
      intro a h1 h2
      rw [shN] at h1
      split at h1
      · by_cases e : a = n
        · subst e; assumption
        · exact ih a h1 (by omega)
      · omega
  unfold shL
  by_cases h : a < shN xs xs.length
  · simp [List.getD_eq_getElem?_getD, List.getElem?_take, h]
  · have e1 : (xs.take (shN xs xs.length)).getD a 0 = 0 := by
      rw [List.getD_eq_getElem?_getD, List.getElem?_eq_none (by rw [List.length_take]; omega)]
      rfl
    rw [e1]
    by_cases h2 : a < xs.length
    · exact (key _ a (by omega) h2).symm
    · rw [List.getD_eq_getElem?_getD, List.getElem?_eq_none (by omega)]
      rfl
theorem shL_last (xs : List Int) (h : 0 < (shL xs).length) : ¬ xs.getD ((shL xs).length - 1) 0 = 0 := by
  have key : ∀ n, 0 < shN xs n → ¬ xs.getD (shN xs n - 1) 0 = 0 := by
    intro n
    induction n with
    | zero => intro h; rw [shN] at h; omega
    | succ n ih =>
      intro h
      rw [shN] at h ⊢
      split at h
      · rename_i e; rw [if_pos e]; exact ih h
      · rename_i e; rw [if_neg e]; exact e
  have e : (shL xs).length = shN xs xs.length := by
    unfold shL
    rw [List.length_take]
    have := shN_le xs xs.length
    omega
  rw [e] at h ⊢
  exact key _ h
theorem shL_length (xs : List Int) : (shL xs).length ≤ xs.length := by
  unfold shL
  rw [List.length_take]
  omega
/-- rows that do not grow, without the zeros at their end, are a shape -/
theorem shL_box {L : List Int} {r n : Nat} (hl : L.length = r) (hrn : r ≤ n) (h7 : n ≤ 7) (hb : ∀ a, a < r → 0 ≤ L.getD a 0 ∧ L.getD a 0 ≤ (n : Int) - (r : Int)) (hm : ∀ a, a + 1 < r → L.getD (a + 1) 0 ≤ L.getD a 0) : bxOk (shL L) r n = true := by
  have hlen := shL_length L
  have hmon : ∀ k a, a + k < r → L.getD (a + k) 0 ≤ L.getD a 0 := by
    intro k
    induction k with
    | zero => intro a _; exact Int.le_refl _
    | succ k ih =>
      intro a h
      have := ih a (by omega)
      have := hm (a + k) (by omega)
      rw [show a + (k + 1) = a + k + 1 by omega]
      omega
  have hpos : ∀ a, a < (shL L).length → 1 ≤ L.getD a 0 := by
    intro a ha
    have h1 := shL_last L (by omega)
    have h2 := hmon ((shL L).length - 1 - a) a (by omega)
    rw [show a + ((shL L).length - 1 - a) = (shL L).length - 1 by omega] at h2
    have h3 := (hb ((shL L).length - 1) (by omega)).1
    omega
  rw [bx_end (shOk_yes (by omega) fun j hj => ?_) (by omega)]
  · refine decide_eq_true ?_
    rw [getD_shL]
    by_cases e : 0 < r
    · exact (hb 0 e).2
    · rw [List.getD_eq_getElem?_getD, List.getElem?_eq_none (by omega)]
      show (0 : Int) ≤ _
      omega
  · unfold shAt
    rw [getD_shL, getD_shL]
    have h1 := hpos j hj
    have h2 := (hb j (by omega)).2
    refine ⟨h1, by omega, fun h0 => ?_⟩
    have := hm (j - 1) (by omega)
    rw [show j - 1 + 1 = j by omega] at this
    exact this

section
variable {n r : Nat} {d : Nat → Nat} {t : List Int}
theorem DmT.box (hd : Dm n r d) (h : DmT n d t) (h7 : n ≤ 7) : bxOk (shL (ssR t n)) r n = true := by
  obtain ⟨hl, hr⟩ := DmT.rows hd h n (Nat.le_refl n)
  rw [hd.top] at hl hr
  have rn := hd.rn
  have each : ∀ a, a < r → ∃ j, j < n ∧ d j = r - 1 - a ∧ d (j + 1) = r - 1 - a + 1 ∧ (ssR t n).getD a 0 = (j : Int) - (d j : Int) := fun a ha => by
    obtain ⟨j, h1, h2, h3⟩ := hd.at_ex (b := r - 1 - a) (by omega)
    have := hr j h1 (by omega)
    rw [show r - 1 - d j = a by omega] at this
    exact ⟨j, h1, h2, h3, this⟩
  refine shL_box hl rn h7 (fun a ha => ?_) (fun a ha => ?_)
  · obtain ⟨j, h1, h2, h3, h4⟩ := each a ha
    rw [h4]
    have a1 := hd.le (j := j) (by omega)
    have a2 := (hd.mono (i := j + 1) (j := n) (by omega) (Nat.le_refl _)).2
    rw [hd.top] at a2
    omega
  · obtain ⟨j, h1, h2, h3, h4⟩ := each a (by omega)
    obtain ⟨j', h1', h2', h3', h4'⟩ := each (a + 1) ha
    rw [h4, h4']
    have : j' < j := by
      rcases Nat.lt_or_ge j' j with e | e
      · exact e
      · have := (hd.mono e (by omega)).1
        omega
    have := (hd.mono (i := j') (j := j) (by omega) (by omega)).2
    omega
/-- the rows of the shape that it leaves of its box -/
theorem DmT.dual (hd : Dm n r d) (h : DmT n d t) {b : Nat} (hb : b < r) : ∃ j, j < n ∧ d j = b ∧ d (j + 1) = b + 1 ∧ (duR (shL (ssR t n)) r n).getD b 0 = (n : Int) - (r : Int) - ((j : Int) - (b : Int)) := by
  obtain ⟨hl, hr⟩ := DmT.rows hd h n (Nat.le_refl n)
  rw [hd.top] at hl hr
  obtain ⟨j, h1, h2, h3⟩ := hd.at_ex hb
  have := hr j h1 (by omega)
  rw [h2] at this
  exact ⟨j, h1, h2, h3, by rw [duR_getD hb, getD_shL, this]⟩
theorem DmT.dualBox (hd : Dm n r d) (h : DmT n d t) (h7 : n ≤ 7) : bxOk (shL (duR (shL (ssR t n)) r n)) r n = true := by
  have rn := hd.rn
  refine shL_box (duR_length _ _ _) rn h7 (fun a ha => ?_) (fun a ha => ?_)
  · obtain ⟨j, h1, h2, h3, h4⟩ := DmT.dual hd h ha
    rw [h4]
    have a1 := hd.le (j := j) (by omega)
    have a2 := (hd.mono (i := j + 1) (j := n) (by omega) (Nat.le_refl _)).2
    rw [hd.top] at a2
    omega
  · obtain ⟨j, h1, h2, h3, h4⟩ := DmT.dual hd h (b := a) (by omega)
    obtain ⟨j', h1', h2', h3', h4'⟩ := DmT.dual hd h ha
    rw [h4, h4']
    have : j < j' := by
      rcases Nat.lt_or_ge j j' with e | e
      · exact e
      · have := (hd.mono e (by omega)).1
        omega
    omega
/-- what a shape asks is met just if it lies in the shape of the position -/
theorem DmT.meets (hd : Dm n r d) (h : DmT n d t) (h7 : n ≤ 7) {xs : List Int} (hx : bxOk xs r n = true) :
    (∀ i, i < r → i + 1 ≤ d (mfJ xs r n i)) ↔ cnB (shL (duR (shL (ssR t n)) r n)) xs = true := by
  have rn := hd.rn
  have hxf := bx_facts hx rn
  have hdb := DmT.dualBox hd h h7
  have iff1 : ∀ i, i < r → (i + 1 ≤ d (mfJ xs r n i) ↔ xs.getD i 0 ≤ (shL (duR (shL (ssR t n)) r n)).getD i 0) := fun i hi => by
    obtain ⟨j, h1, h2, h3, h4⟩ := DmT.dual hd h hi
    have hf := hxf i hi
    rw [getD_shL, h4, hd.at_iff h1 h2 h3 (by unfold mfJ; omega)]
    unfold mfJ
    omega
  have sh : ∀ ys : List Int, bxOk ys r n = true → shOk ys = true ∧ ys.length ≤ r := fun ys hy => by
    unfold bxOk at hy
    simp only [Bool.and_eq_true, decide_eq_true_eq] at hy
    exact hy.1
  obtain ⟨s1, s2⟩ := sh _ hdb
  obtain ⟨s3, s4⟩ := sh _ hx
  constructor
  · intro hm
    have hle : ∀ i, i < r → xs.getD i 0 ≤ (shL (duR (shL (ssR t n)) r n)).getD i 0 := fun i hi => (iff1 i hi).1 (hm i hi)
    refine cnB_yes s1 s3 ?_ fun i hi => hle i (by omega)
    rcases Nat.lt_or_ge (shL (duR (shL (ssR t n)) r n)).length xs.length with e | e
    · exfalso
      have a := hle (shL (duR (shL (ssR t n)) r n)).length (by omega)
      rw [show (shL (duR (shL (ssR t n)) r n)).getD (shL (duR (shL (ssR t n)) r n)).length 0 = 0 by rw [List.getD_eq_getElem?_getD, List.getElem?_eq_none (Nat.le_refl _)]; rfl] at a
      have b := (shOk_facts s3).2 _ e
      have := b.1
      omega
    · exact e
  · intro hc i hi
    unfold cnB at hc
    simp only [Bool.and_eq_true, decide_eq_true_eq] at hc
    rw [iff1 i hi]
    by_cases e : i < xs.length
    · exact hc.2 i e
    · rw [show xs.getD i 0 = 0 by rw [List.getD_eq_getElem?_getD, List.getElem?_eq_none (by omega)]; rfl]
      exact (bx_facts hdb rn i hi).1
theorem box_nil {r n : Nat} (h : r ≤ n) : bxOk [] r n = true := by
  rw [bx_end (by decide) (Nat.zero_le _)]
  refine decide_eq_true ?_
  show (0 : Int) ≤ _
  omega
theorem cn_refl {xs : List Int} (h : shOk xs = true) : cnB xs xs = true := cnB_yes h h (Nat.le_refl _) fun _ _ => Int.le_refl _
theorem cn_nil {xs : List Int} (h : shOk xs = true) : cnB xs [] = true := cnB_yes h (by decide) (Nat.zero_le _) fun i hi => absurd hi (Nat.not_lt_zero _)
theorem box_sh {xs : List Int} (h : bxOk xs r n = true) : shOk xs = true := by
  unfold bxOk at h
  simp only [Bool.and_eq_true] at h
  exact h.1.1
end

/-- the dimensions that a space and a flag have in common -/
theorem sf_dm {P : Int} {r n : Nat} {DA DB : List Int} (h : SfIs P r n DA P n n DB) :
    ∃ d, Dm n r d ∧ ∀ j, j ≤ n → CmIs P n (mf n fun t => DA.getD t 0) r (mf n fun t => DB.getD t 0) j (d j : Int) := by
  obtain ⟨hA, hB, -, -⟩ := h
  obtain ⟨r', c', e1, e2, _, _, _, _, hDA, hP2, hP7, hpr, hrA⟩ := hA.facts
  obtain rfl := Int.ofNat.inj e1
  obtain rfl := Int.ofNat.inj e2
  obtain ⟨n', e3, _, _, _, _, hDB, _, _, _, hrB⟩ := hB.facts
  obtain rfl := Int.ofNat.inj e3
  have ra := mf_rng (C := n) fun t => getD_range hDA (show 0 < P by omega) t
  have rb := mf_rng (C := n) fun t => getD_range hDB (show 0 < P by omega) t
  obtain ⟨f, f0, f1, f2⟩ := ranks_ex (M := stackM r (mf n fun t => DA.getD t 0) (mf n fun t => DB.getD t 0)) hpr (r + n) (stackM_rng (fun t c _ hc => ra t c hc) (fun t c _ hc => rb t c hc))
  have fr : f r = r := by
    refine (f1 r (by omega)).one hP2 (hrA.congr fun i j hi hj => ?_)
    rw [stackM_lt hi]
  have fn : f (r + n) = n := by
    have a := HasRank.stackB hpr ra rb hrB r _ (f1 (r + n) (Nat.le_refl _))
    have b := (f1 (r + n) (Nat.le_refl _)).leC
    omega
  have lo : ∀ j, j ≤ n → f (r + j) ≤ r + j := fun j hj => by
    have := steps_le f2 (r + j) 0 (by omega)
    rw [Nat.zero_add, f0] at this
    omega
  refine ⟨fun j => r + j - f (r + j), ⟨by show r + 0 - f (r + 0) = 0; rw [Nat.add_zero, fr]; omega, by show r + n - f (r + n) = r; rw [fn]; omega, fun j hj => ?_⟩, fun j hj => ⟨f (r + j), f1 _ (by omega), ?_⟩⟩
  · show r + (j + 1) - f (r + (j + 1)) = r + j - f (r + j) ∨ _ = r + j - f (r + j) + 1
    have a := lo j (by omega)
    have b := lo (j + 1) (by omega)
    have c := f2 (r + j) (by omega)
    rw [show r + (j + 1) = r + j + 1 by omega] at b ⊢
    omega
  · have := lo j hj
    show ((r + j - f (r + j) : Nat) : Int) = _
    omega

/-- what the law of conditions says, on lists -/
structure CondL (P : Int) (r n : Nat) (DA DB t : List Int) : Prop where
  len : t.length = n
  str : strOk t = true
  rows : (ssR t t.length).length = r
  rn : r ≤ n
  box : bxOk (shL (ssR t t.length)) r n = true
  dbox : bxOk (shL (duR (shL (ssR t t.length)) r n)) r n = true
  met : ∀ xs b, bxOk xs r n = true → MfIs P r n DA P n n DB xs b → b = cnB (shL (duR (shL (ssR t t.length)) r n)) xs
theorem condL {P : Int} {r n : Nat} {DA DB t : List Int} (h : SfIs P r n DA P n n DB) (hp : PoIs P r n DA P n n DB t) : CondL P r n DA DB t := by
  obtain ⟨d, hd, hc⟩ := sf_dm h
  rcases hp with ⟨_, hl, hu⟩ | ⟨no, _⟩
  case inr => exact absurd h no
  simp only [Int.toNat_natCast] at hl hu
  obtain ⟨r', c', e1, e2, _, h1, h7, _, hDA, hP2, hP7, hpr, hrA⟩ := h.1.facts
  obtain rfl := Int.ofNat.inj e1
  obtain rfl := Int.ofNat.inj e2
  have hT : DmT n d t := ⟨hl, fun j hj => by
    obtain ⟨a, b, k1, k2, k3⟩ := hu j (by omega)
    rw [k3, k1.one hP2 (hc (j + 1) (by omega)), k2.one hP2 (hc j (by omega))]⟩
  have met0 : ∀ xs, MfUp P r n (mf n fun t => DA.getD t 0) (mf n fun t => DB.getD t 0) xs r ↔ ∀ i, i < r → i + 1 ≤ d (mfJ xs r n i) := fun xs => by
    have rn := hd.rn
    constructor
    · intro hm i hi
      have := hm i hi _ (hc (mfJ xs r n i) (by unfold mfJ; omega))
      omega
    · intro hm i hi m hmm
      have := hm i hi
      rw [hmm.one hP2 (hc (mfJ xs r n i) (by unfold mfJ; omega))]
      omega
  refine ⟨hl, DmT.str hd hT h1 h7, by rw [hl, (DmT.rows hd hT n (Nat.le_refl n)).1, hd.top], hd.rn, by rw [hl]; exact DmT.box hd hT h7, by rw [hl]; exact DmT.dualBox hd hT h7, fun xs b hx hb => ?_⟩
  rw [hl]
  have e := DmT.meets hd hT h7 hx
  rw [← met0] at e
  have : b = true ↔ cnB (shL (duR (shL (ssR t n)) r n)) xs = true := by
    unfold MfIs at hb
    simp only [Int.toNat_natCast] at hb
    rw [hb, ← e]
    exact ⟨fun h => h.2.2, fun h2 => ⟨h, hx, h2⟩⟩
  cases b <;> cases h9 : cnB (shL (duR (shL (ssR t n)) r n)) xs <;> simp_all

/-! ### contracts -/
theorem sos1 {P : Int} {r n : Nat} {DA DB t : List Int} (h : CondL P r n DA DB t) (v : Value) (w : World) (hi : Ints w v t) :
    Calls Try.prog 27 #[v] w fun e w' =>
      ∃ (p : Option Addr) (k : Nat) (X : List Int), e = .returned (.tuple #[.slice p X.length k, .int .i64 (r : Int), .bool true]) ∧ Ints w' (.slice p X.length k) X ∧ Below w.heap.size w w' ∧ X = shL (ssR t t.length) := by
  refine (ShapeOfString_any v t w hi h.str).mono ?_
  rintro e w' ⟨u, h1, h2, h3⟩
  have h2' := h2
  obtain ⟨p, k, rfl, _, _⟩ := h2
  rw [h.rows] at h1
  exact ⟨p, k, _, h1, h2', h3, rfl⟩
theorem dual1 {P : Int} {r n : Nat} {DA DB t : List Int} (h : CondL P r n DA DB t) (h1 : 1 ≤ n) (h7 : n ≤ 7) (v : Value) (X : List Int) (hX : X = shL (ssR t t.length)) (w : World) (hi : Ints w v X) :
    Calls Try.prog 28 #[v, .int .i64 (r : Int), .int .i64 (n : Int)] w fun e w' =>
      ∃ (p : Option Addr) (k : Nat) (Y : List Int), e = .returned (.slice p Y.length k) ∧ Ints w' (.slice p Y.length k) Y ∧ Below w.heap.size w w' ∧ Y = shL (duR (shL (ssR t t.length)) r n) := by
  subst hX
  refine (DualShape_any v _ r n w hi h.box h.rn h1 h7 (bx_facts h.box h.rn)).mono ?_
  rintro e w' ⟨u, h1, h2, h3⟩
  have h2' := h2
  obtain ⟨p, k, rfl, _, _⟩ := h2
  exact ⟨p, k, _, h1, h2', h3, rfl⟩
theorem cns1 (u v : Value) (a b : List Int) (c : Bool) (hc : cnB a b = c) (w : World) (ha : Ints w u a) (hb : Ints w v b) :
    Calls Try.prog 30 #[u, v] w fun e w' => e = .returned (.bool c) ∧ Below w.heap.size w w' := by
  subst hc
  exact (ContainsShape_any u v a b w ha hb).mono fun e w' ⟨h1, h2⟩ => ⟨h1, h2.below _⟩
theorem ints_none (w : World) (p : Option Addr) (k : Nat) (hk : k ≤ maxLen) : Ints w (.slice p 0 k) [] := ⟨p, k, rfl, ⟨Nat.zero_le _, hk⟩, fun h => absurd h (Nat.lt_irrefl _)⟩
theorem pos1 (P : Int) (r n : Nat) (dA dB : Value) (DA DB : List Int) (hs : SfIs P r n DA P n n DB) (w : World) (hdA : Ints w dA DA) (hdB : Ints w dB DB) :
    Calls Try.prog 26 #[.agg #[.int .i64 P, .int .i64 (r : Int), .int .i64 (n : Int), dA], .agg #[.int .i64 P, .int .i64 (n : Int), .int .i64 (n : Int), dB]] w fun e w' =>
      ∃ (p : Option Addr) (k : Nat) (l : List Int), e = .returned (.slice p n k) ∧ Ints w' (.slice p n k) l ∧ Below w.heap.size w w' ∧ CondL P r n DA DB l := by
  refine (implPos_ex P r n P n n dA dB DA DB w hdA hdB).mono ?_
  rintro e w' ⟨l, h4, ⟨u, h1, h2, h3⟩⟩
  have hc := condL hs h4
  obtain ⟨p, k, rfl, _, _⟩ := h2.shape
  have hi := h2.ints
  rw [hc.len] at h1 hi
  exact ⟨p, k, _, h1, hi, h3, hc⟩
theorem mf1 (P : Int) (r n : Nat) (dA dB dS : Value) (DA DB DS : List Int) (b : Bool) (hb : ∀ b', MfIs P r n DA P n n DB DS b' → b' = b) (w : World) (hdA : Ints w dA DA) (hdB : Ints w dB DB) (hdS : Ints w dS DS) :
    Calls Try.prog 29 #[.agg #[.int .i64 P, .int .i64 (r : Int), .int .i64 (n : Int), dA], .agg #[.int .i64 P, .int .i64 (n : Int), .int .i64 (n : Int), dB], dS] w fun e w' => e = .returned (.bool b) ∧ Below w.heap.size w w' := by
  refine (implMf_ex P r n P n n dA dB dS DA DB DS w hdA hdB hdS).mono ?_
  rintro e w' ⟨b', h1, h2, h3⟩
  obtain rfl := hb b' h2
  exact ⟨h1, h3⟩

end Go.Proofs.Ytoodgbflaaabmaa

namespace Go.Proofs.Ytoodgbflaaabmaa
set_option linter.all false
open Go.RowKit

def addMul (p : Int) (c : Int) : List Int → List Int → List Int
  | a :: xs, b :: ys => ((a + c * b) % p) :: addMul p c xs ys
  | xs, _ => xs
def pivI : List Int → Nat
  | [] => 0
  | a :: xs => if a = 0 then pivI xs + 1 else 0
def invI (p x : Int) : Nat → Int
  | 0 => 0
  | n + 1 => if (n : Int) * x % p = 1 then n else invI p x n
structure ElT where
  m : List Int
  u : List Int
  q : Nat
def insT (t : ElT) : List ElT → List ElT
  | [] => [t]
  | s :: l => if t.q < s.q then t :: s :: l else s :: insT t l
def elRow (p : Int) (st : List ElT) (r u : List Int) : List ElT :=
  let ru := st.foldl (fun (x : List Int × List Int) (t : ElT) => let c := p - x.1.getD t.q 0; (addMul p c x.1 t.m, addMul p c x.2 t.u)) (r, u)
  if ru.1.all (fun x => decide (x = 0)) then st else
  let q := pivI ru.1
  let k := invI p (ru.1.getD q 0) p.toNat
  let r1 := ru.1.map fun x => k * x % p
  let u1 := ru.2.map fun x => k * x % p
  insT ⟨r1, u1, q⟩ (st.map fun t => let c := p - t.m.getD q 0; ⟨addMul p c t.m r1, addMul p c t.u u1, t.q⟩)
def elGo (p : Int) (R : Nat) : Nat → List (List Int) → List ElT → List ElT
  | _, [], st => st
  | i, r :: A, st => elGo p R (i + 1) A (elRow p st r ((List.range R).map fun j => if j = i then 1 else 0))
def elimC (p : Int) (A : List (List Int)) : List ElT := elGo p A.length 0 A []

def dotN (n : Nat) (f : Nat → Int) : Int := match n with | 0 => 0 | n + 1 => dotN n f + f n
theorem dotN_sm (n : Nat) (f : Nat → Int) : dotN n f = sm n f := by
  induction n with
  | zero => rfl
  | succ n ih => rw [dotN, sm, ih]
def ecM (st : List ElT) (t j : Nat) : Int := ((st.getD t ⟨[], [], 0⟩).m).getD j 0
def ecU (st : List ElT) (t j : Nat) : Int := ((st.getD t ⟨[], [], 0⟩).u).getD j 0
def ecQ (st : List ElT) (t : Nat) : Nat := (st.getD t ⟨[], [], 0⟩).q
def rkChk (p : Int) (C : Nat) (A : List (List Int)) (st : List ElT) : Bool :=
  (List.range st.length).all (fun t => decide (ecQ st t < C) && (List.range st.length).all (fun s => decide (ecM st t (ecQ st s) = if t = s then 1 else 0) && (decide (¬ t < s) || decide (ecQ st t < ecQ st s))) &&
    (List.range (ecQ st t)).all (fun j => decide (ecM st t j = 0)) &&
    (List.range C).all (fun j => decide (0 ≤ ecM st t j) && decide (ecM st t j < p) && decide ((ecM st t j - dotN A.length fun i => ecU st t i * (A.getD i []).getD j 0) % p = 0))) &&
  (List.range A.length).all (fun i => (List.range C).all fun j => decide (((A.getD i []).getD j 0 - dotN st.length fun t => (A.getD i []).getD (ecQ st t) 0 * ecM st t j) % p = 0))
theorem rk_of {p : Int} {C : Nat} {A : List (List Int)} {st : List ElT} (h : rkChk p C A st = true) : HasRank p C A.length (fun i j => (A.getD i []).getD j 0) st.length := by
  unfold rkChk at h
  simp only [Bool.and_eq_true, decide_eq_true_eq, List.all_eq_true, List.mem_range, Bool.or_eq_true] at h
  obtain ⟨h1, h2⟩ := h
  refine ⟨ecM st, ecQ st, ⟨fun i hi => (h1 i hi).1.1.1, fun i k hi hk => ((h1 i hi).1.1.2 k hk).1, fun i j hi hj => (h1 i hi).1.2 j hj⟩, fun i k hik hk => ?_, fun i j hi hj => ⟨((h1 i hi).2 j hj).1.1, ((h1 i hi).2 j hj).1.2⟩, ⟨fun i hi => ?_, fun t ht => ?_⟩⟩
  · rcases ((h1 i (by omega)).1.1.2 k hk).2 with e | e
    · exact absurd hik e
    · exact e
  · refine Sp.of_coef (fun t => (A.getD i []).getD (ecQ st t) 0) fun j hj => ?_
    rw [← dotN_sm]
    exact Int.dvd_of_emod_eq_zero (h2 i hi j hj)
  · refine Sp.of_coef (fun i => ecU st t i) fun j hj => ?_
    rw [← dotN_sm]
    exact Int.dvd_of_emod_eq_zero ((h1 t ht).2 j hj).2

/-- the rows of a space, and j rows of a flag of units behind them: from the first on, or from the last on -/
def epsR (n : Nat) (b : Bool) (i : Nat) : Nat := if b then n - 1 - i else i
def epsM (n : Nat) (b : Bool) (i j : Nat) : Int := if j = epsR n b i then 1 else 0
def stkL (k n : Nat) (D : List Int) (b : Bool) (j : Nat) : List (List Int) := (List.range k).map (fun i => (List.range n).map fun c => D.getD (i * n + c) 0) ++ (List.range j).map fun i => (List.range n).map fun c => epsM n b i c
theorem stkL_length (k n : Nat) (D : List Int) (b : Bool) (j : Nat) : (stkL k n D b j).length = k + j := by simp [stkL]
theorem getDD_left {X Y : List (List Int)} {i : Nat} (h : i < X.length) : (X ++ Y).getD i [] = X.getD i [] := by
  simp [List.getD_eq_getElem?_getD, List.getElem?_append_left h]
theorem getDD_right {X Y : List (List Int)} {i : Nat} (h : X.length ≤ i) : (X ++ Y).getD i [] = Y.getD (i - X.length) [] := by
  simp [List.getD_eq_getElem?_getD, List.getElem?_append_right h]
theorem getDD_map {k i n c : Nat} {f : Nat → Nat → Int} (h : i < k) (hc : c < n) : (((List.range k).map fun i => (List.range n).map fun c => f i c).getD i []).getD c 0 = f i c := by
  simp [List.getD_eq_getElem?_getD, h, hc]
theorem stkL_at {k n j i c : Nat} {D : List Int} {b : Bool} (hi : i < k + j) (hc : c < n) : ((stkL k n D b j).getD i []).getD c 0 = stackM k (mf n fun t => D.getD t 0) (epsM n b) i c := by
  unfold stkL stackM
  by_cases h : i < k
  · rw [if_pos h, getDD_left (by simpa using h), getDD_map h hc]
    rfl
  · rw [if_neg h, getDD_right (by simpa using h)]
    have e : (List.map (fun i => List.map (fun c => D.getD (i * n + c) 0) (List.range n)) (List.range k)).length = k := by simp
    rw [e, getDD_map (by omega) hc]
def rkD (p k n : Nat) (D : List Int) (b : Bool) (j : Nat) : Nat := (elimC p (stkL k n D b j)).length
def cmChk (p k n : Nat) (D : List Int) : Bool := [false, true].all fun b => (List.range (n + 1)).all fun j => rkChk p n (stkL k n D b j) (elimC p (stkL k n D b j))
theorem cm_of {p k n : Nat} {D : List Int} (h : cmChk p k n D = true) (b : Bool) {j : Nat} (hj : j ≤ n) : CmIs p n (mf n fun t => D.getD t 0) k (epsM n b) j ((k : Int) + (j : Int) - (rkD p k n D b j : Int)) := by
  unfold cmChk at h
  simp only [List.all_eq_true, List.mem_range] at h
  have := rk_of (h b (by cases b <;> simp) j (by omega))
  rw [stkL_length] at this
  exact ⟨_, this.congr fun i c hi hc => (stkL_at hi hc).symm, rfl⟩
/-- whether a shape is met -/
def meB (p k n : Nat) (D : List Int) (b : Bool) (a : List Int) : Bool := (List.range k).all fun i => decide ((i : Int) + 1 ≤ (k : Int) + ((mfJ a k n i : Nat) : Int) - (rkD p k n D b (mfJ a k n i) : Int))
theorem me_iff {p k n : Nat} {D a : List Int} (hp : 2 ≤ (p : Int)) (hkn : k ≤ n) (h : cmChk p k n D = true) (b : Bool) : MfUp p k n (mf n fun t => D.getD t 0) (epsM n b) a k ↔ meB p k n D b a = true := by
  unfold meB MfUp
  simp only [List.all_eq_true, List.mem_range, decide_eq_true_eq]
  constructor
  · intro hm i hi
    exact hm i hi _ (cm_of h b (by unfold mfJ; omega))
  · intro hm i hi m hmm
    rw [hmm.one hp (cm_of h b (by unfold mfJ; omega))]
    exact hm i hi

/-- all spaces of a box -/
def spsL (p k m : Nat) (l : List Int) : List (List Int) := (spMs p (gsL l k (k + m))).1.map Mx.D
def allS (p k m : Nat) : List (List Int) := (shs k m []).flatMap (spsL p k m)
def allL (p : Nat) : Nat → List (List Int)
  | 0 => [[]]
  | n + 1 => (allL p n).flatMap fun l => (List.range p).map fun (x : Nat) => (x : Int) :: l
theorem mem_allL {p : Nat} : ∀ {n : Nat} {D : List Int}, D.length = n → (∀ x ∈ D, 0 ≤ x ∧ x < (p : Int)) → D ∈ allL p n
  | 0, D, hl, _ => by rw [List.eq_nil_of_length_eq_zero hl]; simp [allL]
  | n + 1, x :: D, hl, h => by
    rw [allL, List.mem_flatMap]
    have hx := h x (by simp)
    refine ⟨D, mem_allL (by simpa using hl) (fun y hy => h y (by simp [hy])), List.mem_map.2 ⟨x.toNat, List.mem_range.2 (by omega), by rw [Int.toNat_of_nonneg hx.1]⟩⟩
/-- a reduced form, by looking -/
def redB (k n : Nat) (D : List Int) : Bool :=
  let q := fun (i : Nat) => pivI ((List.range n).map fun c => D.getD (i * n + c) 0)
  (List.range k).all fun i => decide (q i < n) && (List.range k).all fun t => decide (D.getD (i * n + q t) 0 = if i = t then 1 else 0) && (decide (¬ i < t) || decide (q i < q t))
theorem pivI_at : ∀ {l : List Int} {k : Nat}, k < l.length → (∀ j, j < k → l.getD j 0 = 0) → ¬ l.getD k 0 = 0 → pivI l = k
  | a :: xs, 0, _, _, h => by
    rw [pivI, if_neg (by simpa using h)]
  | a :: xs, k + 1, hk, h0, h => by
    have := h0 0 (by omega)
    rw [pivI, if_pos (by simpa using this)]
    rw [pivI_at (k := k) (by simpa using hk) (fun j hj => by have := h0 (j + 1) (by omega); simpa using this) (by simpa using h)]
theorem redB_of {P : Int} {k n : Nat} {D : List Int} {q : Nat → Nat} (h : IsRed P n k (mf n fun t => D.getD t 0) k (mf n fun t => D.getD t 0) q) : redB k n D = true := by
  have hq : ∀ i, i < k → pivI ((List.range n).map fun c => D.getD (i * n + c) 0) = q i := fun i hi => by
    have hl := h.1.lt i hi
    refine pivI_at (by simpa using hl) (fun j hj => ?_) ?_
    · have := h.1.lead i j hi hj
      have hj : j < n := by omega
      simpa [List.getD_eq_getElem?_getD, hj, mf] using this
    · have := h.1.unit i i hi hi
      rw [if_pos rfl] at this
      have h9 : D.getD (i * n + q i) 0 = 1 := this
      simp only [List.getD_eq_getElem?_getD, List.getElem?_map, List.getElem?_range hl, Option.map_some, Option.getD_some]
      rw [← List.getD_eq_getElem?_getD, h9]
      decide
  unfold redB
  simp only [List.all_eq_true, List.mem_range, Bool.and_eq_true, decide_eq_true_eq, Bool.or_eq_true]
  intro i hi
  rw [hq i hi]
  refine ⟨h.1.lt i hi, fun t ht => ?_⟩
  rw [hq t ht]
  refine ⟨h.1.unit i t hi ht, ?_⟩
  by_cases e : i < t
  · exact .inr (h.2.1 i t e ht)
  · exact .inl e
/-- all that is reckoned of one box -/
def wantS (p k m : Nat) (a : List Int) : Nat := ((shs k m []).map fun l => if cnB l a then p ^ ((k : Int) * (m : Int) - sumI l).toNat else 0).sum
def ccB1 (p k m : Nat) : Bool :=
  decide ((allS p k m).Nodup) && (allL p (k * (k + m))).all (fun D => !redB k (k + m) D || decide (D ∈ allS p k m)) && (allS p k m).all (fun D => redB k (k + m) D && decide (D.length = k * (k + m)) && cmChk p k (k + m) D)
def ccB2 (p k m : Nat) : Bool :=
  (shs k m []).all fun a => decide ((allS p k m).countP (fun D => meB p k (k + m) D false a) = wantS p k m a) && decide (0 < wantS p k m a) &&
    (shs k m []).all fun b => decide ((allS p k m).any (fun D => meB p k (k + m) D false a && meB p k (k + m) D true b) = cnB (shL (duR b k (k + m))) a)
set_option maxRecDepth 100000 in
theorem cc1_all : (ccB1 2 1 1 = true ∧ ccB1 3 1 1 = true) ∧ (ccB1 2 1 2 = true ∧ ccB1 3 1 2 = true) ∧ (ccB1 2 2 1 = true ∧ ccB1 3 2 1 = true) := by decide +kernel

end Go.Proofs.Ytoodgbflaaabmaa

namespace Go.Proofs.Ytoodgbflaaabmaa
set_option linter.all false
open Go.RowKit

set_option maxRecDepth 100000 in
theorem cc1_13 : ccB1 2 1 3 = true := by decide +kernel
set_option maxRecDepth 100000 in
theorem cc1_22 : ccB1 2 2 2 = true := by decide +kernel
set_option maxRecDepth 100000 in
theorem cc1_31 : ccB1 2 3 1 = true := by decide +kernel

end Go.Proofs.Ytoodgbflaaabmaa

namespace Go.Proofs.Ytoodgbflaaabmaa
set_option linter.all false
open Go.RowKit

set_option maxRecDepth 100000 in
theorem cc2_small : (ccB2 2 1 1 = true ∧ ccB2 3 1 1 = true) ∧ (ccB2 2 1 2 = true ∧ ccB2 3 1 2 = true) ∧ (ccB2 2 2 1 = true ∧ ccB2 3 2 1 = true) := by decide +kernel
set_option maxRecDepth 100000 in
theorem cc2_13 : ccB2 2 1 3 = true := by decide +kernel
set_option maxRecDepth 100000 in
theorem cc2_22 : ccB2 2 2 2 = true := by decide +kernel
set_option maxRecDepth 100000 in
theorem cc2_31 : ccB2 2 3 1 = true := by decide +kernel

end Go.Proofs.Ytoodgbflaaabmaa

namespace Go.Proofs.Ytoodgbflaaabmaa
set_option linter.all false
open Go.RowKit

theorem sm_unit (n r : Nat) (f : Nat → Int) (hr : r < n) : sm n (fun t => (if t = r then 1 else 0) * f t) = f r := by
  have := sm_one n r hr 1 f
  rw [Int.one_mul] at this
  rw [← this]
  refine sm_congr fun t _ => ?_
  by_cases e : t = r
  · subst e; simp
  · rw [if_neg e, if_neg (fun h => e h.symm)]; simp
theorem epsR_lt {n i : Nat} {b : Bool} (h : i < n) : epsR n b i < n := by unfold epsR; split <;> omega
theorem epsR_inj {n i j : Nat} {b : Bool} (hi : i < n) (hj : j < n) (h : epsR n b i = epsR n b j) : i = j := by unfold epsR at h; split at h <;> omega
theorem eps_indep (P : Int) (n : Nat) (b : Bool) : Indep P n n (epsM n b) := indep_perm (q := epsR n b) (fun i hi => epsR_lt hi) fun i k hi hk => by
  unfold epsM
  by_cases e : i = k
  · subst e; simp
  · rw [if_neg e, if_neg fun h => e (epsR_inj hi hk h.symm)]
theorem pr_eps {n i : Nat} {b : Bool} {G : Nat → Nat → Int} (hi : i < n) (c : Nat) : pr n (epsM n b) G i c = G (epsR n b i) c := by
  unfold pr epsM
  exact sm_unit n _ (fun t => G t c) (epsR_lt hi)
/-- a flag's rows: those of G, from the first on or from the last on -/
def TurnOf (n : Nat) (b : Bool) (G F : Nat → Nat → Int) : Prop := ∀ i c, i < n → c < n → F i c = G (epsR n b i) c

section
variable {p k n : Nat} {G : Nat → Nat → Int}
/-- the reduced form of a space that was moved by G -/
def Rel (p k n : Nat) (G : Nat → Nat → Int) (D D' : List Int) : Prop := IsSp p k n D' ∧ SameSp p n k (mf n fun t => D'.getD t 0) k (pr n (mf n fun t => D.getD t 0) G)
theorem rel_ex (hp : primeOk (p : Int) = true) (hG : Indep p n n G) (h1 : 1 ≤ n) (h7 : n ≤ 7) {D : List Int} (h : IsSp p k n D) : ∃ D', Rel p k n G D D' := by
  obtain ⟨r', c', e1, e2, _, _, _, _, _, _, _, _, hk⟩ := h.facts
  obtain rfl := Int.ofNat.inj e1
  obtain rfl := Int.ofNat.inj e2
  obtain ⟨M, q, hr⟩ := hk.mul hp hG
  refine ⟨_, hr.isSp hp h1 h7, ?_⟩
  have e0 : SameSp (p : Int) n k (mf n fun t => (flatM k n M).getD t 0) k M := SameSp.of_eqv fun i hi => .of_eq fun j hj => mf_flatM hi hj
  have e3 : SameSp (p : Int) n k (fun i j => pr n (mf n fun t => D.getD t 0) G i j % (p : Int)) k (pr n (mf n fun t => D.getD t 0) G) := SameSp.of_eqv fun i _ => fun j _ => emod_dvd _ _
  exact e0.trans (hr.2.2.2.symm.trans e3)
/-- what a matrix with an inverse takes into the span was in it -/
theorem Sp.unmul (hG : Indep (p : Int) n n G) {V : Nat → Nat → Int} {v : Nat → Int} (h : Sp (p : Int) n k (pr n V G) (fun c => sm n fun t => v t * G t c)) : Sp (p : Int) n k V v := by
  obtain ⟨c, hc⟩ := h.coef
  refine Sp.of_coef c fun j hj => ?_
  refine hG (fun t => v t - sm k fun i => c i * V i t) (fun j hj => ?_) j hj
  have := hc j hj
  have e : (sm n fun t => (v t - sm k fun i => c i * V i t) * G t j) = (sm n fun t => v t * G t j) - sm k fun i => c i * pr n V G i j := by
    rw [pr_comb, sm_sub]
    exact sm_congr fun t _ => by rw [Int.sub_mul]
  rw [e]
  exact this
theorem rel_inj (hp : primeOk (p : Int) = true) (hG : Indep (p : Int) n n G) {D1 D2 D' : List Int} (h1 : IsSp p k n D1) (h2 : IsSp p k n D2) (r1 : Rel p k n G D1 D') (r2 : Rel p k n G D2 D') : D1 = D2 := by
  obtain ⟨q1, a1, b1⟩ := h1.red
  obtain ⟨q2, a2, b2⟩ := h2.red
  have hs := r1.2.symm.trans r2.2
  have hV : SameSp (p : Int) n k (mf n fun t => D1.getD t 0) k (mf n fun t => D2.getD t 0) := ⟨fun i hi => Sp.unmul hG (hs.1 i hi), fun i hi => Sp.unmul hG (hs.2 i hi)⟩
  have hP := (primeOk_range hp).1
  obtain ⟨_, _, e⟩ := a1.one hP (a2.from' hV)
  rw [b1, b2]
  exact flatM_congr e
/-- stacks that span the same -/
theorem stack_congr {P : Int} {C k j : Nat} {A A' B B' : Nat → Nat → Int} (ha : SameSp P C k A' k A) (hb : ∀ i, i < j → Eqv P C (B' i) (B i)) : SameSp P C (k + j) (stackM k A' B') (k + j) (stackM k A B) := by
  have up : ∀ (X Y : Nat → Nat → Int) (v : Nat → Int), Sp P C k X v → Sp P C (k + j) (stackM k X Y) v := fun X Y v h =>
    h.trans fun i hi => by
      have := Sp.row (p := P) (C := C) (n := k + j) (M := stackM k X Y) (i := i) (by omega)
      rwa [stackM_lt hi] at this
  refine ⟨fun i hi => ?_, fun i hi => ?_⟩
  · by_cases h : i < k
    · rw [stackM_lt h]; exact up _ _ _ (ha.1 i h)
    · rw [stackM_ge h]
      have := Sp.row (p := P) (C := C) (n := k + j) (M := stackM k A B) (i := i) hi
      rw [stackM_ge h] at this
      exact this.eqv (hb (i - k) (by omega)).symm
  · by_cases h : i < k
    · rw [stackM_lt h]; exact up _ _ _ (ha.2 i h)
    · rw [stackM_ge h]
      have := Sp.row (p := P) (C := C) (n := k + j) (M := stackM k A' B') (i := i) hi
      rw [stackM_ge h] at this
      exact this.eqv (hb (i - k) (by omega))
/-- dimensions in common are moved with both -/
theorem rel_cm (hp : primeOk (p : Int) = true) (hG : Indep (p : Int) n n G) {D D' : List Int} {b : Bool} {F : Nat → Nat → Int} (hF : TurnOf n b G F) (r : Rel p k n G D D') {j : Nat} (hj : j ≤ n) {m : Int}
    (h : CmIs p n (mf n fun t => D.getD t 0) k (epsM n b) j m) : CmIs p n (mf n fun t => D'.getD t 0) k F j m := by
  obtain ⟨t, ht, rfl⟩ := h
  refine ⟨t, ?_, rfl⟩
  have h2 := ht.mul hp hG
  have e1 : SameSp (p : Int) n (k + j) (fun i c => pr n (stackM k (mf n fun t => D.getD t 0) (epsM n b)) G i c % (p : Int)) (k + j) (stackM k (pr n (mf n fun t => D.getD t 0) G) (pr n (epsM n b) G)) := SameSp.of_eqv fun i hi => fun c _ => by
    have a := emod_dvd (p : Int) (pr n (stackM k (mf n fun t => D.getD t 0) (epsM n b)) G i c)
    have e : stackM k (pr n (mf n fun t => D.getD t 0) G) (pr n (epsM n b) G) i c = pr n (stackM k (mf n fun t => D.getD t 0) (epsM n b)) G i c := by
      by_cases hik : i < k
      · rw [stackM_lt hik]; unfold pr; rw [stackM_lt hik]
      · rw [stackM_ge hik]; unfold pr; rw [stackM_ge hik]
    rw [e]; exact a
  refine h2.same ((stack_congr r.2 fun i hi => ?_).trans e1.symm)
  exact .of_eq fun c hc => by rw [hF i c (by omega) hc, pr_eps (by omega)]
theorem rel_met (hp : primeOk (p : Int) = true) (hkn : k ≤ n) (hG : Indep (p : Int) n n G) {D D' a : List Int} {b : Bool} {F : Nat → Nat → Int} (hF : TurnOf n b G F) (r : Rel p k n G D D') (hc : cmChk p k n D = true) :
    MfUp p k n (mf n fun t => D'.getD t 0) F a k ↔ meB p k n D b a = true := by
  have hP := (primeOk_range hp).1
  rw [← me_iff hP hkn hc b]
  constructor
  · intro h i hi m hm
    exact h i hi m (rel_cm hp hG hF r (by unfold mfJ; omega) hm)
  · intro h i hi m hm
    have h0 := cm_of hc b (j := mfJ a k n i) (by unfold mfJ; omega)
    rw [hm.one hP (rel_cm hp hG hF r (by unfold mfJ; omega) h0)]
    exact h i hi _ h0
end

theorem nodup_len {α : Type} [DecidableEq α] : ∀ (l' l : List α), l'.Nodup → (∀ x ∈ l', x ∈ l) → l'.length ≤ l.length
  | [], _, _, _ => Nat.zero_le _
  | x :: t, l, hn, hs => by
    have hx := hs x (by simp)
    obtain ⟨hx2, ht⟩ := List.nodup_cons.1 hn
    have := nodup_len t (l.erase x) ht fun y hy => (List.mem_erase_of_ne (fun e => hx2 (by rw [← e]; exact hy))).2 (hs y (by simp [hy]))
    rw [List.length_erase_of_mem hx] at this
    have := List.length_pos_of_mem hx
    rw [List.length_cons]
    omega
/-- a list is counted alike behind a map that keeps it -/
theorem count_moved {α : Type} [DecidableEq α] {l : List α} (hn : l.Nodup) (f : α → α) (hm : ∀ x ∈ l, f x ∈ l) (hi : ∀ x ∈ l, ∀ y ∈ l, f x = f y → x = y) (Q Q' : α → Bool) (h : ∀ x ∈ l, Q' (f x) = Q x) : l.countP Q' = l.countP Q := by
  have hn' : (l.map f).Nodup := by
    rw [List.nodup_iff_pairwise_ne, List.pairwise_map]
    refine List.Pairwise.imp_of_mem ?_ hn
    intro a b ha hb hab e
    exact hab (hi a ha b hb e)
  have hsub : ∀ x ∈ l.map f, x ∈ l := fun x hx => by
    obtain ⟨y, hy, rfl⟩ := List.mem_map.1 hx
    exact hm y hy
  have hsup : ∀ x ∈ l, x ∈ l.map f := fun x hx => Classical.byContradiction fun hx2 => by
    have := nodup_len (x :: l.map f) l (List.nodup_cons.2 ⟨hx2, hn'⟩) fun y hy => by
      rcases List.mem_cons.1 hy with rfl | hy
      · exact hx
      · exact hsub y hy
    rw [List.length_cons, List.length_map] at this
    omega
  have hp : (l.map f).Perm l := (List.perm_ext_iff_of_nodup hn' hn).2 fun a => ⟨hsub a, hsup a⟩
  rw [← hp.countP_eq Q', List.countP_map]
  exact List.countP_congr fun x hx => by simp [h x hx]

end Go.Proofs.Ytoodgbflaaabmaa
