/-
  The reference's l8Perms and AllPerms.
  The plain law of AllPerms: the program's list of permutations is the reference's.
  Values at fixed points: the numbers for them, and what IsGkm asks. Plain.
  Permutations of at most five: what is decided by looking at all of them. Plain.
  What the reference asks of numbers and values; its exchange of two places, codes and places.
  The reference's code of a list, and its place among the permutations.
  The inverse permutation, on both sides.
  The identity, as the reference makes it.
  Lengths and words of permutations. Plain.
-/
import Derived.Test.YtllmhicmikpfeaaJ4
import Derived.Test.YtllmhicmikpfeaaJ2
import Derived.Test.YtllmhicmikpfeaaJ3
namespace Go.Proofs.Ytllmhicmikpfeaa
set_option linter.all false
open Go.RowKit

/-- x divided by 1, 2, .., j -/
def restAt (x : Nat) : Nat → Nat
  | 0 => x
  | j + 1 => restAt x j / (j + 1)
def digits (n x : Nat) : List Nat := (List.range n).map fun i => restAt x (n - 1 - i) % (n - i)
def permsL (n : Nat) : List (List Int) := (List.range (fact n)).map fun x => decL n (digits n x)
theorem restAt_le (x j : Nat) : restAt x j ≤ x := by
  induction j with
  | zero => exact Nat.le_refl _
  | succ j ih => exact Nat.le_trans (Nat.div_le_self _ _) ih
theorem digits_getD {n x t : Nat} (h : t < n) : (digits n x).getD t 0 = restAt x (n - 1 - t) % (n - t) := by simp [digits, List.getD_eq_getElem?_getD, h]
theorem digits_le (n x : Nat) : ∀ c ∈ digits n x, c ≤ x := by
  intro c hc
  simp only [digits, List.mem_map, List.mem_range] at hc
  obtain ⟨i, _, rfl⟩ := hc
  exact Nat.le_trans (Nat.mod_le _ _) (restAt_le _ _)
theorem permsL_take {n x : Nat} (h : x < fact n) : (permsL n).take (x + 1) = (permsL n).take x ++ [decL n (digits n x)] := by
  rw [List.take_add_one]
  congr 1
  simp [permsL, h]
theorem digits_length (n x : Nat) : (digits n x).length = n := by simp [digits]

set_option maxRecDepth 100000 in
set_option maxHeartbeats 2000000 in
theorem specPerms_any (n : Nat) (hn1 : 1 ≤ n) (hn : n ≤ 5) (w : World) :
    Calls Try.prog 43 #[.int .i64 n] w (RetII w (permsL n)) := by
  have hfn : fact n ≤ 120 := Nat.le_trans (fact_le hn) (by decide)
  have hmk := run_make_row' (P := Try.prog) 24 3 (.int .i64 0) 8 Try.underlying24 info_int rfl .i64 .i64 n (by omega) (by omega)
  have Hfn := Lib.hid hfn
  have Hmk := Lib.hid hmk
  clear hmk
  go_enter Try.func43, Try.ntmps43
  go_wp2
  go_loopg [3, 4] (fact n) (fun g s3 i wr => ∃ (x : Nat) (rows : List (List Int)), x ≤ fact n ∧ g = fact n - x ∧ i = .int .i64 x ∧ Below w.heap.size w wr ∧ Hid (rows = (permsL n).take x) ∧ Hid (OwnII 24 3 wr w.heap.size wr.heap.size s3 rows))
  case atStart =>
    refine ⟨0, [], Nat.zero_le _, rfl, rfl, below_alloc _ _, rfl, ?_⟩
    exact ⟨fun _ => undef, ((OwnF.made0 w _ _)).mono (Nat.le_refl _) (by simp), fun i hi => absurd hi (by simp), fun i j _ hj => absurd hj (by simp)⟩
  case round =>
    obtain ⟨x, rows, hx, rfl, rfl, hb, hr, ho⟩ := hrel
    have hlen : rows.length = x := by rw [hr.out, List.length_take]; simp [permsL]; omega
    obtain ⟨wo, rfl⟩ : ∃ x : World, x = wr := ⟨_, rfl⟩
    obtain ⟨p3, k3, rfl, _, _⟩ := ho.out.shape
    have Hlen := Lib.hid hlen
    clear hlen
    by_cases hlt : x < fact n
    · go_wp2_with fail
      refine (specFactorial_any n (by omega) _).mono ?_
      rintro e w1 ⟨rfl, hq⟩
      have Hq := Lib.hid hq
      clear hq
      have hmk := Hmk.out
      go_wp2
      clear hmk
      obtain ⟨wq, rfl⟩ : ∃ x : World, x = w1 := ⟨_, rfl⟩
      go_loopg [6, 7] n (fun g s6 s7 wr => ∃ j : Nat, j ≤ n ∧ g = n - j ∧ s6 = .int .i64 (restAt x j) ∧ s7 = .int .i64 ((n : Int) - 1 - j) ∧ Below wq.heap.size wq wr ∧ wr.heap.size = wq.heap.size + 1 ∧
        Hid (wr.rowIs wq.heap.size 3 n (fun t => .int .i64 (if n - j ≤ t then ((digits n x).getD t 0 : Nat) else 0))))
      case atStart => exact ⟨0, Nat.zero_le _, rfl, rfl, by simp, below_alloc _ _, by simp, (World.rowIs_made wq (.int .i64 0) n 3).congr fun t ht => by simp [show ¬ n ≤ t by omega]⟩
      case round =>
        obtain ⟨j, hj, rfl, rfl, rfl, hb2, hsz, hrow⟩ := hrel
        by_cases hjlt : j < n
        · obtain ⟨I, hI⟩ : ∃ I : Nat, (n : Int) - 1 - j = I := ⟨n - 1 - j, by omega⟩
          have hIn : I < n := by omega
          rw [hI]
          obtain ⟨J, hJ⟩ : ∃ J : Int, J = (n : Int) - I := ⟨_, rfl⟩
          have hJ1 : 1 ≤ J := by omega
          have hJ2 : J ≤ 5 := by omega
          have hR := restAt_le x j
          generalize hRR : restAt x j = R at hR
          have HRR := Lib.hid hRR
          have HI := Lib.hid hI
          have hfz := hrow.out.frozen I
          have hcl := hrow.out.cell hIn
          clear hRR hI
          go_wp2
          go_roundg (n - (j + 1))
          case measure => omega
          case rel =>
            have hi := HI.out
            have eJ : ((n : Int) - I) = ((j + 1 : Nat) : Int) := by omega
            have hI3 : n - I = j + 1 := by omega
            have hI4 : n - 1 - I = j := by omega
            refine ⟨j + 1, by omega, rfl, ?_, ?_, hb2.setCell (Nat.le_refl _) _, by rw [size_setCell]; exact hsz, (hrow.out.set I _).congr fun t ht => ?_⟩
            · rw [eJ, ← Int.natCast_ediv, show restAt x (j + 1) = R / (j + 1) by rw [← HRR.out]; rfl]
              have hq := Nat.div_le_self R (j + 1)
              have := Hfn.out
              generalize R / (j + 1) = Q at hq ⊢
              rw [w64 (by omega) (by omega)]
            · go_num
            · by_cases e : t = I
              · subst e
                rw [if_pos rfl, if_pos (by omega), digits_getD hIn, hI4, hI3, HRR.out, eJ, ← Int.natCast_emod]
              · simp only [e, if_false]
                by_cases h2 : n - j ≤ t
                · rw [if_pos h2, if_pos (by omega)]
                · rw [if_neg h2, if_neg (by omega)]
        · have hj2 : j = n := by omega
          rw [hj2] at hrow
          have hI : Hid (Ints wr (.slice (some ⟨wq.heap.size, 0, none⟩) n n) ((digits n x).map Int.ofNat)) := by
            refine ⟨some ⟨wq.heap.size, 0, none⟩, n, by simp [digits_length], ⟨by simp [digits_length], by unfold maxLen; omega⟩, fun _ => ⟨_, 0, rfl, fun t ht => ?_⟩⟩
            rw [List.length_map, digits_length] at ht
            rw [Nat.zero_add, hrow.out.cell ht, if_pos (by omega)]
            simp [iv, List.getD_eq_getElem?_getD, digits_length, ht]
          have hbw : Below wo.heap.size wo wr := (Hq.out.below _).trans (by have := Hq.out.size; rw [← this]; exact hb2)
          have Hbw := Lib.hid hbw
          have Hszq := Lib.hid Hq.out.size
          have hx120 := Hfn.out
          have Hdl := Lib.hid (digits_le n x)
          clear hrow hb2 hbw hsz hj2
          go_wp2_with fail
          refine (specDecode_any _ (digits n x) _ hI.out (by rw [digits_length]; omega) (fun c hc => by have := Hdl.out c hc; omega)).mono ?_
          rintro e w5 ⟨u5, rfl, ho5, hb5⟩
          rw [digits_length] at ho5
          obtain ⟨p5, k5, rfl, _, _⟩ := ho5.shape
          obtain ⟨f, g1, g2, g3⟩ := ho.out
          have hbx : Below wo.heap.size wo w5 := Hbw.out.trans (hb5.mono Hbw.out.size)
          have Hbx := Lib.hid hbx
          have G1 := Lib.hid (g1.below hbx)
          have G2 := Lib.hid (fun i hi => (g2 i hi).below hbx)
          have G3 := Lib.hid g3
          have H5 := Lib.hid (ho5.mono Hbw.out.size (Nat.le_refl _))
          have hlx := Hlen.out
          have Hb1 := Lib.hid (show rows.length + 1 ≤ maxLen by unfold maxLen; omega)
          have Hb2 := Lib.hid (show (rows.length + 1) * 24 ≤ 140737488355328 by omega)
          have hs1 := hb.size
          have hs5 := hbx.size
          have hnew := permsL_take hlt
          rw [← hr.out] at hnew
          have Hnew := Lib.hid hnew
          clear hnew
          generalize decL n (digits n x) = new at *
          clear g1 g2 g3 ho5 hbx hb5 hlx
          go_wp2_with (at_builtin; go_must (refine wpList_append_F rfl (.tmp 37) (.tmp 40) 36 rfl 24 (.slice none 0 0) 24 Try.underlying36 info_sl rfl w.heap.size wo.heap.size _ rows.length f rfl (G1.out.below (below_alloc _ _)) (by simp; omega) (by simp; omega) _ _ _ rfl (rd_one _ _ _ rfl) (fun j _ => rfl) Hb1.out Hb2.out ?_; intro v' w' ho' hg'))
          have hsw' := hg'.size
          simp only [size_alloc] at hsw'
          have hblow : Below w.heap.size wo w' := (Hbx.out.mono hs1).trans (((below_alloc w5 _).mono (by omega)).trans (grownBy_below hg' G1.out.blocks (Nat.le_refl _) (by simp; omega)))
          go_roundg (fact n - (x + 1))
          case measure => omega
          case rel =>
            refine ⟨x + 1, rows ++ [new], by omega, rfl, by go_num, hb.trans hblow, ?_, ?_⟩
            · exact Hnew.out.symm
            · exact OwnII.snoc (G1.out.below (below_alloc _ _)) (fun i hi => (G2.out i hi).below (below_alloc _ _)) G3.out (H5.out.below (below_alloc _ _)) hs1 hs5 (by decide) hg' (by omega) ho'
    · go_wp2_with fail
      refine (specFactorial_any n (by omega) _).mono ?_
      rintro e w1 ⟨rfl, hq⟩
      have Hq := Lib.hid hq
      clear hq
      go_wp2_with fail
      go_ret
      obtain rfl : x = fact n := by omega
      refine ⟨_, rfl, ?_, hb.trans (Hq.out.below _)⟩
      have e : rows = permsL n := by rw [hr.out, List.take_of_length_le (by simp [permsL])]
      rw [← e, Hq.out.size]
      exact ho.out.below (Hq.out.below _)

theorem ownII_nil (w : World) (lo hi : Nat) : OwnII 24 3 w lo hi (.slice none 0 0) [] :=
  ⟨fun _ => undef, OwnF.nil _ _ _ _ _, fun i hi => absurd hi (Nat.not_lt_zero _), fun i j _ hj => absurd hj (Nat.not_lt_zero _)⟩
def allPermsL (N : Int) : List (List Int) := if 1 ≤ N ∧ N ≤ 5 then permsL N.toNat else []

set_option maxRecDepth 100000 in
theorem specAllPerms_any (N : Int) (w : World) :
    Calls Try.prog 16 #[.int .i64 N] w (RetII w (allPermsL N)) := by
  by_cases h : 1 ≤ N ∧ N ≤ 5
  · obtain ⟨n, rfl⟩ := Int.eq_ofNat_of_zero_le (show (0 : Int) ≤ N by omega)
    have e : allPermsL n = permsL n := by simp [allPermsL, h]
    rw [e]
    have Hh := Lib.hid h
    clear e
    go_enter Try.func16, Try.ntmps16
    go_wp2_with fail
    refine (l1In_yes n 1 5 _ Hh.out).mono ?_
    rintro e w1 ⟨rfl, rfl⟩
    go_wp2_with fail
    refine (specPerms_any n (by omega) (by omega) _).mono ?_
    rintro e w2 ⟨u, rfl, ho, hb⟩
    go_wp2_with fail
    go_ret
    exact ⟨_, rfl, ho, hb⟩
  · have e : allPermsL N = [] := by simp [allPermsL, h]
    rw [e]
    have Hh := Lib.hid h
    clear e h
    go_enter Try.func16, Try.ntmps16
    go_wp2_with fail
    refine (l1In_no N 1 5 _ Hh.out).mono ?_
    rintro e w1 ⟨rfl, rfl⟩
    go_wp2_with fail
    go_ret
    exact ⟨_, rfl, ownII_nil _ _ _, Below.refl _ _⟩

end Go.Proofs.Ytllmhicmikpfeaa

namespace Go.Proofs.Ytllmhicmikpfeaa
set_option linter.all false
open Go.RowKit

/-- all lists of numbers below n that are chosen without repeating, behind those that are chosen -/
def allL (n : Nat) : Nat → List Int → List (List Int)
  | 0, ch => [ch]
  | f + 1, ch => (List.range n).flatMap fun (x : Nat) => if (x : Int) ∈ ch then [] else allL n f (ch ++ [(x : Int)])

theorem allL_len (n : Nat) : ∀ f ch, (allL n f ch).length ≤ n ^ f
  | 0, ch => by simp [allL]
  | f + 1, ch => by
    rw [allL, Nat.pow_succ, Nat.mul_comm]
    refine flatMap_len _ _ (fun x => ?_) n
    split
    · simp
    · exact allL_len n f _

set_option maxRecDepth 100000 in
theorem allL_perms (n : Nat) (h1 : 1 ≤ n) (h5 : n ≤ 5) : allL n n [] = permsL n := by
  have : n = 1 ∨ n = 2 ∨ n = 3 ∨ n = 4 ∨ n = 5 := by omega
  rcases this with rfl | rfl | rfl | rfl | rfl <;> decide +kernel

end Go.Proofs.Ytllmhicmikpfeaa

namespace Go.Proofs.Ytllmhicmikpfeaa
set_option linter.all false
open Go.RowKit

/-- there is a number for each place -/
def nmOk (N : Int) (y : List Int) : Bool := decide (1 ≤ N) && decide (N ≤ 5) && decide ((y.length : Int) = N) && decide (∀ x ∈ y, -9 ≤ x ∧ x ≤ 9)
def shiftB (N : Int) (y : List Int) : Bool := decide ((y.length : Int) = N) && decide (∀ x ∈ y, -9 ≤ x ∧ x ≤ 9)
/-- the numbers are different -/
def apOk (N : Int) (y : List Int) : Bool := nmOk N y && decide (N ≤ 4) && decide y.Nodup
def mostB (vs : List Int) : Bool := decide (∀ x ∈ vs, -1000000000000 ≤ x ∧ x ≤ 1000000000000)
/-- a list with the numbers at two places exchanged -/
def swapL (w : List Int) (i j : Nat) : List Int := (w.set i (w.getD j 0)).set j (w.getD i 0)
theorem swapL_length (w : List Int) (i j : Nat) : (swapL w i j).length = w.length := by simp [swapL]
theorem swapL_getD {w : List Int} {i j t : Nat} (hi : i < w.length) (hj : j < w.length) : (swapL w i j).getD t 0 = if t = j then w.getD i 0 else if t = i then w.getD j 0 else w.getD t 0 := by
  unfold swapL
  by_cases e1 : t = j
  · subst e1
    rw [if_pos rfl, List.getD_eq_getElem?_getD, List.getElem?_set_self (by simpa using hj)]
    rfl
  · rw [if_neg e1, List.getD_eq_getElem?_getD, List.getElem?_set_ne (fun h => e1 h.symm)]
    by_cases e2 : t = i
    · subst e2
      rw [if_pos rfl, List.getElem?_set_self hi]
      rfl
    · rw [if_neg e2, List.getElem?_set_ne (fun h => e2 h.symm), ← List.getD_eq_getElem?_getD]
theorem swapL_comm {w : List Int} {i j : Nat} (hi : i < w.length) (hj : j < w.length) : swapL w i j = swapL w j i := by
  refine getD_eq_list (by rw [swapL_length, swapL_length]) fun t _ => ?_
  rw [swapL_getD hi hj, swapL_getD hj hi]
  by_cases e1 : t = j
  · by_cases e2 : t = i
    · rw [if_pos e1, if_pos e2, ← e1, ← e2]
    · rw [if_pos e1, if_neg e2, if_pos e1]
  · by_cases e2 : t = i
    · rw [if_neg e1, if_pos e2, if_pos e2]
    · rw [if_neg e1, if_neg e2, if_neg e2, if_neg e1]
/-- the code of a list, and its place among the permutations -/
def cdK (xs : List Int) (i t : Nat) : Nat := ((List.range t).filter fun (s : Nat) => decide (xs.getD (i + 1 + s) 0 < xs.getD i 0)).length
def cdA (xs : List Int) (i : Nat) : Nat := cdK xs i (xs.length - (i + 1))
def plA (xs : List Int) : Nat → Nat
  | 0 => 0
  | i + 1 => plA xs i * (xs.length - i) + cdA xs i
def plN (xs : List Int) : Nat := plA xs xs.length
/-- one list comes before another one -/
def ltL : List Int → List Int → Bool
  | [], [] => false
  | [], _ :: _ => true
  | _ :: _, [] => false
  | x :: xs, y :: ys => if x < y then true else if y < x then false else ltL xs ys
def gkChk (n : Nat) : Bool :=
  (List.range (fact n)).all fun x => decide (((permsL n).getD x []).length = n) && ((permsL n).getD x []).all (fun v => decide (0 ≤ v ∧ v < (n : Int))) && decide (((permsL n).getD x []).Nodup) &&
    (List.range n).all (fun j => (List.range j).all fun i => decide (plN (swapL ((permsL n).getD x []) i j) < fact n) && decide ((permsL n).getD (plN (swapL ((permsL n).getD x []) i j)) [] = swapL ((permsL n).getD x []) i j)) &&
    (List.range (fact n)).all fun z => decide (ltL ((permsL n).getD x []) ((permsL n).getD z []) = decide (x < z))
set_option maxRecDepth 100000 in
theorem gk_all : gkChk 1 = true ∧ gkChk 2 = true ∧ gkChk 3 = true ∧ gkChk 4 = true := by decide +kernel
structure GkN (n : Nat) : Prop where
  len : ∀ x, x < fact n → ((permsL n).getD x []).length = n
  rng : ∀ x t, x < fact n → t < n → ∃ m : Nat, ((permsL n).getD x []).getD t 0 = (m : Int) ∧ m < n
  inj : ∀ x s t, x < fact n → s < t → t < n → ((permsL n).getD x []).getD s 0 ≠ ((permsL n).getD x []).getD t 0
  plc : ∀ x i j, x < fact n → i < j → j < n → plN (swapL ((permsL n).getD x []) i j) < fact n ∧ (permsL n).getD (plN (swapL ((permsL n).getD x []) i j)) [] = swapL ((permsL n).getD x []) i j
  lt : ∀ x z, x < fact n → z < fact n → ltL ((permsL n).getD x []) ((permsL n).getD z []) = decide (x < z)
theorem gkN {n : Nat} (h1 : 1 ≤ n) (h4 : n ≤ 4) : GkN n := by
  have hc : gkChk n = true := by
    have : n = 1 ∨ n = 2 ∨ n = 3 ∨ n = 4 := by omega
    rcases this with rfl | rfl | rfl | rfl
    · exact gk_all.1
    · exact gk_all.2.1
    · exact gk_all.2.2.1
    · exact gk_all.2.2.2
  unfold gkChk at hc
  simp only [List.all_eq_true, List.mem_range, Bool.and_eq_true, decide_eq_true_eq] at hc
  refine ⟨fun x hx => (hc x hx).1.1.1.1, fun x t hx ht => ?_, fun x s t hx hs ht e => ?_, fun x i j hx hi hj => (hc x hx).1.2 j hj i hi, fun x z hx hz => (hc x hx).2 z hz⟩
  · have hl := (hc x hx).1.1.1.1
    have := (hc x hx).1.1.1.2 _ (getD_mem (show t < ((permsL n).getD x []).length by omega))
    exact ⟨(((permsL n).getD x []).getD t 0).toNat, by omega, by omega⟩
  · have hl := (hc x hx).1.1.1.1
    have hn := (hc x hx).1.1.2
    have a : s < ((permsL n).getD x []).length := by omega
    have b : t < ((permsL n).getD x []).length := by omega
    rw [getD_lt a, getD_lt b] at e
    exact List.pairwise_iff_getElem.1 hn s t a b hs e

/-- the condition at one place and two numbers -/
def gkAt (n : Nat) (vs y : List Int) (x i j : Nat) : Prop :=
  (vs.getD x 0 - vs.getD (plN (swapL ((permsL n).getD x []) i j)) 0).tmod (y.getD (((permsL n).getD x []).getD i 0).toNat 0 - y.getD (((permsL n).getD x []).getD j 0).toNat 0) = 0
/-- what IsGkm says -/
def GkIs (N : Int) (vs y : List Int) (b : Bool) : Prop :=
  b = true ↔ apOk N y = true ∧ vs.length = fact N.toNat ∧ mostB vs = true ∧ ∀ x i j, x < fact N.toNat → i < j → j < N.toNat → gkAt N.toNat vs y x i j
theorem GkIs.one {N : Int} {vs y : List Int} {b b' : Bool} (h : GkIs N vs y b) (h' : GkIs N vs y b') : b = b' := by
  unfold GkIs at h h'
  have e : b = true ↔ b' = true := h.trans h'.symm
  cases b <;> cases b' <;> simp_all
theorem GkIs.eps {N : Int} {vs y : List Int} {b : Bool} (h : GkIs N vs y b) : b = Classical.epsilon (GkIs N vs y) := h.one (Classical.epsilon_spec ⟨b, h⟩)
theorem GkIs.no1 {N : Int} {vs y : List Int} (h : apOk N y = false) : GkIs N vs y false := ⟨fun e => (by cases e), fun e => by rw [h] at e; cases e.1⟩
theorem GkIs.no2 {N : Int} {vs y : List Int} (h : ¬ vs.length = fact N.toNat) : GkIs N vs y false := ⟨fun e => (by cases e), fun e => absurd e.2.1 h⟩
theorem GkIs.no3 {N : Int} {vs y : List Int} (h : mostB vs = false) : GkIs N vs y false := ⟨fun e => (by cases e), fun e => by have := e.2.2.1; rw [h] at this; cases this⟩
theorem GkIs.no4 {N : Int} {vs y : List Int} {x i j : Nat} (h1 : x < fact N.toNat) (h2 : i < j) (h3 : j < N.toNat) (h : ¬ gkAt N.toNat vs y x i j) : GkIs N vs y false := ⟨fun e => (by cases e), fun e => absurd (e.2.2.2 x i j h1 h2 h3) h⟩

end Go.Proofs.Ytllmhicmikpfeaa

namespace Go.Proofs.Ytllmhicmikpfeaa
set_option linter.all false
open Go.RowKit

/-! ### permutations: what is decided by looking at all of them -/
theorem toFin {n : Nat} {x : Int} (h : 0 ≤ x ∧ x < (n : Int)) : ∃ a : Fin n, x = ((a : Nat) : Int) := ⟨⟨x.toNat, by omega⟩, by simp; omega⟩
def memB (xs : List Int) : Bool := !permOk xs || (permsL xs.length).contains xs
set_option maxRecDepth 100000 in
theorem mem_1 : ∀ a : Fin 1, memB [((a : Nat) : Int)] = true := by decide +kernel
set_option maxRecDepth 100000 in
theorem mem_2 : ∀ a b : Fin 2, memB [((a : Nat) : Int), ((b : Nat) : Int)] = true := by decide +kernel
set_option maxRecDepth 100000 in
theorem mem_3 : ∀ a b c : Fin 3, memB [((a : Nat) : Int), ((b : Nat) : Int), ((c : Nat) : Int)] = true := by decide +kernel
set_option maxRecDepth 100000 in
theorem mem_4 : ∀ a b c d : Fin 4, memB [((a : Nat) : Int), ((b : Nat) : Int), ((c : Nat) : Int), ((d : Nat) : Int)] = true := by decide +kernel
set_option maxRecDepth 100000 in
theorem mem_5 : ∀ a b c d e : Fin 5, memB [((a : Nat) : Int), ((b : Nat) : Int), ((c : Nat) : Int), ((d : Nat) : Int), ((e : Nat) : Int)] = true := by decide +kernel
theorem perm_mem {xs : List Int} (h : permOk xs = true) (h5 : xs.length ≤ 5) : xs ∈ permsL xs.length := by
  have key : memB xs = true := by
    have hp := h
    simp only [permOk, decide_eq_true_eq] at hp
    obtain ⟨h1, h7, hr, _⟩ := hp
    match xs, h1, h5, hr with
    | [a], _, _, hr =>
      obtain ⟨a, rfl⟩ := toFin (n := 1) (hr a (by simp))
      exact mem_1 a
    | [a, b], _, _, hr =>
      obtain ⟨a, rfl⟩ := toFin (n := 2) (hr a (by simp))
      obtain ⟨b, rfl⟩ := toFin (n := 2) (hr b (by simp))
      exact mem_2 a b
    | [a, b, c], _, _, hr =>
      obtain ⟨a, rfl⟩ := toFin (n := 3) (hr a (by simp))
      obtain ⟨b, rfl⟩ := toFin (n := 3) (hr b (by simp))
      obtain ⟨c, rfl⟩ := toFin (n := 3) (hr c (by simp))
      exact mem_3 a b c
    | [a, b, c, d], _, _, hr =>
      obtain ⟨a, rfl⟩ := toFin (n := 4) (hr a (by simp))
      obtain ⟨b, rfl⟩ := toFin (n := 4) (hr b (by simp))
      obtain ⟨c, rfl⟩ := toFin (n := 4) (hr c (by simp))
      obtain ⟨d, rfl⟩ := toFin (n := 4) (hr d (by simp))
      exact mem_4 a b c d
    | [a, b, c, d, e], _, _, hr =>
      obtain ⟨a, rfl⟩ := toFin (n := 5) (hr a (by simp))
      obtain ⟨b, rfl⟩ := toFin (n := 5) (hr b (by simp))
      obtain ⟨c, rfl⟩ := toFin (n := 5) (hr c (by simp))
      obtain ⟨d, rfl⟩ := toFin (n := 5) (hr d (by simp))
      obtain ⟨e, rfl⟩ := toFin (n := 5) (hr e (by simp))
      exact mem_5 a b c d e
  unfold memB at key
  rw [h] at key
  simpa using key
/-- a check that all permutations of at most five pass -/
def all5 (B : List Int → Bool) : Bool := (List.range 6).all fun n => (permsL n).all fun v => !decide (1 ≤ n) || B v
theorem all5_at {B : List Int → Bool} (h : all5 B = true) {xs : List Int} (hp : permOk xs = true) (h5 : xs.length ≤ 5) : B xs = true := by
  unfold all5 at h
  rw [List.all_eq_true] at h
  have a := h xs.length (List.mem_range.2 (by omega))
  rw [List.all_eq_true] at a
  have b := a xs (perm_mem hp h5)
  have : 1 ≤ xs.length := by simp only [permOk, decide_eq_true_eq] at hp; exact hp.1
  simpa [this] using b

/-- two neighbours exchanged -/
def sw (k : Nat) (v : List Int) : List Int := swapL v k (k + 1)
def ascB (k : Nat) (v : List Int) : Bool := decide (v.getD k 0 < v.getD (k + 1) 0)
/-- the pairs in order -/
def upN (v : List Int) : Nat := ((List.range v.length).map fun j => ((List.range j).filter fun i => decide (v.getD i 0 < v.getD j 0)).length).sum
def ok2B (v : List Int) : Bool := (List.range (v.length - 1)).all fun k => permOk (sw k v) && (if ascB k v then decide (upN (sw k v) + 1 = upN v) && !ascB k (sw k v) else decide (upN (sw k v) = upN v + 1) && ascB k (sw k v))
set_option maxRecDepth 100000 in
theorem ok2_all : all5 ok2B = true := by decide +kernel
theorem sw_length (k : Nat) (v : List Int) : (sw k v).length = v.length := swapL_length _ _ _
structure P5 (n : Nat) (v : List Int) : Prop where
  ok : permOk v = true
  len : v.length = n
  le : n ≤ 5
theorem P5.sw {n : Nat} {v : List Int} (h : P5 n v) {k : Nat} (hk : k + 1 < n) : P5 n (sw k v) := by
  have := all5_at ok2_all h.ok (by have := h.len; have := h.le; omega)
  simp only [ok2B, Bool.and_eq_true, List.all_eq_true, List.mem_range] at this
  exact ⟨(this k (by have := h.len; omega)).1, by rw [sw_length]; exact h.len, h.le⟩
theorem P5.asc {n : Nat} {v : List Int} (h : P5 n v) {k : Nat} (hk : k + 1 < n) (ha : ascB k v = true) : upN (Go.Proofs.Ytllmhicmikpfeaa.sw k v) + 1 = upN v ∧ ascB k (Go.Proofs.Ytllmhicmikpfeaa.sw k v) = false := by
  have := all5_at ok2_all h.ok (by have := h.len; have := h.le; omega)
  simp only [ok2B, Bool.and_eq_true, List.all_eq_true, List.mem_range] at this
  have := (this k (by have := h.len; omega)).2
  rw [ha] at this
  simpa using this
theorem P5.desc {n : Nat} {v : List Int} (h : P5 n v) {k : Nat} (hk : k + 1 < n) (ha : ascB k v = false) : upN (Go.Proofs.Ytllmhicmikpfeaa.sw k v) = upN v + 1 ∧ ascB k (Go.Proofs.Ytllmhicmikpfeaa.sw k v) = true := by
  have := all5_at ok2_all h.ok (by have := h.len; have := h.le; omega)
  simp only [ok2B, Bool.and_eq_true, List.all_eq_true, List.mem_range] at this
  have := (this k (by have := h.len; omega)).2
  rw [ha] at this
  simpa using this

end Go.Proofs.Ytllmhicmikpfeaa

namespace Go.Proofs.Ytllmhicmikpfeaa
set_option linter.all false
open Go.RowKit

theorem nm_no1 {N : Int} {y : List Int} (h : ¬ (1 ≤ N ∧ N ≤ 5)) : nmOk N y = false := by
  unfold nmOk
  by_cases h1 : 1 ≤ N
  · rw [decide_eq_false (show ¬ N ≤ 5 by omega)]; simp
  · rw [decide_eq_false h1]; simp
theorem nm_no2 {N : Int} {y : List Int} (h : ¬ (y.length : Int) = N) : nmOk N y = false := by
  unfold nmOk
  rw [decide_eq_false h]; simp
theorem nm_no3 {N : Int} {y : List Int} {k : Nat} (hk : k < y.length) (h : ¬ (-9 ≤ y.getD k 0 ∧ y.getD k 0 ≤ 9)) : nmOk N y = false := by
  unfold nmOk
  rw [decide_eq_false (show ¬ ∀ x ∈ y, -9 ≤ x ∧ x ≤ 9 from fun e => h (e _ (getD_mem hk)))]; simp
theorem all_of_getD {y : List Int} {Q : Int → Prop} (h : ∀ k, k < y.length → Q (y.getD k 0)) : ∀ x ∈ y, Q x := fun x hx => by
  obtain ⟨k, hk, rfl⟩ := List.mem_iff_getElem.1 hx
  have := h k hk
  rwa [getD_lt hk] at this
theorem nm_yes {N : Int} {y : List Int} (h : 1 ≤ N ∧ N ≤ 5) (hl : (y.length : Int) = N) (hk : ∀ k, k < y.length → -9 ≤ y.getD k 0 ∧ y.getD k 0 ≤ 9) : nmOk N y = true := by
  unfold nmOk
  rw [decide_eq_true h.1, decide_eq_true h.2, decide_eq_true hl, decide_eq_true (all_of_getD hk)]; rfl
theorem nm_facts {N : Int} {y : List Int} (h : nmOk N y = true) : ∃ n : Nat, N = n ∧ 1 ≤ n ∧ n ≤ 5 ∧ y.length = n ∧ ∀ k, k < n → -9 ≤ y.getD k 0 ∧ y.getD k 0 ≤ 9 := by
  unfold nmOk at h
  simp only [Bool.and_eq_true, decide_eq_true_eq] at h
  obtain ⟨⟨⟨h1, h2⟩, h3⟩, h4⟩ := h
  exact ⟨y.length, h3.symm, by omega, by omega, rfl, fun k hk => h4 _ (getD_mem hk)⟩

set_option maxRecDepth 100000 in
set_option maxHeartbeats 2000000 in
theorem l8Numbers_any (N : Int) (v : Value) (y : List Int) (w : World) (h : Ints w v y) :
    Calls Try.prog 34 #[.int .i64 N, v] w fun e w' => e = .returned (.bool (nmOk N y)) ∧ w = w' := by
  obtain ⟨p, cap, rfl, ⟨hx1, hx⟩, hxc⟩ := h
  unfold maxLen at hx
  go_enter Try.func34, Try.ntmps34
  go_wp2_with fail
  by_cases hN : 1 ≤ N ∧ N ≤ 5
  case neg =>
    refine (l1In_no _ _ _ _ hN).mono ?_
    rintro e w1 ⟨rfl, rfl⟩
    go_wp2_with fail
    go_ret
    exact ⟨ret_bool (nm_no1 hN).symm, rfl⟩
  refine (l1In_yes _ _ _ _ hN).mono ?_
  rintro e w1 ⟨rfl, rfl⟩
  by_cases hl : (y.length : Int) = N
  case neg =>
    go_wp2_with fail
    go_ret
    exact ⟨ret_bool (nm_no2 hl).symm, rfl⟩
  have HN := Lib.hid hN
  have Hl := Lib.hid hl
  subst hl
  clear hN
  go_wp2_with fail
  go_loopg [5] y.length (fun g s5 wr => ∃ k : Nat, k ≤ y.length ∧ g = y.length - k ∧ s5 = .int .i64 k ∧ w = wr ∧ Hid (∀ j, j < k → -9 ≤ y.getD j 0 ∧ y.getD j 0 ≤ 9))
  case atStart => exact ⟨0, Nat.zero_le _, rfl, rfl, rfl, Lib.hid fun j hj => absurd hj (Nat.not_lt_zero _)⟩
  case round =>
    obtain ⟨k, hk, rfl, rfl, rfl, hp⟩ := hrel
    by_cases hlt : k < y.length
    · obtain ⟨b, off, rfl, hc⟩ := hxc (by omega)
      obtain ⟨x, hx'⟩ : ∃ x, x = y.getD k 0 := ⟨_, rfl⟩
      have c1 := hc k hlt
      unfold iv at c1
      rw [← hx'] at c1
      have Hx := Lib.hid hx'
      have hk1 : (k : Int) < (y.length : Int) := by omega
      clear hx' hc hxc
      by_cases hr : -9 ≤ x ∧ x ≤ 9
      · go_wp2_with fail
        refine (l1In_yes _ _ _ _ hr).mono ?_
        rintro e w1 ⟨rfl, rfl⟩
        go_wp2_with fail
        go_roundg (y.length - (k + 1))
        case measure => omega
        case rel =>
          refine ⟨k + 1, by omega, rfl, by go_num, rfl, Lib.hid fun j hj => ?_⟩
          by_cases e : j = k
          · subst e; rw [← Hx.out]; exact hr
          · exact hp.out j (by omega)
      · go_wp2_with fail
        refine (l1In_no _ _ _ _ hr).mono ?_
        rintro e w1 ⟨rfl, rfl⟩
        go_wp2_with fail
        go_ret
        exact ⟨ret_bool (nm_no3 hlt (by rw [← Hx.out]; exact hr)).symm, rfl⟩
    · have hk1 : ¬ (k : Int) < (y.length : Int) := by omega
      go_wp2_with fail
      go_ret
      exact ⟨ret_bool (nm_yes HN.out rfl fun j hj => hp.out j (by omega)).symm, rfl⟩

theorem ints_takeP2 {w : World} {p : Option Addr} {cap : Nat} {xs : List Int} (h : Ints w (.slice p xs.length cap) xs) {i : Nat} (hi : i ≤ xs.length) : Ints w (.slice p i cap) (xs.take i) := h.take i hi
/-! ### different numbers -/
theorem ap_no1 {N : Int} {y : List Int} (h : nmOk N y = false) : apOk N y = false := by simp [apOk, h]
theorem ap_no2 {N : Int} {y : List Int} (h : ¬ N ≤ 4) : apOk N y = false := by simp [apOk, h]
theorem nodup_no {y : List Int} {k : Nat} (hk : k < y.length) (h : y.getD k 0 ∈ y.take k) : ¬ y.Nodup := fun hn => by
  obtain ⟨j, hj, e⟩ := List.mem_iff_getElem.1 h
  have hj' : j < k := by rw [List.length_take] at hj; omega
  rw [List.getElem_take, getD_lt hk] at e
  exact List.pairwise_iff_getElem.1 hn j k (by omega) hk hj' e
theorem nodup_yes {y : List Int} (h : ∀ k, k < y.length → ¬ y.getD k 0 ∈ y.take k) : y.Nodup := by
  refine List.pairwise_iff_getElem.2 fun i j hi hj hij e => h j hj ?_
  rw [getD_lt hj, ← e]
  exact List.mem_iff_getElem.2 ⟨i, by rw [List.length_take]; omega, by rw [List.getElem_take]⟩
theorem ap_no3 {N : Int} {y : List Int} {k : Nat} (hk : k < y.length) (h : y.getD k 0 ∈ y.take k) : apOk N y = false := by
  unfold apOk
  rw [decide_eq_false (nodup_no hk h)]; simp
theorem ap_yes {N : Int} {y : List Int} (h1 : nmOk N y = true) (h2 : N ≤ 4) (h : ∀ k, k < y.length → ¬ y.getD k 0 ∈ y.take k) : apOk N y = true := by
  unfold apOk
  rw [h1, decide_eq_true h2, decide_eq_true (nodup_yes h)]; rfl
theorem ap_facts {N : Int} {y : List Int} (h : apOk N y = true) : ∃ n : Nat, N = n ∧ 1 ≤ n ∧ n ≤ 4 ∧ y.length = n ∧ (∀ k, k < n → -9 ≤ y.getD k 0 ∧ y.getD k 0 ≤ 9) ∧ ∀ i j, i < n → j < n → i ≠ j → y.getD i 0 ≠ y.getD j 0 := by
  unfold apOk at h
  simp only [Bool.and_eq_true, decide_eq_true_eq] at h
  obtain ⟨⟨h1, h2⟩, h3⟩ := h
  obtain ⟨n, rfl, a, b, c, d⟩ := nm_facts h1
  refine ⟨n, rfl, a, by omega, c, d, fun i j hi hj hij e => ?_⟩
  rw [getD_lt (show i < y.length by omega), getD_lt (show j < y.length by omega)] at e
  rcases Nat.lt_or_gt_of_ne hij with h | h
  · exact List.pairwise_iff_getElem.1 h3 i j (by omega) (by omega) h e
  · exact List.pairwise_iff_getElem.1 h3 j i (by omega) (by omega) h e.symm

/-! ### values -/
theorem most_no {vs : List Int} {k : Nat} (hk : k < vs.length) (h : ¬ (-1000000000000 ≤ vs.getD k 0 ∧ vs.getD k 0 ≤ 1000000000000)) : mostB vs = false :=
  decide_eq_false fun e => h (e _ (getD_mem hk))
theorem most_yes {vs : List Int} (h : ∀ k, k < vs.length → -1000000000000 ≤ vs.getD k 0 ∧ vs.getD k 0 ≤ 1000000000000) : mostB vs = true := decide_eq_true (all_of_getD h)
theorem most_at {vs : List Int} (h : mostB vs = true) {k : Nat} (hk : k < vs.length) : -1000000000000 ≤ vs.getD k 0 ∧ vs.getD k 0 ≤ 1000000000000 := of_decide_eq_true h _ (getD_mem hk)

/-! ### two places exchanged -/
theorem OwnI.setG {T : TypeId} {w : World} {lo hi g n cap t : Nat} {D : List Int} (h : OwnI T w lo hi (.slice (some ⟨g, 0, none⟩) n cap) D) (ht : t < D.length) (x : Int) : OwnI T (w.setCell ⟨g, t, none⟩ (.int .i64 x)) lo hi (.slice (some ⟨g, 0, none⟩) n cap) (D.set t x) := by
  refine OwnF.ints ?_
  rw [List.length_set]
  refine (h.fn.set t _).congr fun j hj => ?_
  unfold iv
  by_cases e : j = t
  · subst e; simp [List.getD_eq_getElem?_getD, ht]
  · simp [e, List.getD_eq_getElem?_getD, List.getElem?_set_ne (fun h => e h.symm)]

set_option maxRecDepth 100000 in
set_option maxHeartbeats 1000000 in
theorem l1Swap_any (v : Value) (xs : List Int) (i j : Nat) (w : World) (h : Ints w v xs) (hi : i < xs.length) (hj : j < xs.length) (hl : xs.length ≤ 1000) :
    Calls Try.prog 51 #[v, .int .i64 (i : Int), .int .i64 (j : Int)] w (RetI w (swapL xs i j)) := by
  have Hh := Lib.hid h
  obtain ⟨p, cap, rfl, ⟨hx1, hx⟩, hxc⟩ := h
  unfold maxLen at hx
  obtain ⟨b, off, rfl, hc⟩ := hxc (by omega)
  have Hc := Lib.hid hc
  clear hc hxc
  go_enter Try.func51, Try.ntmps51
  go_wp2_with fail
  refine (l1Ints_any _ xs _ Hh.out (by omega)).mono ?_
  rintro e w1 ⟨u, rfl, ho, hb⟩
  have hofn := ho.fn
  obtain ⟨pu, ku, rfl, hku, hku2⟩ := ho.shape
  unfold maxLen at hku2
  obtain ⟨g, rfl, hg1, hg2, hg3⟩ := hofn.at_ (by omega)
  obtain ⟨x, hx'⟩ : ∃ x, x = xs.getD i 0 := ⟨_, rfl⟩
  obtain ⟨y, hy'⟩ : ∃ y, y = xs.getD j 0 := ⟨_, rfl⟩
  have c1 : w1.cell? ⟨b, off + i, none⟩ = some (.int .i64 x) := by rw [hx']; exact cell_below hb (Hc.out i hi)
  have c2 : w1.cell? ⟨b, off + j, none⟩ = some (.int .i64 y) := by rw [hy']; exact cell_below hb (Hc.out j hj)
  have f1 := hofn.frozen i
  have f2 := hofn.frozen j
  have d1 := hofn.cell hi
  have d2 := hofn.cell hj
  obtain ⟨z, d3⟩ : ∃ z, (w1.setCell ⟨g, i, none⟩ (.int .i64 y)).cell? ⟨g, j, none⟩ = some z := ⟨_, (hofn.set i (.int .i64 y)).cell hj⟩
  have hgb : g ≠ b := fun e => by
    have := World.block_lt_of_cell? _ _ (Hc.out i hi)
    have : b < w.heap.size := this
    omega
  have hbg : b ≠ g := fun e => hgb e.symm
  obtain ⟨n, hn⟩ : ∃ n, n = xs.length := ⟨_, rfl⟩
  have Hn := Lib.hid hn
  have Ho := Lib.hid ho
  have Hb := Lib.hid hb
  have Hx := Lib.hid hx'
  have Hy := Lib.hid hy'
  have hi2 : (i : Int) < (n : Int) := by omega
  have hj2 : (j : Int) < (n : Int) := by omega
  rw [← hn] at hx1 hku hi hj ⊢
  clear hofn ho hb hn hx' hy' hgb
  go_wp2_with fail
  go_ret
  refine ⟨_, rfl, ?_, ((Hb.out.setCell (p := ⟨g, i, none⟩) hg1 _).setCell (p := ⟨g, j, none⟩) hg1 _)⟩
  unfold swapL
  rw [← Hx.out, ← Hy.out]
  have o1 := (Ho.out.setG (by rw [← Hn.out]; exact hi) y).setG (t := j) (by rw [List.length_set, ← Hn.out]; exact hj) x
  rw [← Hn.out] at o1
  have := o1.mono (Nat.le_refl _) (show w1.heap.size ≤ ((w1.setCell ⟨g, i, none⟩ (.int .i64 y)).setCell ⟨g, j, none⟩ (.int .i64 x)).heap.size by simp)
  exact this

end Go.Proofs.Ytllmhicmikpfeaa

namespace Go.Proofs.Ytllmhicmikpfeaa
set_option linter.all false
open Go.RowKit

theorem cdK_yes {xs : List Int} {i t : Nat} (h : xs.getD (i + 1 + t) 0 < xs.getD i 0) : cdK xs i (t + 1) = cdK xs i t + 1 := by
  unfold cdK
  rw [List.range_succ, List.filter_append]
  simp only [List.filter_cons, List.filter_nil, h, decide_true, if_true, List.length_append, List.length_singleton]
theorem cdK_no {xs : List Int} {i t : Nat} (h : ¬ xs.getD (i + 1 + t) 0 < xs.getD i 0) : cdK xs i (t + 1) = cdK xs i t := by
  unfold cdK
  rw [List.range_succ, List.filter_append]
  have e : List.filter (fun (s : Nat) => decide (xs.getD (i + 1 + s) 0 < xs.getD i 0)) [t] = [] := by
    rw [List.filter_cons, decide_eq_false h]; rfl
  rw [e, List.append_nil]
theorem cdK_le (xs : List Int) (i t : Nat) : cdK xs i t ≤ t := by
  unfold cdK
  exact Nat.le_trans (List.length_filter_le _ _) (by simp)
def cdF (xs : List Int) (i t j : Nat) : Nat := if j < i then cdA xs j else if j = i then cdK xs i t else 0
def cdL (xs : List Int) : List Int := (List.range xs.length).map fun i => (cdA xs i : Int)
theorem cdL_length (xs : List Int) : (cdL xs).length = xs.length := by simp [cdL]
theorem cdL_getD {xs : List Int} {i : Nat} (h : i < xs.length) : (cdL xs).getD i 0 = (cdA xs i : Int) := by simp [cdL, List.getD_eq_getElem?_getD, h]

set_option maxRecDepth 100000 in
set_option maxHeartbeats 4000000 in
theorem l1Code_any (v : Value) (xs : List Int) (w : World) (h : Ints w v xs) (hl : xs.length ≤ 10) :
    Calls Try.prog 74 #[v] w (RetI w (cdL xs)) := by
  obtain ⟨p, cap, rfl, ⟨hx1, hx⟩, hxc⟩ := h
  unfold maxLen at hx
  obtain ⟨n, hn⟩ : ∃ n, n = xs.length := ⟨_, rfl⟩
  have hmk := run_make_row' (P := Try.prog) 24 3 (.int .i64 0) 8 Try.underlying24 info_int rfl .i64 .i64 n (by omega) (by omega)
  have Hn := Lib.hid hn
  rw [← hn] at hx1 hxc hl ⊢
  have Hxc := Lib.hid hxc
  clear hn hxc
  go_enter Try.func74, Try.ntmps74
  go_wp2_with fail
  go_loopg [4, 5] n (fun g s4 s5 wr => ∃ i : Nat, i ≤ n ∧ g = n - i ∧ s4 = .int .i64 i ∧ Hid (Below w.heap.size w wr) ∧ Hid (wr.rowIs w.heap.size 3 n (fun j => .int .i64 (cdF xs i 0 j : Nat))))
  case atStart =>
    refine ⟨0, Nat.zero_le _, rfl, rfl, Lib.hid (below_alloc _ _), Lib.hid ?_⟩
    exact (World.rowIs_made w (.int .i64 0) n 3).congr fun j _ => by
      unfold cdF cdK
      by_cases e : j = 0 <;> simp [e]
  case round =>
    obtain ⟨i, hi, rfl, rfl, hb, hrow⟩ := hrel
    by_cases hlt : i < n
    · have hlti : (i : Int) < (n : Int) := by omega
      obtain ⟨b, off, rfl, hc⟩ := Hxc.out (by omega)
      have Hc := Lib.hid hc
      obtain ⟨wo, rfl⟩ : ∃ x : World, x = wr := ⟨_, rfl⟩
      have Hb := Lib.hid hb.out
      have Hrow := Lib.hid hrow.out
      clear hc hb hrow
      go_wp2_with fail
      go_loopg [5] (n - (i + 1)) (fun g s5 wr => ∃ t : Nat, i + 1 + t ≤ n ∧ g = n - (i + 1) - t ∧ s5 = .int .i64 ((i : Int) + 1 + (t : Int)) ∧ Hid (Below w.heap.size w wr) ∧ Hid (wr.rowIs w.heap.size 3 n (fun j => .int .i64 (cdF xs i t j : Nat))))
      case atStart => exact ⟨0, by omega, rfl, by go_num, Hb, Hrow⟩
      case round =>
        obtain ⟨t, ht, rfl, rfl, hb, hrow⟩ := hrel
        by_cases htl : i + 1 + t < n
        · have hti : (i : Int) + 1 + (t : Int) < (n : Int) := by omega
          obtain ⟨x, hx'⟩ : ∃ x, x = xs.getD (i + 1 + t) 0 := ⟨_, rfl⟩
          obtain ⟨y, hy'⟩ : ∃ y, y = xs.getD i 0 := ⟨_, rfl⟩
          have c1 : wr.cell? ⟨b, off + (i + 1 + t), none⟩ = some (.int .i64 x) := by rw [hx']; exact cell_below hb.out (Hc.out (i + 1 + t) htl)
          have c2 : wr.cell? ⟨b, off + i, none⟩ = some (.int .i64 y) := by rw [hy']; exact cell_below hb.out (Hc.out i hlt)
          have hnat : ((i : Int) + 1 + (t : Int)).toNat = i + 1 + t := by omega
          have h0 : (0 : Int) ≤ (i : Int) + 1 + (t : Int) := by omega
          have d1 := hrow.out.cell hlt
          have d2 := hrow.out.frozen i
          obtain ⟨z, hz⟩ : ∃ z, z = cdF xs i t i := ⟨_, rfl⟩
          rw [← hz] at d1
          have hz2 : z = cdK xs i t := by rw [hz]; unfold cdF; rw [if_neg (Nat.lt_irrefl _), if_pos rfl]
          have hz3 : z ≤ 10 := by rw [hz2]; have := cdK_le xs i t; omega
          have Hx := Lib.hid hx'
          have Hy := Lib.hid hy'
          have Hz := Lib.hid hz2
          have Hb1 := Lib.hid hb.out
          have Hrow1 := Lib.hid hrow.out
          clear hx' hy' hz hz2 hb hrow
          go_wp2_with fail
          go_quiet (fail)
          have Hb2 := Lib.hid (Below.drewN Hb1.out nq)
          have Hrow2 := Lib.hid (show (wr.drewN nq).rowIs w.heap.size 3 n (fun j => .int .i64 (cdF xs i t j : Nat)) from Hrow1.out.of_block rfl)
          have d1' : (wr.drewN nq).cell? ⟨w.heap.size, i, none⟩ = some (.int .i64 (z : Int)) := d1
          have d2' : (wr.drewN nq).frozen? ⟨w.heap.size, i, none⟩ = false := d2
          generalize wr.drewN nq = wd at *
          by_cases hxy : x < y
          · have Hk := Lib.hid (show cdK xs i (t + 1) = z + 1 by rw [cdK_yes (by rw [← Hx.out, ← Hy.out]; exact hxy), Hz.out])
            go_wp2_with fail
            go_roundg (n - (i + 1) - (t + 1))
            case measure => omega
            case rel =>
              refine ⟨t + 1, by omega, rfl, by go_num, Lib.hid (Hb2.out.setCell (Nat.le_refl _) _), Lib.hid ((Hrow2.out.set i _).congr fun j _ => ?_)⟩
              by_cases e : j = i
              · subst e
                rw [if_pos rfl]
                unfold cdF
                rw [if_neg (Nat.lt_irrefl _), if_pos rfl, Hk.out]
                go_num
              · rw [if_neg e]
                unfold cdF
                rw [if_neg e, if_neg e]
          · have Hk := Lib.hid (show cdK xs i (t + 1) = cdK xs i t by rw [cdK_no (by rw [← Hx.out, ← Hy.out]; exact hxy)])
            go_wp2_with fail
            go_roundg (n - (i + 1) - (t + 1))
            case measure => omega
            case rel =>
              refine ⟨t + 1, by omega, rfl, by go_num, Hb2, Lib.hid (Hrow2.out.congr fun j _ => ?_)⟩
              unfold cdF
              rw [Hk.out]
        · have hti : ¬ (i : Int) + 1 + (t : Int) < (n : Int) := by omega
          have htn : t = n - (i + 1) := by omega
          have Hb1 := Lib.hid hb.out
          have Hrow1 := Lib.hid hrow.out
          have Htn := Lib.hid htn
          clear hb hrow htn
          go_wp2_with fail
          go_roundg (n - (i + 1))
          case measure => omega
          case rel =>
            refine ⟨i + 1, by omega, rfl, by go_num, Hb1, Lib.hid (Hrow1.out.congr fun j _ => ?_)⟩
            unfold cdF
            by_cases e1 : j < i
            · rw [if_pos e1, if_pos (show j < i + 1 by omega)]
            · by_cases e2 : j = i
              · subst e2
                rw [if_neg e1, if_pos rfl, if_pos (Nat.lt_succ_self j)]
                unfold cdA
                rw [← Hn.out, Htn.out]
              · rw [if_neg e1, if_neg e2, if_neg (show ¬ j < i + 1 by omega)]
                by_cases e3 : j = i + 1
                · rw [if_pos e3]; rfl
                · rw [if_neg e3]
    · obtain rfl : n = i := by omega
      have hlti : ¬ (n : Int) < (n : Int) := by omega
      have hr0 : wr.rowIs w.heap.size 3 n (iv (cdL xs)) := hrow.out.congr fun j hj => by
        rw [iv, cdL_getD (by rw [← Hn.out]; exact hj)]
        unfold cdF
        rw [if_pos hj]
      have ho := rowIs_ints (xs := cdL xs) (by rw [cdL_length, ← Hn.out]; exact hr0) (by rw [cdL_length, ← Hn.out]; unfold maxLen; omega)
      rw [cdL_length, ← Hn.out] at ho
      have Ho := Lib.hid ho
      clear ho hrow
      go_wp2_with fail
      go_ret
      exact ⟨_, rfl, Ho.out, hb.out⟩

end Go.Proofs.Ytllmhicmikpfeaa

namespace Go.Proofs.Ytllmhicmikpfeaa
set_option linter.all false
open Go.RowKit

/-- where the number j stands among the first k -/
def invK (xs : List Int) : Nat → Nat → Int
  | 0, _ => 0
  | k + 1, j => if (j : Int) = xs.getD k 0 then k else invK xs k j
def invL (xs : List Int) : List Int := (List.range xs.length).map (invK xs xs.length)
theorem invL_length (xs : List Int) : (invL xs).length = xs.length := by simp [invL]
theorem invL_getD {xs : List Int} {j : Nat} (h : j < xs.length) : (invL xs).getD j 0 = invK xs xs.length j := by simp [invL, List.getD_eq_getElem?_getD, h]

set_option maxRecDepth 100000 in
set_option maxHeartbeats 2000000 in
theorem specInverse_any (v : Value) (xs : List Int) (w : World) (h : Ints w v xs) (hp : permOk xs = true) :
    Calls Try.prog 78 #[v] w (RetI w (invL xs)) := by
  have Hh := Lib.hid h
  obtain ⟨q, cap, rfl, ⟨hx1, hx⟩, hxc⟩ := h
  obtain ⟨hl1, hl7, hr, _⟩ := of_decide_eq_true hp
  have Hr := Lib.hid hr
  obtain ⟨b, off, rfl, hc⟩ := hxc (by omega)
  have Hc := Lib.hid hc
  obtain ⟨N, hN⟩ : ∃ N, N = xs.length := ⟨_, rfl⟩
  have hmk := run_make_row' (P := Try.prog) 24 3 (.int .i64 0) 8 Try.underlying24 info_int rfl .i64 .i64 N (by omega) (by omega)
  rw [hN] at hmk
  unfold maxLen at hx
  clear hr hxc hp hc
  go_enter Try.func78, Try.ntmps78
  go_wp2_with fail
  go_loopg [4] xs.length (fun g s4 wr => ∃ k : Nat, k ≤ xs.length ∧ g = xs.length - k ∧ s4 = .int .i64 k ∧ Below w.heap.size w wr ∧ Hid (wr.rowIs w.heap.size 3 xs.length (fun j => .int .i64 (invK xs k j))))
  case atStart =>
    refine ⟨0, Nat.zero_le _, rfl, rfl, below_alloc _ _, ?_⟩
    exact (World.rowIs_made w (.int .i64 0) xs.length 3).congr fun j _ => by simp [invK]
  case round =>
    obtain ⟨k, hk, rfl, rfl, hbw, hrow⟩ := hrel
    by_cases hlt : k < xs.length
    · have hx0 := Hr.out _ (getD_mem hlt)
      obtain ⟨m, hm⟩ := Int.eq_ofNat_of_zero_le hx0.1
      have c1 : wr.cell? ⟨b, off + k, none⟩ = some (.int .i64 (m : Int)) := by
        rw [hbw.cell (p := ⟨b, off + k, none⟩) (World.block_lt_of_cell? _ _ (Hc.out k hlt)), Hc.out k hlt]; simp only [iv, hm]
      have hml : m < xs.length := by omega
      obtain ⟨z, c2⟩ : ∃ z, wr.cell? ⟨w.heap.size, m, none⟩ = some (.int .i64 z) := ⟨_, hrow.out.cell hml⟩
      have c3 := hrow.out.frozen m
      have i1 : (k : Int) < (xs.length : Int) := by omega
      have i2 : (m : Int) < (xs.length : Int) := by omega
      have Hm := Lib.hid hm
      have Hrow := Lib.hid hrow.out
      clear hx0 hm hrow
      go_wp2_with fail
      go_roundg (xs.length - (k + 1))
      case measure => omega
      case rel =>
        refine ⟨k + 1, by omega, rfl, by go_num, hbw.setCell (Nat.le_refl _) _, (Hrow.out.set m _).congr fun j hj => ?_⟩
        rw [invK, Hm.out]
        by_cases e : j = m
        · subst e; simp
        · simp [e, show ¬ (j : Int) = (m : Int) by omega]
    · obtain rfl : k = xs.length := by omega
      have i1 : ¬ (xs.length : Int) < (xs.length : Int) := by omega
      have ho := rowIs_ints (xs := invL xs) (by rw [invL_length]; exact hrow.out.congr fun j hj => by rw [iv, invL_getD hj]) (by rw [invL_length]; unfold maxLen; omega)
      rw [invL_length] at ho
      have Ho := Lib.hid ho
      clear ho hrow
      go_wp2_with fail
      go_ret
      exact ⟨_, rfl, Ho.out, hbw⟩

set_option maxRecDepth 100000 in
set_option maxHeartbeats 2000000 in
theorem implInverse_any (v : Value) (xs : List Int) (w : World) (h : Ints w v xs) (hp : permOk xs = true) :
    Calls Try.prog 18 #[v] w (RetI w (invL xs)) := by
  have Hh := Lib.hid h
  obtain ⟨q, cap, rfl, ⟨hx1, hx⟩, hxc⟩ := h
  obtain ⟨hl1, hl7, hr, _⟩ := of_decide_eq_true hp
  have Hp := Lib.hid hp
  have Hr := Lib.hid hr
  obtain ⟨b, off, rfl, hc⟩ := hxc (by omega)
  have Hc := Lib.hid hc
  obtain ⟨N, hN⟩ : ∃ N, N = xs.length := ⟨_, rfl⟩
  have hmk := run_make_row' (P := Try.prog) 24 3 (.int .i64 0) 8 Try.underlying24 info_int rfl .i64 .i64 N (by omega) (by omega)
  rw [hN] at hmk
  clear hN
  unfold maxLen at hx
  clear hr hxc hp hc
  go_enter Try.func18, Try.ntmps18
  go_wp2_with fail
  refine (implIsPerm_any _ xs _ Hh.out).mono ?_
  rintro e w1 ⟨rfl, hq⟩
  rw [Hp.out]
  have Hc1 := Lib.hid (fun j (hj : j < xs.length) => show w1.cell? ⟨b, off + j, none⟩ = some (iv xs j) by rw [hq.cell (World.block_lt_of_cell? _ _ (Hc.out j hj))]; exact Hc.out j hj)
  have Hq := Lib.hid hq
  clear hq
  go_wp2_with fail
  go_loopg [14] xs.length (fun g s14 wr => ∃ k : Nat, k ≤ xs.length ∧ g = xs.length - k ∧ s14 = .int .i64 k ∧ Below w1.heap.size w1 wr ∧ Hid (wr.rowIs w1.heap.size 3 xs.length (fun j => .int .i64 (invK xs k j))))
  case atStart =>
    refine ⟨0, Nat.zero_le _, rfl, rfl, below_alloc _ _, ?_⟩
    exact (World.rowIs_made w1 (.int .i64 0) xs.length 3).congr fun j _ => by simp [invK]
  case round =>
    obtain ⟨k, hk, rfl, rfl, hbw, hrow⟩ := hrel
    by_cases hlt : k < xs.length
    · have hx0 := Hr.out _ (getD_mem hlt)
      obtain ⟨m, hm⟩ := Int.eq_ofNat_of_zero_le hx0.1
      have c1 : wr.cell? ⟨b, off + k, none⟩ = some (.int .i64 (m : Int)) := by
        rw [hbw.cell (p := ⟨b, off + k, none⟩) (World.block_lt_of_cell? _ _ (Hc1.out k hlt)), Hc1.out k hlt]; simp only [iv, hm]
      have hml : m < xs.length := by omega
      obtain ⟨z, c2⟩ : ∃ z, wr.cell? ⟨w1.heap.size, m, none⟩ = some (.int .i64 z) := ⟨_, hrow.out.cell hml⟩
      have c3 := hrow.out.frozen m
      have i1 : (k : Int) < (xs.length : Int) := by omega
      have i2 : (m : Int) < (xs.length : Int) := by omega
      have Hm := Lib.hid hm
      have Hrow := Lib.hid hrow.out
      clear hx0 hm hrow
      go_wp2_with fail
      go_roundg (xs.length - (k + 1))
      case measure => omega
      case rel =>
        refine ⟨k + 1, by omega, rfl, by go_num, hbw.setCell (Nat.le_refl _) _, (Hrow.out.set m _).congr fun j hj => ?_⟩
        rw [invK, Hm.out]
        by_cases e : j = m
        · subst e; simp
        · simp [e, show ¬ (j : Int) = (m : Int) by omega]
    · obtain rfl : k = xs.length := by omega
      have i1 : ¬ (xs.length : Int) < (xs.length : Int) := by omega
      have ho := rowIs_ints (xs := invL xs) (by rw [invL_length]; exact hrow.out.congr fun j hj => by rw [iv, invL_getD hj]) (by rw [invL_length]; unfold maxLen; omega)
      rw [invL_length] at ho
      have Ho := Lib.hid (ho.mono Hq.out.size (Nat.le_refl _))
      clear ho hrow
      go_wp2_with fail
      go_ret
      exact ⟨_, rfl, Ho.out, Hq.out.trans (hbw.mono Hq.out.size)⟩


end Go.Proofs.Ytllmhicmikpfeaa

namespace Go.Proofs.Ytllmhicmikpfeaa
set_option linter.all false
open Go.RowKit

/-- the identity of n -/
def idL (n : Nat) : List Int := (List.range n).map fun (i : Nat) => (i : Int)
theorem idL_length (n : Nat) : (idL n).length = n := by simp [idL]
theorem idL_getD {n i : Nat} (h : i < n) : (idL n).getD i 0 = i := by simp [idL, List.getD_eq_getElem?_getD, h]
theorem idL_succ (n : Nat) : idL (n + 1) = idL n ++ [(n : Int)] := by simp [idL, List.range_succ]
theorem idL_ok {n : Nat} (h1 : 1 ≤ n) (h7 : n ≤ 7) : permOk (idL n) = true := by
  have : n = 1 ∨ n = 2 ∨ n = 3 ∨ n = 4 ∨ n = 5 ∨ n = 6 ∨ n = 7 := by omega
  rcases this with rfl | rfl | rfl | rfl | rfl | rfl | rfl <;> decide

set_option maxRecDepth 100000 in
set_option maxHeartbeats 2000000 in
theorem specIdentity_any (n : Nat) (w : World) (h1 : 1 ≤ n) (h7 : n ≤ 7) :
    Calls Try.prog 52 #[.int .i64 (n : Int)] w (RetI w (idL n)) := by
  have hin : Hid ((1 : Int) ≤ n ∧ (n : Int) ≤ 7) := ⟨by omega, by omega⟩
  go_enter Try.func52, Try.ntmps52
  go_wp2_with fail
  refine (l1In_yes _ _ _ _ hin.out).mono ?_
  rintro e w' ⟨rfl, rfl⟩
  go_wp2_with fail
  go_loopg [3, 4] n (fun g s3 s4 wr => ∃ i : Nat, i ≤ n ∧ g = n - i ∧ s4 = .int .i64 i ∧ Hid (Below w.heap.size w wr) ∧ Hid (OwnI 3 wr w.heap.size wr.heap.size s3 (idL i)))
  case atStart =>
    refine ⟨0, Nat.zero_le _, rfl, rfl, below_alloc w _, ?_⟩
    exact OwnF.ints ((OwnF.made0 w 3 (iv [])).mono (Nat.le_refl _) (by simp))
  case round =>
    obtain ⟨i, hi, rfl, rfl, hb, ho⟩ := hrel
    have hsr := hb.out.size
    by_cases hlt : i < n
    · have hlt2 : (i : Int) < (n : Int) := by omega
      obtain ⟨p5, k5, rfl, _, _⟩ := ho.out.shape
      have hofn := ho.out.fn
      rw [idL_length] at hofn ⊢
      have Ho := Lib.hid hofn
      have Hb := Lib.hid hb.out
      have Hb1 := Lib.hid (show i + 1 ≤ maxLen by unfold maxLen; omega)
      have Hb2 := Lib.hid (show (i + 1) * 8 ≤ 140737488355328 by omega)
      clear ho hofn hb
      go_wp2_with (at_builtin; go_must (refine wpList_append_F rfl (.tmp 14) (.tmp 16) 24 rfl 3 (.int .i64 0) 8 Try.underlying24 info_int rfl w.heap.size wr.heap.size _ i (iv (idL i)) rfl (Ho.out.below (below_alloc wr _)) (by rw [size_alloc]; omega) (by rw [size_alloc]; omega) _ 1 _ rfl (rd_one _ _ _ rfl) (fun j _ => rfl) Hb1.out Hb2.out ?_; intro v2 w2 ho2 hg2))
      go_roundg (n - (i + 1))
      case measure => omega
      case rel =>
        have hbx : Below w.heap.size wr w2 := ((below_alloc wr _).mono (by omega)).trans (grownBy_below hg2 Ho.out.blocks (Nat.le_refl _) (by rw [size_alloc]; omega))
        refine ⟨i + 1, by omega, rfl, by go_num, Hb.out.trans hbx, ?_⟩
        rw [idL_succ]
        exact OwnI.snoc1 (by rw [idL_length]; exact ho2)
    · obtain rfl : i = n := by omega
      have hlt2 : ¬ (i : Int) < (i : Int) := by omega
      have Ho := Lib.hid ho.out
      have Hb := Lib.hid hb.out
      clear ho hb
      go_wp2_with fail
      go_ret
      exact ⟨_, rfl, Ho.out, Hb.out⟩


end Go.Proofs.Ytllmhicmikpfeaa

namespace Go.Proofs.Ytllmhicmikpfeaa
set_option linter.all false
open Go.RowKit

def lnK (xs : List Int) : Nat → Nat
  | 0 => 0
  | k + 1 => lnK xs k + cdA xs k
/-- how many inversions -/
def lnN (xs : List Int) : Nat := lnK xs xs.length
theorem lnK_le (xs : List Int) (h : xs.length ≤ 10) : ∀ k, k ≤ xs.length → lnK xs k ≤ k * 10
  | 0, _ => Nat.le_refl _
  | k + 1, hk => by
    have a := lnK_le xs h k (by omega)
    have b := cdK_le xs k (xs.length - (k + 1))
    rw [lnK]
    unfold cdA
    omega
/-- the first place where a list goes down -/
def fdN (b : List Int) : Nat := ((List.range (b.length - 1)).find? fun k => !ascB k b).getD 0
def frN (w : List Int) : Nat := fdN (invL w)
/-- the values k and k + 1 exchanged -/
def frV (w : List Int) (k : Nat) : List Int := (w.set ((invL w).getD k 0).toNat ((k + 1 : Nat) : Int)).set ((invL w).getD (k + 1) 0).toNat (k : Int)
def frS (w : List Int) : List Int := frV w (frN w)
def firL : Nat → List Int → List Nat
  | 0, _ => []
  | f + 1, w => frN w :: firL f (frS w)
/-- the word of the reference -/
def fstL (w : List Int) : List Nat := firL (lnN w) w
/-- a word played -/
def play (r : List Nat) (u : List Int) : List Int := r.foldl (fun u k => sw k u) u

def firB (w : List Int) : Bool := decide (lnN w = 0) || (decide (frN w + 1 < w.length) && !ascB (frN w) (invL w) && (List.range (frN w)).all (fun j => ascB j (invL w)) && permOk (frS w) && decide (lnN (frS w) + 1 = lnN w) && (invL w).all (fun x => decide (0 ≤ x ∧ x < (w.length : Int))))
def wrdB (w : List Int) : Bool := decide (play (fstL w) (idL w.length) = w) && (fstL w).all (fun k => decide (k + 1 < w.length)) && decide ((fstL w).length ≤ 10) && decide (lnN w + upN w = w.length * (w.length - 1) / 2)
set_option maxRecDepth 100000 in
theorem fir_all : all5 firB = true := by decide +kernel
set_option maxRecDepth 100000 in
theorem wrd_all : all5 wrdB = true := by decide +kernel
structure FirAt (w : List Int) : Prop where
  lt : frN w + 1 < w.length
  down : ascB (frN w) (invL w) = false
  up : ∀ j, j < frN w → ascB j (invL w) = true
  ok : permOk (frS w) = true
  less : lnN (frS w) + 1 = lnN w
  rng : ∀ j, j < w.length → ∃ m : Nat, (invL w).getD j 0 = (m : Int) ∧ m < w.length
theorem fir_at {n : Nat} {w : List Int} (h : P5 n w) (h0 : lnN w ≠ 0) : FirAt w := by
  have := all5_at fir_all h.ok (by have := h.len; have := h.le; omega)
  unfold firB at this
  rw [decide_eq_false h0, Bool.false_or] at this
  simp only [Bool.and_eq_true, decide_eq_true_eq, List.all_eq_true, List.mem_range] at this
  obtain ⟨⟨⟨⟨⟨h1, h2⟩, h3⟩, h4⟩, h5⟩, h6⟩ := this
  refine ⟨h1, by simpa using h2, h3, h4, h5, fun j hj => ?_⟩
  have := h6 _ (getD_mem (show j < (invL w).length by rw [invL_length]; exact hj))
  exact ⟨((invL w).getD j 0).toNat, by omega, by omega⟩
theorem wrd_at {n : Nat} {w : List Int} (h : P5 n w) : play (fstL w) (idL n) = w ∧ (∀ k ∈ fstL w, k + 1 < n) ∧ (fstL w).length ≤ 10 ∧ lnN w + upN w = n * (n - 1) / 2 := by
  have := all5_at wrd_all h.ok (by have := h.len; have := h.le; omega)
  unfold wrdB at this
  rw [h.len] at this
  simp only [Bool.and_eq_true, decide_eq_true_eq, List.all_eq_true] at this
  exact ⟨this.1.1.1, this.1.1.2, this.1.2, this.2⟩
theorem P5.mk' {w : List Int} (h : permOk w = true) (h5 : w.length ≤ 5) : P5 w.length w := ⟨h, rfl, h5⟩
theorem P5.rng {n : Nat} {w : List Int} (h : P5 n w) {j : Nat} (hj : j < n) : ∃ m : Nat, w.getD j 0 = (m : Int) ∧ m < n := by
  have hp := h.ok
  simp only [permOk, decide_eq_true_eq] at hp
  have := hp.2.2.1 _ (getD_mem (show j < w.length by rw [h.len]; exact hj))
  rw [h.len] at this
  exact ⟨(w.getD j 0).toNat, by omega, by omega⟩
theorem P5.id {n : Nat} (h1 : 1 ≤ n) (h5 : n ≤ 5) : P5 n (idL n) := ⟨idL_ok h1 (by omega), idL_length n, h5⟩

end Go.Proofs.Ytllmhicmikpfeaa
