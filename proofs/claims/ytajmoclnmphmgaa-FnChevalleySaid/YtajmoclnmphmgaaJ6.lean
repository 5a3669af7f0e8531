/-
  The reference's l8Perms and AllPerms.
  Many rows put behind others.
  The plain law of AllPerms: the program's list of permutations is the reference's.
  Values at fixed points: the numbers for them, and what IsGkm asks. Plain.
  slices.IndexFunc for a number other than 0, impl.pivot, impl.scaledTo1.
  More on a region that draws its order and makes a box somewhere in it: where the box lies when it is made first, and what a write into it leaves.
  l1Ints, l7Copy, l7Inverse, l7Top.
  What the reference asks of numbers and values; its exchange of two places, codes and places.
  The program's exchange of two places.
-/
import Derived.Test.YtajmoclnmphmgaaJ5
import Derived.Test.YtajmoclnmphmgaaJ4
import Derived.BigRegion
namespace Go.Proofs.Ytajmoclnmphmgaa
set_option linter.all false
open Go.RowKit

/-- x divided by 1, 2, .., j -/
def restAt (x : Nat) : Nat → Nat
  | 0 => x
  | j + 1 => restAt x j / (j + 1)
def digits (n x : Nat) : List Nat := (List.range n).map fun i => restAt x (n - 1 - i) % (n - i)
def permsL (n : Nat) : List (List Int) := (List.range (fact n)).map fun x => decL n (digits n x)
theorem restAt_le (x j : Nat) : restAt x j ≤ x := by
  induction j with
  | zero => exact Nat.le_refl _
  | succ j ih => exact Nat.le_trans (Nat.div_le_self _ _) ih
theorem digits_getD {n x t : Nat} (h : t < n) : (digits n x).getD t 0 = restAt x (n - 1 - t) % (n - t) := by simp [digits, List.getD_eq_getElem?_getD, h]
theorem digits_le (n x : Nat) : ∀ c ∈ digits n x, c ≤ x := by
  intro c hc
  simp only [digits, List.mem_map, List.mem_range] at hc
  obtain ⟨i, _, rfl⟩ := hc
  exact Nat.le_trans (Nat.mod_le _ _) (restAt_le _ _)
theorem permsL_take {n x : Nat} (h : x < fact n) : (permsL n).take (x + 1) = (permsL n).take x ++ [decL n (digits n x)] := by
  rw [List.take_add_one]
  congr 1
  simp [permsL, h]
theorem digits_length (n x : Nat) : (digits n x).length = n := by simp [digits]

set_option maxRecDepth 100000 in
set_option maxHeartbeats 2000000 in
theorem specPerms_any (n : Nat) (hn1 : 1 ≤ n) (hn : n ≤ 5) (w : World) :
    Calls Try.prog 60 #[.int .i64 n] w (RetII w (permsL n)) := by
  have hfn : fact n ≤ 120 := Nat.le_trans (fact_le hn) (by decide)
  have hmk := run_make_row' (P := Try.prog) 22 3 (.int .i64 0) 8 Try.underlying22 info_int rfl .i64 .i64 n (by omega) (by omega)
  have Hfn := Lib.hid hfn
  have Hmk := Lib.hid hmk
  clear hmk
  go_enter Try.func60, Try.ntmps60
  go_wp2
  go_loopg [3, 4] (fact n) (fun g s3 i wr => ∃ (x : Nat) (rows : List (List Int)), x ≤ fact n ∧ g = fact n - x ∧ i = .int .i64 x ∧ Below w.heap.size w wr ∧ Hid (rows = (permsL n).take x) ∧ Hid (OwnII 22 3 wr w.heap.size wr.heap.size s3 rows))
  case atStart =>
    refine ⟨0, [], Nat.zero_le _, rfl, rfl, below_alloc _ _, rfl, ?_⟩
    exact ⟨fun _ => undef, ((OwnF.made0 w _ _)).mono (Nat.le_refl _) (by simp), fun i hi => absurd hi (by simp), fun i j _ hj => absurd hj (by simp)⟩
  case round =>
    obtain ⟨x, rows, hx, rfl, rfl, hb, hr, ho⟩ := hrel
    have hlen : rows.length = x := by rw [hr.out, List.length_take]; simp [permsL]; omega
    obtain ⟨wo, rfl⟩ : ∃ x : World, x = wr := ⟨_, rfl⟩
    obtain ⟨p3, k3, rfl, _, _⟩ := ho.out.shape
    have Hlen := Lib.hid hlen
    clear hlen
    by_cases hlt : x < fact n
    · go_wp2_with fail
      refine (specFactorial_any n (by omega) _).mono ?_
      rintro e w1 ⟨rfl, hq⟩
      have Hq := Lib.hid hq
      clear hq
      have hmk := Hmk.out
      go_wp2
      clear hmk
      obtain ⟨wq, rfl⟩ : ∃ x : World, x = w1 := ⟨_, rfl⟩
      go_loopg [6, 7] n (fun g s6 s7 wr => ∃ j : Nat, j ≤ n ∧ g = n - j ∧ s6 = .int .i64 (restAt x j) ∧ s7 = .int .i64 ((n : Int) - 1 - j) ∧ Below wq.heap.size wq wr ∧ wr.heap.size = wq.heap.size + 1 ∧
        Hid (wr.rowIs wq.heap.size 3 n (fun t => .int .i64 (if n - j ≤ t then ((digits n x).getD t 0 : Nat) else 0))))
      case atStart => exact ⟨0, Nat.zero_le _, rfl, rfl, by simp, below_alloc _ _, by simp, (World.rowIs_made wq (.int .i64 0) n 3).congr fun t ht => by simp [show ¬ n ≤ t by omega]⟩
      case round =>
        obtain ⟨j, hj, rfl, rfl, rfl, hb2, hsz, hrow⟩ := hrel
        by_cases hjlt : j < n
        · obtain ⟨I, hI⟩ : ∃ I : Nat, (n : Int) - 1 - j = I := ⟨n - 1 - j, by omega⟩
          have hIn : I < n := by omega
          rw [hI]
          obtain ⟨J, hJ⟩ : ∃ J : Int, J = (n : Int) - I := ⟨_, rfl⟩
          have hJ1 : 1 ≤ J := by omega
          have hJ2 : J ≤ 5 := by omega
          have hR := restAt_le x j
          generalize hRR : restAt x j = R at hR
          have HRR := Lib.hid hRR
          have HI := Lib.hid hI
          have hfz := hrow.out.frozen I
          have hcl := hrow.out.cell hIn
          clear hRR hI
          go_wp2
          go_roundg (n - (j + 1))
          case measure => omega
          case rel =>
            have hi := HI.out
            have eJ : ((n : Int) - I) = ((j + 1 : Nat) : Int) := by omega
            have hI3 : n - I = j + 1 := by omega
            have hI4 : n - 1 - I = j := by omega
            refine ⟨j + 1, by omega, rfl, ?_, ?_, hb2.setCell (Nat.le_refl _) _, by rw [size_setCell]; exact hsz, (hrow.out.set I _).congr fun t ht => ?_⟩
            · rw [eJ, ← Int.natCast_ediv, show restAt x (j + 1) = R / (j + 1) by rw [← HRR.out]; rfl]
              have hq := Nat.div_le_self R (j + 1)
              have := Hfn.out
              generalize R / (j + 1) = Q at hq ⊢
              rw [w64 (by omega) (by omega)]
            · go_num
            · by_cases e : t = I
              · subst e
                rw [if_pos rfl, if_pos (by omega), digits_getD hIn, hI4, hI3, HRR.out, eJ, ← Int.natCast_emod]
              · simp only [e, if_false]
                by_cases h2 : n - j ≤ t
                · rw [if_pos h2, if_pos (by omega)]
                · rw [if_neg h2, if_neg (by omega)]
        · have hj2 : j = n := by omega
          rw [hj2] at hrow
          have hI : Hid (Ints wr (.slice (some ⟨wq.heap.size, 0, none⟩) n n) ((digits n x).map Int.ofNat)) := by
            refine ⟨some ⟨wq.heap.size, 0, none⟩, n, by simp [digits_length], ⟨by simp [digits_length], by unfold maxLen; omega⟩, fun _ => ⟨_, 0, rfl, fun t ht => ?_⟩⟩
            rw [List.length_map, digits_length] at ht
            rw [Nat.zero_add, hrow.out.cell ht, if_pos (by omega)]
            simp [iv, List.getD_eq_getElem?_getD, digits_length, ht]
          have hbw : Below wo.heap.size wo wr := (Hq.out.below _).trans (by have := Hq.out.size; rw [← this]; exact hb2)
          have Hbw := Lib.hid hbw
          have Hszq := Lib.hid Hq.out.size
          have hx120 := Hfn.out
          have Hdl := Lib.hid (digits_le n x)
          clear hrow hb2 hbw hsz hj2
          go_wp2_with fail
          refine (specDecode_any _ (digits n x) _ hI.out (by rw [digits_length]; omega) (fun c hc => by have := Hdl.out c hc; omega)).mono ?_
          rintro e w5 ⟨u5, rfl, ho5, hb5⟩
          rw [digits_length] at ho5
          obtain ⟨p5, k5, rfl, _, _⟩ := ho5.shape
          obtain ⟨f, g1, g2, g3⟩ := ho.out
          have hbx : Below wo.heap.size wo w5 := Hbw.out.trans (hb5.mono Hbw.out.size)
          have Hbx := Lib.hid hbx
          have G1 := Lib.hid (g1.below hbx)
          have G2 := Lib.hid (fun i hi => (g2 i hi).below hbx)
          have G3 := Lib.hid g3
          have H5 := Lib.hid (ho5.mono Hbw.out.size (Nat.le_refl _))
          have hlx := Hlen.out
          have Hb1 := Lib.hid (show rows.length + 1 ≤ maxLen by unfold maxLen; omega)
          have Hb2 := Lib.hid (show (rows.length + 1) * 24 ≤ 140737488355328 by omega)
          have hs1 := hb.size
          have hs5 := hbx.size
          have hnew := permsL_take hlt
          rw [← hr.out] at hnew
          have Hnew := Lib.hid hnew
          clear hnew
          generalize decL n (digits n x) = new at *
          clear g1 g2 g3 ho5 hbx hb5 hlx
          go_wp2_with (at_builtin; go_must (refine wpList_append_F rfl (.tmp 37) (.tmp 40) 47 rfl 22 (.slice none 0 0) 24 Try.underlying47 info_sl rfl w.heap.size wo.heap.size _ rows.length f rfl (G1.out.below (below_alloc _ _)) (by simp; omega) (by simp; omega) _ _ _ rfl (rd_one _ _ _ rfl) (fun j _ => rfl) Hb1.out Hb2.out ?_; intro v' w' ho' hg'))
          have hsw' := hg'.size
          simp only [size_alloc] at hsw'
          have hblow : Below w.heap.size wo w' := (Hbx.out.mono hs1).trans (((below_alloc w5 _).mono (by omega)).trans (grownBy_below hg' G1.out.blocks (Nat.le_refl _) (by simp; omega)))
          go_roundg (fact n - (x + 1))
          case measure => omega
          case rel =>
            refine ⟨x + 1, rows ++ [new], by omega, rfl, by go_num, hb.trans hblow, ?_, ?_⟩
            · exact Hnew.out.symm
            · exact OwnII.snoc (G1.out.below (below_alloc _ _)) (fun i hi => (G2.out i hi).below (below_alloc _ _)) G3.out (H5.out.below (below_alloc _ _)) hs1 hs5 (by decide) hg' (by omega) ho'
    · go_wp2_with fail
      refine (specFactorial_any n (by omega) _).mono ?_
      rintro e w1 ⟨rfl, hq⟩
      have Hq := Lib.hid hq
      clear hq
      go_wp2_with fail
      go_ret
      obtain rfl : x = fact n := by omega
      refine ⟨_, rfl, ?_, hb.trans (Hq.out.below _)⟩
      have e : rows = permsL n := by rw [hr.out, List.take_of_length_le (by simp [permsL])]
      rw [← e, Hq.out.size]
      exact ho.out.below (Hq.out.below _)

theorem ownII_nil (w : World) (lo hi : Nat) : OwnII 22 3 w lo hi (.slice none 0 0) [] :=
  ⟨fun _ => undef, OwnF.nil _ _ _ _ _, fun i hi => absurd hi (Nat.not_lt_zero _), fun i j _ hj => absurd hj (Nat.not_lt_zero _)⟩
def allPermsL (N : Int) : List (List Int) := if 1 ≤ N ∧ N ≤ 5 then permsL N.toNat else []

end Go.Proofs.Ytajmoclnmphmgaa

namespace Go.Proofs.Ytajmoclnmphmgaa
set_option linter.all false
open Go.RowKit

/-- rows of their own (lo .. mid-1, then mid .. hi-1) stand one behind the other in a slice that an append made -/
theorem OwnII.join {Ts Ti : TypeId} {w w' : World} {lo mid hi : Nat} {v v' : Value} {rows rows2 : List (List Int)} {f g : Nat → Value}
    (g1 : OwnF w lo mid Ts v rows.length f) (g2 : ∀ i, i < rows.length → OwnI Ti w lo mid (f i) (rows.getD i []))
    (g3 : ∀ i j, i < j → j < rows.length → ∀ k, (f i).ownBlock = some k → (f j).ownBlock ≠ some k)
    (h2 : ∀ i, i < rows2.length → OwnI Ti w mid hi (g i) (rows2.getD i []))
    (h3 : ∀ i j, i < j → j < rows2.length → ∀ k, (g i).ownBlock = some k → (g j).ownBlock ≠ some k)
    (hm : lo ≤ mid) (hmh : mid ≤ hi) (hT : Ts ≠ Ti) (hg : w.grownBy w' v.ownBlock) (hsz : hi ≤ w'.heap.size)
    (hv : OwnF w' lo w'.heap.size Ts v' (rows.length + rows2.length) (fun j => if j < rows.length then f j else g (j - rows.length))) :
    OwnII Ts Ti w' lo w'.heap.size v' (rows ++ rows2) := by
  have hrow : ∀ (y : Value) (ys : List Int) (lo1 hi1 : Nat), OwnI Ti w lo1 hi1 y ys → OwnI Ti w' lo1 hi1 y ys := fun y ys lo1 hi1 hy =>
    ⟨ownsRow_of_block hy.1 fun k hk => hg.block k (Own.block hy hk).2.2 fun e => own_types g1 hy hT e.symm hk, hy.2⟩
  refine ⟨_, by rw [List.length_append]; exact hv, fun i hi => ?_, fun i j hij hj k hk => ?_⟩
  · rw [List.length_append] at hi
    by_cases hlt : i < rows.length
    · have e : (rows ++ rows2).getD i [] = rows.getD i [] := by simp [List.getD_eq_getElem?_getD, List.getElem?_append_left hlt]
      simp only [hlt, if_true]
      rw [e]
      exact (hrow _ _ _ _ (g2 i hlt)).mono (Nat.le_refl _) (by omega)
    · have e : (rows ++ rows2).getD i [] = rows2.getD (i - rows.length) [] := by
        simp [List.getD_eq_getElem?_getD, List.getElem?_append_right (Nat.le_of_not_lt hlt)]
      simp only [hlt, if_false]
      rw [e]
      exact (hrow _ _ _ _ (h2 _ (by omega))).mono hm hsz
  · rw [List.length_append] at hj
    by_cases hlt : j < rows.length
    · simp only [hlt, if_true]
      simp only [show i < rows.length by omega, if_true] at hk
      exact g3 i j hij hlt k hk
    · simp only [hlt, if_false]
      by_cases hil : i < rows.length
      · simp only [hil, if_true] at hk
        intro e
        have h5 := (Own.block (g2 i hil) hk).2.1
        have h6 := (Own.block (h2 _ (by omega)) e).1
        omega
      · simp only [hil, if_false] at hk
        exact h3 _ _ (by omega) (by omega) k hk

theorem OwnI.snoc1 {T : TypeId} {w : World} {lo hi : Nat} {v : Value} {out : List Int} {x : Int} (h : OwnF w lo hi T v (out.length + 1) (fun j => if j < out.length then iv out j else .int .i64 x)) : OwnI T w lo hi v (out ++ [x]) := by
  refine OwnF.ints ?_
  rw [List.length_append]
  exact h.congr fun j hj => by
    by_cases h : j < out.length
    · simp [h, iv, List.getD_eq_getElem?_getD, List.getElem?_append_left h]
    · have : j = out.length := by omega
      subst this
      simp [iv, List.getD_eq_getElem?_getD]

theorem flatMap_len {α : Type} (g : Nat → List α) (b : Nat) (h : ∀ x, (g x).length ≤ b) : ∀ n, ((List.range n).flatMap g).length ≤ n * b
  | 0 => by simp
  | n + 1 => by
    rw [List.range_succ, List.flatMap_append, List.length_append, Nat.succ_mul]
    have := flatMap_len g b h n
    have h2 := h n
    simp only [List.flatMap_cons, List.flatMap_nil, List.append_nil]
    omega

theorem flatMap_snoc {α : Type} (g : Nat → List α) (n : Nat) : (List.range (n + 1)).flatMap g = (List.range n).flatMap g ++ g n := by
  rw [List.range_succ, List.flatMap_append]
  simp

end Go.Proofs.Ytajmoclnmphmgaa

namespace Go.Proofs.Ytajmoclnmphmgaa
set_option linter.all false
open Go.RowKit

/-- all lists of numbers below n that are chosen without repeating, behind those that are chosen -/
def allL (n : Nat) : Nat → List Int → List (List Int)
  | 0, ch => [ch]
  | f + 1, ch => (List.range n).flatMap fun (x : Nat) => if (x : Int) ∈ ch then [] else allL n f (ch ++ [(x : Int)])

theorem allL_len (n : Nat) : ∀ f ch, (allL n f ch).length ≤ n ^ f
  | 0, ch => by simp [allL]
  | f + 1, ch => by
    rw [allL, Nat.pow_succ, Nat.mul_comm]
    refine flatMap_len _ _ (fun x => ?_) n
    split
    · simp
    · exact allL_len n f _

set_option maxRecDepth 100000 in
theorem allL_perms (n : Nat) (h1 : 1 ≤ n) (h5 : n ≤ 5) : allL n n [] = permsL n := by
  have : n = 1 ∨ n = 2 ∨ n = 3 ∨ n = 4 ∨ n = 5 := by omega
  rcases this with rfl | rfl | rfl | rfl | rfl <;> decide +kernel

end Go.Proofs.Ytajmoclnmphmgaa

namespace Go.Proofs.Ytajmoclnmphmgaa
set_option linter.all false
open Go.RowKit

/-- there is a number for each place -/
def nmOk (N : Int) (y : List Int) : Bool := decide (1 ≤ N) && decide (N ≤ 5) && decide ((y.length : Int) = N) && decide (∀ x ∈ y, -9 ≤ x ∧ x ≤ 9)
def shiftB (N : Int) (y : List Int) : Bool := decide ((y.length : Int) = N) && decide (∀ x ∈ y, -9 ≤ x ∧ x ≤ 9)
/-- the numbers are different -/
def apOk (N : Int) (y : List Int) : Bool := nmOk N y && decide (N ≤ 4) && decide y.Nodup
def mostB (vs : List Int) : Bool := decide (∀ x ∈ vs, -1000000000000 ≤ x ∧ x ≤ 1000000000000)
/-- a list with the numbers at two places exchanged -/
def swapL (w : List Int) (i j : Nat) : List Int := (w.set i (w.getD j 0)).set j (w.getD i 0)
theorem swapL_length (w : List Int) (i j : Nat) : (swapL w i j).length = w.length := by simp [swapL]
theorem swapL_getD {w : List Int} {i j t : Nat} (hi : i < w.length) (hj : j < w.length) : (swapL w i j).getD t 0 = if t = j then w.getD i 0 else if t = i then w.getD j 0 else w.getD t 0 := by
  unfold swapL
  by_cases e1 : t = j
  · subst e1
    rw [if_pos rfl, List.getD_eq_getElem?_getD, List.getElem?_set_self (by simpa using hj)]
    rfl
  · rw [if_neg e1, List.getD_eq_getElem?_getD, List.getElem?_set_ne (fun h => e1 h.symm)]
    by_cases e2 : t = i
    · subst e2
      rw [if_pos rfl, List.getElem?_set_self hi]
      rfl
    · rw [if_neg e2, List.getElem?_set_ne (fun h => e2 h.symm), ← List.getD_eq_getElem?_getD]
theorem swapL_comm {w : List Int} {i j : Nat} (hi : i < w.length) (hj : j < w.length) : swapL w i j = swapL w j i := by
  refine getD_eq_list (by rw [swapL_length, swapL_length]) fun t _ => ?_
  rw [swapL_getD hi hj, swapL_getD hj hi]
  by_cases e1 : t = j
  · by_cases e2 : t = i
    · rw [if_pos e1, if_pos e2, ← e1, ← e2]
    · rw [if_pos e1, if_neg e2, if_pos e1]
  · by_cases e2 : t = i
    · rw [if_neg e1, if_pos e2, if_pos e2]
    · rw [if_neg e1, if_neg e2, if_neg e2, if_neg e1]
/-- the code of a list, and its place among the permutations -/
def cdK (xs : List Int) (i t : Nat) : Nat := ((List.range t).filter fun (s : Nat) => decide (xs.getD (i + 1 + s) 0 < xs.getD i 0)).length
def cdA (xs : List Int) (i : Nat) : Nat := cdK xs i (xs.length - (i + 1))
def plA (xs : List Int) : Nat → Nat
  | 0 => 0
  | i + 1 => plA xs i * (xs.length - i) + cdA xs i
def plN (xs : List Int) : Nat := plA xs xs.length
/-- one list comes before another one -/
def ltL : List Int → List Int → Bool
  | [], [] => false
  | [], _ :: _ => true
  | _ :: _, [] => false
  | x :: xs, y :: ys => if x < y then true else if y < x then false else ltL xs ys
def gkChk (n : Nat) : Bool :=
  (List.range (fact n)).all fun x => decide (((permsL n).getD x []).length = n) && ((permsL n).getD x []).all (fun v => decide (0 ≤ v ∧ v < (n : Int))) && decide (((permsL n).getD x []).Nodup) &&
    (List.range n).all (fun j => (List.range j).all fun i => decide (plN (swapL ((permsL n).getD x []) i j) < fact n) && decide ((permsL n).getD (plN (swapL ((permsL n).getD x []) i j)) [] = swapL ((permsL n).getD x []) i j)) &&
    (List.range (fact n)).all fun z => decide (ltL ((permsL n).getD x []) ((permsL n).getD z []) = decide (x < z))
set_option maxRecDepth 100000 in
theorem gk_all : gkChk 1 = true ∧ gkChk 2 = true ∧ gkChk 3 = true ∧ gkChk 4 = true := by decide +kernel
structure GkN (n : Nat) : Prop where
  len : ∀ x, x < fact n → ((permsL n).getD x []).length = n
  rng : ∀ x t, x < fact n → t < n → ∃ m : Nat, ((permsL n).getD x []).getD t 0 = (m : Int) ∧ m < n
  inj : ∀ x s t, x < fact n → s < t → t < n → ((permsL n).getD x []).getD s 0 ≠ ((permsL n).getD x []).getD t 0
  plc : ∀ x i j, x < fact n → i < j → j < n → plN (swapL ((permsL n).getD x []) i j) < fact n ∧ (permsL n).getD (plN (swapL ((permsL n).getD x []) i j)) [] = swapL ((permsL n).getD x []) i j
  lt : ∀ x z, x < fact n → z < fact n → ltL ((permsL n).getD x []) ((permsL n).getD z []) = decide (x < z)
theorem gkN {n : Nat} (h1 : 1 ≤ n) (h4 : n ≤ 4) : GkN n := by
  have hc : gkChk n = true := by
    have : n = 1 ∨ n = 2 ∨ n = 3 ∨ n = 4 := by omega
    rcases this with rfl | rfl | rfl | rfl
    · exact gk_all.1
    · exact gk_all.2.1
    · exact gk_all.2.2.1
    · exact gk_all.2.2.2
  unfold gkChk at hc
  simp only [List.all_eq_true, List.mem_range, Bool.and_eq_true, decide_eq_true_eq] at hc
  refine ⟨fun x hx => (hc x hx).1.1.1.1, fun x t hx ht => ?_, fun x s t hx hs ht e => ?_, fun x i j hx hi hj => (hc x hx).1.2 j hj i hi, fun x z hx hz => (hc x hx).2 z hz⟩
  · have hl := (hc x hx).1.1.1.1
    have := (hc x hx).1.1.1.2 _ (getD_mem (show t < ((permsL n).getD x []).length by omega))
    exact ⟨(((permsL n).getD x []).getD t 0).toNat, by omega, by omega⟩
  · have hl := (hc x hx).1.1.1.1
    have hn := (hc x hx).1.1.2
    have a : s < ((permsL n).getD x []).length := by omega
    have b : t < ((permsL n).getD x []).length := by omega
    rw [getD_lt a, getD_lt b] at e
    exact List.pairwise_iff_getElem.1 hn s t a b hs e

/-- the condition at one place and two numbers -/
def gkAt (n : Nat) (vs y : List Int) (x i j : Nat) : Prop :=
  (vs.getD x 0 - vs.getD (plN (swapL ((permsL n).getD x []) i j)) 0).tmod (y.getD (((permsL n).getD x []).getD i 0).toNat 0 - y.getD (((permsL n).getD x []).getD j 0).toNat 0) = 0
/-- what IsGkm says -/
def GkIs (N : Int) (vs y : List Int) (b : Bool) : Prop :=
  b = true ↔ apOk N y = true ∧ vs.length = fact N.toNat ∧ mostB vs = true ∧ ∀ x i j, x < fact N.toNat → i < j → j < N.toNat → gkAt N.toNat vs y x i j
theorem GkIs.one {N : Int} {vs y : List Int} {b b' : Bool} (h : GkIs N vs y b) (h' : GkIs N vs y b') : b = b' := by
  unfold GkIs at h h'
  have e : b = true ↔ b' = true := h.trans h'.symm
  cases b <;> cases b' <;> simp_all
theorem GkIs.eps {N : Int} {vs y : List Int} {b : Bool} (h : GkIs N vs y b) : b = Classical.epsilon (GkIs N vs y) := h.one (Classical.epsilon_spec ⟨b, h⟩)
theorem GkIs.no1 {N : Int} {vs y : List Int} (h : apOk N y = false) : GkIs N vs y false := ⟨fun e => (by cases e), fun e => by rw [h] at e; cases e.1⟩
theorem GkIs.no2 {N : Int} {vs y : List Int} (h : ¬ vs.length = fact N.toNat) : GkIs N vs y false := ⟨fun e => (by cases e), fun e => absurd e.2.1 h⟩
theorem GkIs.no3 {N : Int} {vs y : List Int} (h : mostB vs = false) : GkIs N vs y false := ⟨fun e => (by cases e), fun e => by have := e.2.2.1; rw [h] at this; cases this⟩
theorem GkIs.no4 {N : Int} {vs y : List Int} {x i j : Nat} (h1 : x < fact N.toNat) (h2 : i < j) (h3 : j < N.toNat) (h : ¬ gkAt N.toNat vs y x i j) : GkIs N vs y false := ⟨fun e => (by cases e), fun e => absurd (e.2.2.2 x i j h1 h2 h3) h⟩

end Go.Proofs.Ytajmoclnmphmgaa

namespace Go.Proofs.Ytajmoclnmphmgaa
set_option linter.all false
open Go.RowKit

/-- the first place with a number other than 0; -1: none -/
def pivL (xs : List Int) : Int := if xs.findIdx (fun x => x != 0) < xs.length then (xs.findIdx (fun x => x != 0) : Nat) else -1
theorem pivL_at {xs : List Int} {k : Nat} (hk : k < xs.length) (h1 : xs.getD k 0 ≠ 0) (h0 : ∀ j, j < k → xs.getD j 0 = 0) : pivL xs = k := by
  have e : xs.findIdx (fun x => x != 0) = k := by
    rw [List.findIdx_eq hk]
    refine ⟨?_, fun j hj => ?_⟩
    · rw [List.getD_eq_getElem?_getD, List.getElem?_eq_getElem hk, Option.getD_some] at h1
      simpa using h1
    · have := h0 j hj
      rw [List.getD_eq_getElem?_getD, List.getElem?_eq_getElem (by omega), Option.getD_some] at this
      simpa using this
  unfold pivL
  rw [e, if_pos hk]
theorem pivL_none {xs : List Int} (h0 : ∀ j, j < xs.length → xs.getD j 0 = 0) : pivL xs = -1 := by
  have e : xs.findIdx (fun x => x != 0) = xs.length := by
    rw [List.findIdx_eq_length]
    intro x hx
    obtain ⟨j, hj, rfl⟩ := List.mem_iff_getElem.1 hx
    have := h0 j hj
    rw [List.getD_eq_getElem?_getD, List.getElem?_eq_getElem hj, Option.getD_some] at this
    simpa using this
  unfold pivL
  rw [e, if_neg (by omega)]
theorem pivL_cases (xs : List Int) : (pivL xs = -1 ∧ ∀ j, j < xs.length → xs.getD j 0 = 0) ∨ ∃ k, pivL xs = (k : Nat) ∧ k < xs.length ∧ xs.getD k 0 ≠ 0 ∧ ∀ j, j < k → xs.getD j 0 = 0 := by
  by_cases h : ∃ k, k < xs.length ∧ xs.getD k 0 ≠ 0
  · have : ∃ k, k < xs.length ∧ xs.getD k 0 ≠ 0 ∧ ∀ j, j < k → xs.getD j 0 = 0 := by
      obtain ⟨k, hk, h1⟩ := h
      induction k using Nat.strongRecOn with
      | _ k ih =>
        by_cases h2 : ∃ j, j < k ∧ xs.getD j 0 ≠ 0
        · obtain ⟨j, hj, h3⟩ := h2
          exact ih j hj (by omega) h3
        · exact ⟨k, hk, h1, fun j hj => Classical.byContradiction fun h3 => h2 ⟨j, hj, h3⟩⟩
    obtain ⟨k, hk, h1, h2⟩ := this
    exact .inr ⟨k, pivL_at hk h1 h2, hk, h1, h2⟩
  · have h0 : ∀ j, j < xs.length → xs.getD j 0 = 0 := fun j hj => Classical.byContradiction fun h3 => h ⟨j, hj, h3⟩
    exact .inl ⟨pivL_none h0, h0⟩

theorem inv_ex {p x : Int} (hp : primeOk p = true) (h0 : 0 < x) (h1 : x < p) : ∃ k : Int, 1 ≤ k ∧ k < p ∧ k * x % p = 1 := by
  rcases of_decide_eq_true hp with rfl | rfl | rfl | rfl
  · obtain rfl : x = 1 := by omega
    exact ⟨1, by decide⟩
  · rcases (show x = 1 ∨ x = 2 by omega) with rfl | rfl
    · exact ⟨1, by decide⟩
    · exact ⟨2, by decide⟩
  · rcases (show x = 1 ∨ x = 2 ∨ x = 3 ∨ x = 4 by omega) with rfl | rfl | rfl | rfl
    · exact ⟨1, by decide⟩
    · exact ⟨3, by decide⟩
    · exact ⟨2, by decide⟩
    · exact ⟨4, by decide⟩
  · rcases (show x = 1 ∨ x = 2 ∨ x = 3 ∨ x = 4 ∨ x = 5 ∨ x = 6 by omega) with rfl | rfl | rfl | rfl | rfl | rfl
    · exact ⟨1, by decide⟩
    · exact ⟨4, by decide⟩
    · exact ⟨5, by decide⟩
    · exact ⟨2, by decide⟩
    · exact ⟨3, by decide⟩
    · exact ⟨6, by decide⟩

/-- reads, then changes of one block -/
theorem grown_qt {w w1 w2 : World} {o : Option Nat} (hq : Qt w w1) (hg : w1.grownBy w2 o) : w.grownBy w2 o := by
  have hb := hq.below 0
  have hs := hq.size
  have hh := hq.heap
  exact ⟨hg.os.trans hb.os, hg.tape.trans hb.tape, hg.output.trans hb.output, by have := hg.size; omega, fun k hk hne => by rw [hg.block k (by omega) hne, hh]⟩

def scaleL (p k : Int) (xs : List Int) : List Int := (List.range xs.length).map fun (j : Nat) => (k * xs.getD j 0) % p
theorem scaleL_length (p k : Int) (xs : List Int) : (scaleL p k xs).length = xs.length := by simp [scaleL]
theorem scaleL_getD {p k : Int} {xs : List Int} {j : Nat} (h : j < xs.length) : (scaleL p k xs).getD j 0 = (k * xs.getD j 0) % p := by
  simp [scaleL, List.getD_eq_getElem?_getD, h]

end Go.Proofs.Ytajmoclnmphmgaa

namespace Go.Proofs.Ytajmoclnmphmgaa
set_option linter.all false
open Go.RowKit

theorem alloc_drew_top (w : World) (o : Obj) : (w.alloc o).drew.heap[w.heap.size]? = some o := heap_alloc_top w o
theorem set4_all {w : World} {b : Nat} {x0 x1 x2 x3 : Value} {T : TypeId} (h : w.heap[b]? = some (.cells #[x0, x1, x2, x3] T (0, 0))) (y0 y1 y2 y3 : Value) :
    ((((w.setCell ⟨b, 0, none⟩ y0).setCell ⟨b, 1, none⟩ y1).setCell ⟨b, 2, none⟩ y2).setCell ⟨b, 3, none⟩ y3).heap[b]? = some (.cells #[y0, y1, y2, y3] T (0, 0)) := by
  have e := heap_setCell_at (heap_setCell_at (heap_setCell_at (heap_setCell_at h 0 y0) 1 y1) 2 y2) 3 y3
  simpa using e

/-- a pointer to a box that was made after wr, with the matrix M in it, whose numbers lie in blocks made after wr -/
def CutBox (T TM : TypeId) (wr wc : World) (M : Mx) (s : Value) : Prop :=
  ∃ q p k lo hi, s = .pointer (some ⟨q, 0, none⟩) ∧ wr.heap.size ≤ q ∧ wc.heap[q]? = some (.cells #[.int .i64 M.P, .int .i64 M.R, .int .i64 M.C, .slice p M.D.length k] TM) ∧
    OwnI T wc lo hi (.slice p M.D.length k) M.D ∧ (q < lo ∨ hi ≤ q) ∧ wr.heap.size ≤ lo ∧ hi ≤ wc.heap.size ∧ q < wc.heap.size ∧ Below wr.heap.size wr wc
theorem cutBox_alloc {T TM : TypeId} {wr w : World} {M : Mx} {p : Option Addr} {k lo : Nat} (hB : Below wr.heap.size wr w)
    (ho : OwnI T w lo w.heap.size (.slice p M.D.length k) M.D) (hlo : wr.heap.size ≤ lo) :
    CutBox T TM wr (w.alloc (.cells #[.int .i64 M.P, .int .i64 M.R, .int .i64 M.C, .slice p M.D.length k] TM)) M (.pointer (some ⟨w.heap.size, 0, none⟩)) :=
  ⟨_, _, _, _, _, rfl, hB.size, heap_alloc_top _ _, OwnI.below ho (below_alloc _ _), Or.inr (Nat.le_refl _), hlo, by simp, by simp, hB.alloc hB.size _⟩
theorem cutBox_set {T TM : TypeId} {wr w : World} {M : Mx} {p : Option Addr} {k lo q : Nat} {x0 x1 x2 x3 : Value} (hB : Below wr.heap.size wr w)
    (hz : w.heap[q]? = some (.cells #[x0, x1, x2, x3] TM)) (ho : OwnI T w lo w.heap.size (.slice p M.D.length k) M.D) (hlo : wr.heap.size ≤ lo) (hq : q < lo) (hr : wr.heap.size ≤ q) :
    CutBox T TM wr ((((w.setCell ⟨q, 0, none⟩ (.int .i64 M.P)).setCell ⟨q, 1, none⟩ (.int .i64 M.R)).setCell ⟨q, 2, none⟩ (.int .i64 M.C)).setCell ⟨q, 3, none⟩ (.slice p M.D.length k)) M (.pointer (some ⟨q, 0, none⟩)) :=
  ⟨_, _, _, _, _, rfl, hr, set4_all hz _ _ _ _, own_set4 ho (Or.inl hq) _ _ _ _, Or.inl hq, hlo, by simp, by have := blk_lt hz; simpa using this, below_set4 hB hr _ _ _ _⟩

end Go.Proofs.Ytajmoclnmphmgaa

namespace Go.Proofs.Ytajmoclnmphmgaa
set_option linter.all false
open Go.RowKit

set_option maxRecDepth 100000 in
set_option maxHeartbeats 400000 in
theorem l1Ints_any (v : Value) (xs : List Int) (w : World) (h : Ints w v xs) (hl : xs.length ≤ 1000000) :
    Calls Try.prog 63 #[v] w (RetI w xs) := by
  have hI := Lib.hid h
  obtain ⟨p, cap, rfl, ⟨hx1, hx2⟩, hxc⟩ := h
  have Hb1 := Lib.hid (show 0 + xs.length ≤ maxLen by unfold maxLen; omega)
  have Hb2 := Lib.hid (show (0 + xs.length) * 8 ≤ 140737488355328 by omega)
  clear hxc
  go_enter Try.func63, Try.ntmps63
  go_wp2_with (at_builtin; go_must (refine wpList_append_F rfl (.tmp 3) (.tmp 4) 22 rfl 3 (.int .i64 0) 8 Try.underlying22 info_int rfl w.heap.size (w.heap.size + 1) _ 0 (fun _ => undef) rfl (OwnF.made0 w _ _) (by simp) (by simp) _ _ _ rfl (hI.out.below (below_alloc w _)) (fun j _ => iv_one _ j) Hb1.out Hb2.out ?_; intro v' w' ho' hg'))
  go_ret
  refine ⟨_, rfl, OwnF.ints ?_, (below_alloc w _).trans (grownBy_below hg' (OwnF.made0 w 3 (fun _ => undef)).blocks (Nat.le_refl _) (by simp))⟩
  rw [Nat.zero_add] at ho'
  exact ho'.congr fun j _ => by simp

/-- the argument's box, and a block for the result, whatever it holds -/
theorem keep5 {w W W' : World} {a0 a1 a2 a3 : Addr} {v0 v1 v2 v3 : Value} {b : Nat} {T : TypeId} (hb : Below W.heap.size W W')
    (h : ((W.cell? a0 = some v0 ∧ W.cell? a1 = some v1 ∧ W.cell? a2 = some v2 ∧ W.cell? a3 = some v3) ∧ ∃ y0 y1 y2 y3, W.heap[b]? = some (.cells #[y0, y1, y2, y3] T (0, 0))) ∧ Below w.heap.size w W) :
    ((W'.cell? a0 = some v0 ∧ W'.cell? a1 = some v1 ∧ W'.cell? a2 = some v2 ∧ W'.cell? a3 = some v3) ∧ ∃ y0 y1 y2 y3, W'.heap[b]? = some (.cells #[y0, y1, y2, y3] T (0, 0))) ∧ Below w.heap.size w W' := by
  obtain ⟨⟨⟨h0, h1, h2, h3⟩, y0, y1, y2, y3, hy⟩, hB⟩ := h
  exact ⟨⟨⟨cell_below hb h0, cell_below hb h1, cell_below hb h2, cell_below hb h3⟩, y0, y1, y2, y3, blk_later hy hb⟩, hB.trans (hb.mono hB.size)⟩
theorem keep5_gen {w W W' : World} {b1 o0 o1 o2 o3 : Nat} {v0 v1 v2 v3 z0 z1 z2 z3 : Value} {b : Nat} {T : TypeId} (hh : W'.heap[b1]? = W.heap[b1]?) (hy : W'.heap[b]? = some (.cells #[z0, z1, z2, z3] T (0, 0))) (hB : Below w.heap.size w W')
    (h : W.cell? ⟨b1, o0, none⟩ = some v0 ∧ W.cell? ⟨b1, o1, none⟩ = some v1 ∧ W.cell? ⟨b1, o2, none⟩ = some v2 ∧ W.cell? ⟨b1, o3, none⟩ = some v3) :
    ((W'.cell? ⟨b1, o0, none⟩ = some v0 ∧ W'.cell? ⟨b1, o1, none⟩ = some v1 ∧ W'.cell? ⟨b1, o2, none⟩ = some v2 ∧ W'.cell? ⟨b1, o3, none⟩ = some v3) ∧ ∃ y0 y1 y2 y3, W'.heap[b]? = some (.cells #[y0, y1, y2, y3] T (0, 0))) ∧ Below w.heap.size w W' := by
  obtain ⟨h0, h1, h2, h3⟩ := h
  refine ⟨⟨⟨?_, ?_, ?_, ?_⟩, z0, z1, z2, z3, hy⟩, hB⟩
  · rw [World.cell?_of_block (w := W) hh]; exact h0
  · rw [World.cell?_of_block (w := W) hh]; exact h1
  · rw [World.cell?_of_block (w := W) hh]; exact h2
  · rw [World.cell?_of_block (w := W) hh]; exact h3
theorem keep5_set {w W : World} {b1 o0 o1 o2 o3 : Nat} {v0 v1 v2 v3 : Value} {b : Nat} {T : TypeId} (hne : b1 ≠ b) (hbw : w.heap.size ≤ b) (x0 x1 x2 x3 : Value)
    (h : ((W.cell? ⟨b1, o0, none⟩ = some v0 ∧ W.cell? ⟨b1, o1, none⟩ = some v1 ∧ W.cell? ⟨b1, o2, none⟩ = some v2 ∧ W.cell? ⟨b1, o3, none⟩ = some v3) ∧ ∃ y0 y1 y2 y3, W.heap[b]? = some (.cells #[y0, y1, y2, y3] T (0, 0))) ∧ Below w.heap.size w W) :
    ((((((W.setCell ⟨b, 0, none⟩ x0).setCell ⟨b, 1, none⟩ x1).setCell ⟨b, 2, none⟩ x2).setCell ⟨b, 3, none⟩ x3).cell? ⟨b1, o0, none⟩ = some v0 ∧ ((((W.setCell ⟨b, 0, none⟩ x0).setCell ⟨b, 1, none⟩ x1).setCell ⟨b, 2, none⟩ x2).setCell ⟨b, 3, none⟩ x3).cell? ⟨b1, o1, none⟩ = some v1 ∧
      ((((W.setCell ⟨b, 0, none⟩ x0).setCell ⟨b, 1, none⟩ x1).setCell ⟨b, 2, none⟩ x2).setCell ⟨b, 3, none⟩ x3).cell? ⟨b1, o2, none⟩ = some v2 ∧ ((((W.setCell ⟨b, 0, none⟩ x0).setCell ⟨b, 1, none⟩ x1).setCell ⟨b, 2, none⟩ x2).setCell ⟨b, 3, none⟩ x3).cell? ⟨b1, o3, none⟩ = some v3) ∧
      ∃ y0 y1 y2 y3, ((((W.setCell ⟨b, 0, none⟩ x0).setCell ⟨b, 1, none⟩ x1).setCell ⟨b, 2, none⟩ x2).setCell ⟨b, 3, none⟩ x3).heap[b]? = some (.cells #[y0, y1, y2, y3] T (0, 0))) ∧
      Below w.heap.size w ((((W.setCell ⟨b, 0, none⟩ x0).setCell ⟨b, 1, none⟩ x1).setCell ⟨b, 2, none⟩ x2).setCell ⟨b, 3, none⟩ x3) := by
  obtain ⟨⟨hc, y0, y1, y2, y3, hy⟩, hB⟩ := h
  have hh : ((((W.setCell ⟨b, 0, none⟩ x0).setCell ⟨b, 1, none⟩ x1).setCell ⟨b, 2, none⟩ x2).setCell ⟨b, 3, none⟩ x3).heap[b1]? = W.heap[b1]? := by
    rw [Below.heap_setCell _ _ _ _ (show b1 ≠ (⟨b, 3, none⟩ : Addr).block from hne), Below.heap_setCell _ _ _ _ (show b1 ≠ (⟨b, 2, none⟩ : Addr).block from hne), Below.heap_setCell _ _ _ _ (show b1 ≠ (⟨b, 1, none⟩ : Addr).block from hne), Below.heap_setCell _ _ _ _ (show b1 ≠ (⟨b, 0, none⟩ : Addr).block from hne)]
  have hy4 := set4_all hy x0 x1 x2 x3
  have hB4 := below_set4 hB hbw x0 x1 x2 x3
  exact keep5_gen hh hy4 hB4 hc
theorem s5_blk {w W : World} {a0 a1 a2 a3 : Addr} {v0 v1 v2 v3 : Value} {b : Nat} {T : TypeId}
    (h : ((W.cell? a0 = some v0 ∧ W.cell? a1 = some v1 ∧ W.cell? a2 = some v2 ∧ W.cell? a3 = some v3) ∧ ∃ y0 y1 y2 y3, W.heap[b]? = some (.cells #[y0, y1, y2, y3] T (0, 0))) ∧ Below w.heap.size w W) :
    ∃ y0 y1 y2 y3, W.heap[b]? = some (.cells #[y0, y1, y2, y3] T (0, 0)) := h.1.2

/-- the box of a matrix argument and the result's cell -/
theorem box2_start (w : World) (T T2 : TypeId) (P R C : Int) (d : Value) :
    ((w.alloc (.cells #[.int .i64 P, .int .i64 R, .int .i64 C, d] T)).alloc (.cells #[.int .i64 0, .int .i64 0, .int .i64 0, .slice none 0 0] T2)).heap[w.heap.size]? = some (.cells #[.int .i64 P, .int .i64 R, .int .i64 C, d] T (0, 0)) ∧
    ((w.alloc (.cells #[.int .i64 P, .int .i64 R, .int .i64 C, d] T)).alloc (.cells #[.int .i64 0, .int .i64 0, .int .i64 0, .slice none 0 0] T2)).heap[w.heap.size + 1]? = some (.cells #[.int .i64 0, .int .i64 0, .int .i64 0, .slice none 0 0] T2 (0, 0)) := by
  refine ⟨?_, heap_alloc_at _ _ (by simp)⟩
  rw [heap_alloc_low _ _ (by simp)]; exact heap_alloc_top _ _

end Go.Proofs.Ytajmoclnmphmgaa

namespace Go.Proofs.Ytajmoclnmphmgaa
set_option linter.all false
open Go.RowKit

theorem nm_no1 {N : Int} {y : List Int} (h : ¬ (1 ≤ N ∧ N ≤ 5)) : nmOk N y = false := by
  unfold nmOk
  by_cases h1 : 1 ≤ N
  · rw [decide_eq_false (show ¬ N ≤ 5 by omega)]; simp
  · rw [decide_eq_false h1]; simp
theorem nm_no2 {N : Int} {y : List Int} (h : ¬ (y.length : Int) = N) : nmOk N y = false := by
  unfold nmOk
  rw [decide_eq_false h]; simp
theorem nm_no3 {N : Int} {y : List Int} {k : Nat} (hk : k < y.length) (h : ¬ (-9 ≤ y.getD k 0 ∧ y.getD k 0 ≤ 9)) : nmOk N y = false := by
  unfold nmOk
  rw [decide_eq_false (show ¬ ∀ x ∈ y, -9 ≤ x ∧ x ≤ 9 from fun e => h (e _ (getD_mem hk)))]; simp
theorem all_of_getD {y : List Int} {Q : Int → Prop} (h : ∀ k, k < y.length → Q (y.getD k 0)) : ∀ x ∈ y, Q x := fun x hx => by
  obtain ⟨k, hk, rfl⟩ := List.mem_iff_getElem.1 hx
  have := h k hk
  rwa [getD_lt hk] at this
theorem nm_yes {N : Int} {y : List Int} (h : 1 ≤ N ∧ N ≤ 5) (hl : (y.length : Int) = N) (hk : ∀ k, k < y.length → -9 ≤ y.getD k 0 ∧ y.getD k 0 ≤ 9) : nmOk N y = true := by
  unfold nmOk
  rw [decide_eq_true h.1, decide_eq_true h.2, decide_eq_true hl, decide_eq_true (all_of_getD hk)]; rfl
theorem nm_facts {N : Int} {y : List Int} (h : nmOk N y = true) : ∃ n : Nat, N = n ∧ 1 ≤ n ∧ n ≤ 5 ∧ y.length = n ∧ ∀ k, k < n → -9 ≤ y.getD k 0 ∧ y.getD k 0 ≤ 9 := by
  unfold nmOk at h
  simp only [Bool.and_eq_true, decide_eq_true_eq] at h
  obtain ⟨⟨⟨h1, h2⟩, h3⟩, h4⟩ := h
  exact ⟨y.length, h3.symm, by omega, by omega, rfl, fun k hk => h4 _ (getD_mem hk)⟩

set_option maxRecDepth 100000 in
set_option maxHeartbeats 2000000 in
theorem l8Numbers_any (N : Int) (v : Value) (y : List Int) (w : World) (h : Ints w v y) :
    Calls Try.prog 72 #[.int .i64 N, v] w fun e w' => e = .returned (.bool (nmOk N y)) ∧ w = w' := by
  obtain ⟨p, cap, rfl, ⟨hx1, hx⟩, hxc⟩ := h
  unfold maxLen at hx
  go_enter Try.func72, Try.ntmps72
  go_wp2_with fail
  by_cases hN : 1 ≤ N ∧ N ≤ 5
  case neg =>
    refine (l1In_no _ _ _ _ hN).mono ?_
    rintro e w1 ⟨rfl, rfl⟩
    go_wp2_with fail
    go_ret
    exact ⟨ret_bool (nm_no1 hN).symm, rfl⟩
  refine (l1In_yes _ _ _ _ hN).mono ?_
  rintro e w1 ⟨rfl, rfl⟩
  by_cases hl : (y.length : Int) = N
  case neg =>
    go_wp2_with fail
    go_ret
    exact ⟨ret_bool (nm_no2 hl).symm, rfl⟩
  have HN := Lib.hid hN
  have Hl := Lib.hid hl
  subst hl
  clear hN
  go_wp2_with fail
  go_loopg [5] y.length (fun g s5 wr => ∃ k : Nat, k ≤ y.length ∧ g = y.length - k ∧ s5 = .int .i64 k ∧ w = wr ∧ Hid (∀ j, j < k → -9 ≤ y.getD j 0 ∧ y.getD j 0 ≤ 9))
  case atStart => exact ⟨0, Nat.zero_le _, rfl, rfl, rfl, Lib.hid fun j hj => absurd hj (Nat.not_lt_zero _)⟩
  case round =>
    obtain ⟨k, hk, rfl, rfl, rfl, hp⟩ := hrel
    by_cases hlt : k < y.length
    · obtain ⟨b, off, rfl, hc⟩ := hxc (by omega)
      obtain ⟨x, hx'⟩ : ∃ x, x = y.getD k 0 := ⟨_, rfl⟩
      have c1 := hc k hlt
      unfold iv at c1
      rw [← hx'] at c1
      have Hx := Lib.hid hx'
      have hk1 : (k : Int) < (y.length : Int) := by omega
      clear hx' hc hxc
      by_cases hr : -9 ≤ x ∧ x ≤ 9
      · go_wp2_with fail
        refine (l1In_yes _ _ _ _ hr).mono ?_
        rintro e w1 ⟨rfl, rfl⟩
        go_wp2_with fail
        go_roundg (y.length - (k + 1))
        case measure => omega
        case rel =>
          refine ⟨k + 1, by omega, rfl, by go_num, rfl, Lib.hid fun j hj => ?_⟩
          by_cases e : j = k
          · subst e; rw [← Hx.out]; exact hr
          · exact hp.out j (by omega)
      · go_wp2_with fail
        refine (l1In_no _ _ _ _ hr).mono ?_
        rintro e w1 ⟨rfl, rfl⟩
        go_wp2_with fail
        go_ret
        exact ⟨ret_bool (nm_no3 hlt (by rw [← Hx.out]; exact hr)).symm, rfl⟩
    · have hk1 : ¬ (k : Int) < (y.length : Int) := by omega
      go_wp2_with fail
      go_ret
      exact ⟨ret_bool (nm_yes HN.out rfl fun j hj => hp.out j (by omega)).symm, rfl⟩

theorem ints_takeP2 {w : World} {p : Option Addr} {cap : Nat} {xs : List Int} (h : Ints w (.slice p xs.length cap) xs) {i : Nat} (hi : i ≤ xs.length) : Ints w (.slice p i cap) (xs.take i) := h.take i hi
/-! ### different numbers -/
theorem ap_no1 {N : Int} {y : List Int} (h : nmOk N y = false) : apOk N y = false := by simp [apOk, h]
theorem ap_no2 {N : Int} {y : List Int} (h : ¬ N ≤ 4) : apOk N y = false := by simp [apOk, h]
theorem nodup_no {y : List Int} {k : Nat} (hk : k < y.length) (h : y.getD k 0 ∈ y.take k) : ¬ y.Nodup := fun hn => by
  obtain ⟨j, hj, e⟩ := List.mem_iff_getElem.1 h
  have hj' : j < k := by rw [List.length_take] at hj; omega
  rw [List.getElem_take, getD_lt hk] at e
  exact List.pairwise_iff_getElem.1 hn j k (by omega) hk hj' e
theorem nodup_yes {y : List Int} (h : ∀ k, k < y.length → ¬ y.getD k 0 ∈ y.take k) : y.Nodup := by
  refine List.pairwise_iff_getElem.2 fun i j hi hj hij e => h j hj ?_
  rw [getD_lt hj, ← e]
  exact List.mem_iff_getElem.2 ⟨i, by rw [List.length_take]; omega, by rw [List.getElem_take]⟩
theorem ap_no3 {N : Int} {y : List Int} {k : Nat} (hk : k < y.length) (h : y.getD k 0 ∈ y.take k) : apOk N y = false := by
  unfold apOk
  rw [decide_eq_false (nodup_no hk h)]; simp
theorem ap_yes {N : Int} {y : List Int} (h1 : nmOk N y = true) (h2 : N ≤ 4) (h : ∀ k, k < y.length → ¬ y.getD k 0 ∈ y.take k) : apOk N y = true := by
  unfold apOk
  rw [h1, decide_eq_true h2, decide_eq_true (nodup_yes h)]; rfl
theorem ap_facts {N : Int} {y : List Int} (h : apOk N y = true) : ∃ n : Nat, N = n ∧ 1 ≤ n ∧ n ≤ 4 ∧ y.length = n ∧ (∀ k, k < n → -9 ≤ y.getD k 0 ∧ y.getD k 0 ≤ 9) ∧ ∀ i j, i < n → j < n → i ≠ j → y.getD i 0 ≠ y.getD j 0 := by
  unfold apOk at h
  simp only [Bool.and_eq_true, decide_eq_true_eq] at h
  obtain ⟨⟨h1, h2⟩, h3⟩ := h
  obtain ⟨n, rfl, a, b, c, d⟩ := nm_facts h1
  refine ⟨n, rfl, a, by omega, c, d, fun i j hi hj hij e => ?_⟩
  rw [getD_lt (show i < y.length by omega), getD_lt (show j < y.length by omega)] at e
  rcases Nat.lt_or_gt_of_ne hij with h | h
  · exact List.pairwise_iff_getElem.1 h3 i j (by omega) (by omega) h e
  · exact List.pairwise_iff_getElem.1 h3 j i (by omega) (by omega) h e.symm

set_option maxRecDepth 100000 in
set_option maxHeartbeats 2000000 in
theorem l8Apart_any (N : Int) (v : Value) (y : List Int) (w : World) (h : Ints w v y) :
    Calls Try.prog 39 #[.int .i64 N, v] w fun e w' => e = .returned (.bool (apOk N y)) ∧ Qt w w' := by
  have Hh := Lib.hid h
  obtain ⟨p, cap, rfl, ⟨hx1, hx⟩, hxc⟩ := h
  unfold maxLen at hx
  go_enter Try.func39, Try.ntmps39
  go_wp2_with fail
  refine (l8Numbers_any _ _ y _ Hh.out).mono ?_
  rintro e w1 ⟨rfl, rfl⟩
  cases hn : nmOk N y with
  | false =>
    go_wp2_with fail
    go_ret
    exact ⟨ret_bool (ap_no1 hn).symm, Qt.refl _⟩
  | true =>
  by_cases h4 : N ≤ 4
  case neg =>
    go_wp2_with fail
    go_ret
    exact ⟨ret_bool (ap_no2 (by omega)).symm, Qt.refl _⟩
  obtain ⟨n, rfl, hn1, hn5, hyl, _⟩ := nm_facts hn
  have Hn := Lib.hid hn
  have Hyl := Lib.hid hyl
  have hn4 : n ≤ 4 := by omega
  have H4 := Lib.hid h4
  have hle : n ≤ cap := by omega
  have hd4 : decide ((4 : Int) < (n : Int)) = false := decide_eq_false (by omega)
  rw [hyl] at Hh hxc ⊢
  clear hn hyl
  go_wp2_with fail
  go_loopg [5] n (fun g s5 wr => ∃ k : Nat, k ≤ n ∧ g = n - k ∧ s5 = .int .i64 k ∧ Qt w wr ∧ Hid (∀ j, j < k → ¬ y.getD j 0 ∈ y.take j))
  case atStart => exact ⟨0, Nat.zero_le _, rfl, rfl, Qt.refl _, Lib.hid fun j hj => absurd hj (Nat.not_lt_zero _)⟩
  case round =>
    obtain ⟨k, hk, rfl, rfl, hq, hp⟩ := hrel
    by_cases hlt : k < n
    · obtain ⟨b, off, rfl, hc⟩ := hxc (by omega)
      obtain ⟨x, hx'⟩ : ∃ x, x = y.getD k 0 := ⟨_, rfl⟩
      have c1 := hq.cell (hc k hlt)
      unfold iv at c1
      rw [← hx'] at c1
      have Hx := Lib.hid hx'
      have hk1 : (k : Int) < (n : Int) := by omega
      have hk2 : (k : Int) ≤ (cap : Int) := by omega
      have HI := Lib.hid (show Ints wr (.slice (some ⟨b, off, none⟩) k cap) (y.take k) by
        have := Hh.out
        rw [← Hyl.out] at this
        exact (ints_takeP2 this (by rw [Hyl.out]; omega)).qt hq)
      obtain ⟨bb, hbb⟩ : ∃ bb, bb = decide (x ∈ y.take k) := ⟨_, rfl⟩
      have Hbb := Lib.hid hbb
      clear hx' hc hxc hbb
      go_wp2_with fail
      go_quiet (first | (go_at_call 71; exact quiet_q (v := .bool bb) ((l1Has_any _ (y.take k) x _ (HI.out.drewN _)).mono fun e w' ⟨h1, h2⟩ => ⟨by rw [h1, ← Hbb.out], h2⟩)))
      cases bb with
      | true =>
        go_wp2_with fail
        go_ret
        exact ⟨ret_bool (ap_no3 (k := k) (by rw [Hyl.out]; exact hlt) (by rw [← Hx.out]; exact of_decide_eq_true Hbb.out.symm)).symm, hq.drewN _⟩
      | false =>
        go_wp2_with fail
        go_roundg (n - (k + 1))
        case measure => omega
        case rel =>
          refine ⟨k + 1, by omega, rfl, by go_num, hq.drewN _, Lib.hid fun j hj => ?_⟩
          by_cases e : j = k
          · subst e; rw [← Hx.out]; exact of_decide_eq_false Hbb.out.symm
          · exact hp.out j (by omega)
    · have hk1 : ¬ (k : Int) < (n : Int) := by omega
      go_wp2_with fail
      go_ret
      exact ⟨ret_bool (ap_yes Hn.out H4.out fun j hj => hp.out j (by have := Hyl.out; omega)).symm, hq⟩

/-! ### values -/
theorem most_no {vs : List Int} {k : Nat} (hk : k < vs.length) (h : ¬ (-1000000000000 ≤ vs.getD k 0 ∧ vs.getD k 0 ≤ 1000000000000)) : mostB vs = false :=
  decide_eq_false fun e => h (e _ (getD_mem hk))
theorem most_yes {vs : List Int} (h : ∀ k, k < vs.length → -1000000000000 ≤ vs.getD k 0 ∧ vs.getD k 0 ≤ 1000000000000) : mostB vs = true := decide_eq_true (all_of_getD h)
theorem most_at {vs : List Int} (h : mostB vs = true) {k : Nat} (hk : k < vs.length) : -1000000000000 ≤ vs.getD k 0 ∧ vs.getD k 0 ≤ 1000000000000 := of_decide_eq_true h _ (getD_mem hk)

set_option maxRecDepth 100000 in
set_option maxHeartbeats 2000000 in
theorem l8Values_any (n : Nat) (v : Value) (vs : List Int) (w : World) (h : Ints w v vs) (hn : n ≤ 4) :
    Calls Try.prog 59 #[.int .i64 (n : Int), v] w fun e w' => e = .returned (.bool (decide (vs.length = fact n) && mostB vs)) ∧ Qt w w' := by
  obtain ⟨p, cap, rfl, ⟨hx1, hx⟩, hxc⟩ := h
  unfold maxLen at hx
  obtain ⟨F, hF⟩ : ∃ F, F = fact n := ⟨_, rfl⟩
  have hF24 : F ≤ 24 := by rw [hF]; exact Nat.le_trans (fact_le hn) (by decide)
  have HF := Lib.hid hF
  clear hF
  go_enter Try.func59, Try.ntmps59
  go_wp2_with fail
  refine (specFactorial_any n (by omega) _).mono ?_
  rintro e w1 ⟨rfl, hq1⟩
  rw [← HF.out]
  by_cases hl : vs.length = F
  case neg =>
    have hl2 : ¬ (vs.length : Int) = (F : Int) := by omega
    go_wp2_with fail
    go_ret
    exact ⟨ret_bool (by rw [decide_eq_false (show ¬ vs.length = fact n by rw [← HF.out]; exact hl)]; rfl), hq1⟩
  subst hl
  go_wp2_with fail
  go_loopg [5] vs.length (fun g s5 wr => ∃ k : Nat, k ≤ vs.length ∧ g = vs.length - k ∧ s5 = .int .i64 k ∧ Qt w wr ∧ Hid (∀ j, j < k → -1000000000000 ≤ vs.getD j 0 ∧ vs.getD j 0 ≤ 1000000000000))
  case atStart => exact ⟨0, Nat.zero_le _, rfl, rfl, hq1, Lib.hid fun j hj => absurd hj (Nat.not_lt_zero _)⟩
  case round =>
    obtain ⟨k, hk, rfl, rfl, hq, hp⟩ := hrel
    by_cases hlt : k < vs.length
    · obtain ⟨b, off, rfl, hc⟩ := hxc (by omega)
      obtain ⟨x, hx'⟩ : ∃ x, x = vs.getD k 0 := ⟨_, rfl⟩
      have c1 := hq.cell (hc k hlt)
      unfold iv at c1
      rw [← hx'] at c1
      have Hx := Lib.hid hx'
      have hk1 : (k : Int) < (vs.length : Int) := by omega
      clear hx' hc hxc
      by_cases hr : -1000000000000 ≤ x ∧ x ≤ 1000000000000
      · go_wp2_with fail
        refine (l1In_yes _ _ _ _ hr).mono ?_
        rintro e w2 ⟨rfl, rfl⟩
        go_wp2_with fail
        go_roundg (vs.length - (k + 1))
        case measure => omega
        case rel =>
          refine ⟨k + 1, by omega, rfl, by go_num, hq, Lib.hid fun j hj => ?_⟩
          by_cases e : j = k
          · subst e; rw [← Hx.out]; exact hr
          · exact hp.out j (by omega)
      · go_wp2_with fail
        refine (l1In_no _ _ _ _ hr).mono ?_
        rintro e w2 ⟨rfl, rfl⟩
        go_wp2_with fail
        go_ret
        exact ⟨ret_bool (by rw [most_no hlt (by rw [← Hx.out]; exact hr), Bool.and_false]), hq⟩
    · have hk1 : ¬ (k : Int) < (vs.length : Int) := by omega
      go_wp2_with fail
      go_ret
      exact ⟨ret_bool (by rw [decide_eq_true HF.out, most_yes fun j hj => hp.out j (by omega)]; rfl), hq⟩

/-! ### two places exchanged -/
theorem OwnI.setG {T : TypeId} {w : World} {lo hi g n cap t : Nat} {D : List Int} (h : OwnI T w lo hi (.slice (some ⟨g, 0, none⟩) n cap) D) (ht : t < D.length) (x : Int) : OwnI T (w.setCell ⟨g, t, none⟩ (.int .i64 x)) lo hi (.slice (some ⟨g, 0, none⟩) n cap) (D.set t x) := by
  refine OwnF.ints ?_
  rw [List.length_set]
  refine (h.fn.set t _).congr fun j hj => ?_
  unfold iv
  by_cases e : j = t
  · subst e; simp [List.getD_eq_getElem?_getD, ht]
  · simp [e, List.getD_eq_getElem?_getD, List.getElem?_set_ne (fun h => e h.symm)]

set_option maxRecDepth 100000 in
set_option maxHeartbeats 1000000 in
theorem l1Swap_any (v : Value) (xs : List Int) (i j : Nat) (w : World) (h : Ints w v xs) (hi : i < xs.length) (hj : j < xs.length) (hl : xs.length ≤ 1000) :
    Calls Try.prog 62 #[v, .int .i64 (i : Int), .int .i64 (j : Int)] w (RetI w (swapL xs i j)) := by
  have Hh := Lib.hid h
  obtain ⟨p, cap, rfl, ⟨hx1, hx⟩, hxc⟩ := h
  unfold maxLen at hx
  obtain ⟨b, off, rfl, hc⟩ := hxc (by omega)
  have Hc := Lib.hid hc
  clear hc hxc
  go_enter Try.func62, Try.ntmps62
  go_wp2_with fail
  refine (l1Ints_any _ xs _ Hh.out (by omega)).mono ?_
  rintro e w1 ⟨u, rfl, ho, hb⟩
  have hofn := ho.fn
  obtain ⟨pu, ku, rfl, hku, hku2⟩ := ho.shape
  unfold maxLen at hku2
  obtain ⟨g, rfl, hg1, hg2, hg3⟩ := hofn.at_ (by omega)
  obtain ⟨x, hx'⟩ : ∃ x, x = xs.getD i 0 := ⟨_, rfl⟩
  obtain ⟨y, hy'⟩ : ∃ y, y = xs.getD j 0 := ⟨_, rfl⟩
  have c1 : w1.cell? ⟨b, off + i, none⟩ = some (.int .i64 x) := by rw [hx']; exact cell_below hb (Hc.out i hi)
  have c2 : w1.cell? ⟨b, off + j, none⟩ = some (.int .i64 y) := by rw [hy']; exact cell_below hb (Hc.out j hj)
  have f1 := hofn.frozen i
  have f2 := hofn.frozen j
  have d1 := hofn.cell hi
  have d2 := hofn.cell hj
  obtain ⟨z, d3⟩ : ∃ z, (w1.setCell ⟨g, i, none⟩ (.int .i64 y)).cell? ⟨g, j, none⟩ = some z := ⟨_, (hofn.set i (.int .i64 y)).cell hj⟩
  have hgb : g ≠ b := fun e => by
    have := World.block_lt_of_cell? _ _ (Hc.out i hi)
    have : b < w.heap.size := this
    omega
  have hbg : b ≠ g := fun e => hgb e.symm
  obtain ⟨n, hn⟩ : ∃ n, n = xs.length := ⟨_, rfl⟩
  have Hn := Lib.hid hn
  have Ho := Lib.hid ho
  have Hb := Lib.hid hb
  have Hx := Lib.hid hx'
  have Hy := Lib.hid hy'
  have hi2 : (i : Int) < (n : Int) := by omega
  have hj2 : (j : Int) < (n : Int) := by omega
  rw [← hn] at hx1 hku hi hj ⊢
  clear hofn ho hb hn hx' hy' hgb
  go_wp2_with fail
  go_ret
  refine ⟨_, rfl, ?_, ((Hb.out.setCell (p := ⟨g, i, none⟩) hg1 _).setCell (p := ⟨g, j, none⟩) hg1 _)⟩
  unfold swapL
  rw [← Hx.out, ← Hy.out]
  have o1 := (Ho.out.setG (by rw [← Hn.out]; exact hi) y).setG (t := j) (by rw [List.length_set, ← Hn.out]; exact hj) x
  rw [← Hn.out] at o1
  have := o1.mono (Nat.le_refl _) (show w1.heap.size ≤ ((w1.setCell ⟨g, i, none⟩ (.int .i64 y)).setCell ⟨g, j, none⟩ (.int .i64 x)).heap.size by simp)
  exact this

end Go.Proofs.Ytajmoclnmphmgaa

namespace Go.Proofs.Ytajmoclnmphmgaa
set_option linter.all false
open Go.RowKit

set_option maxRecDepth 100000 in
set_option maxHeartbeats 1000000 in
theorem exchanged_any (v : Value) (xs : List Int) (i j : Nat) (w : World) (h : Ints w v xs) (hi : i < xs.length) (hj : j < xs.length) (hij : i ≠ j) (hl : xs.length ≤ 1000) :
    Calls Try.prog 53 #[v, .int .i64 (i : Int), .int .i64 (j : Int)] w (RetI w (swapL xs i j)) := by
  have Hh := Lib.hid h
  obtain ⟨p, cap, rfl, ⟨hx1, hx⟩, hxc⟩ := h
  unfold maxLen at hx
  clear hxc
  go_enter Try.func53, Try.ntmps53
  go_wp2_with fail
  refine (clone_any _ xs _ Hh.out (by omega)).mono ?_
  rintro e w1 ⟨u, rfl, ho, hb⟩
  have hofn := ho.fn
  obtain ⟨pu, ku, rfl, hku, hku2⟩ := ho.shape
  unfold maxLen at hku2
  obtain ⟨g, rfl, hg1, hg2, hg3⟩ := hofn.at_ (by omega)
  obtain ⟨x, hx'⟩ : ∃ x, x = xs.getD i 0 := ⟨_, rfl⟩
  obtain ⟨y, hy'⟩ : ∃ y, y = xs.getD j 0 := ⟨_, rfl⟩
  have f1 := hofn.frozen i
  have f2 := hofn.frozen j
  have d1 := hofn.cell hi
  have d2 := hofn.cell hj
  unfold iv at d1 d2
  rw [← hx'] at d1
  rw [← hy'] at d2
  obtain ⟨z, d3⟩ : ∃ z, (w1.setCell ⟨g, i, none⟩ (.int .i64 y)).cell? ⟨g, j, none⟩ = some z := ⟨_, (hofn.set i (.int .i64 y)).cell hj⟩
  have d3' : (w1.drew.setCell ⟨g, i, none⟩ (.int .i64 y)).cell? ⟨g, j, none⟩ = some z := d3
  obtain ⟨n, hn⟩ : ∃ n, n = xs.length := ⟨_, rfl⟩
  have Hn := Lib.hid hn
  have Ho := Lib.hid ho
  have Hb := Lib.hid hb
  have Hx := Lib.hid hx'
  have Hy := Lib.hid hy'
  have hi2 : (i : Int) < (n : Int) := by omega
  have hj2 : (j : Int) < (n : Int) := by omega
  rw [← hn] at hx1 hku hi hj ⊢
  clear hofn ho hb hn hx' hy'
  go_wp2_with fail
  have hji : j ≠ i := fun e => hij e.symm
  go_region
  go_wp2_with fail
  go_ret
  refine ⟨_, rfl, ?_, ((Hb.out.setCell (p := ⟨g, i, none⟩) hg1 _).setCell (p := ⟨g, j, none⟩) hg1 _).drew⟩
  unfold swapL
  rw [← Hx.out, ← Hy.out]
  have o1 := (Ho.out.setG (by rw [← Hn.out]; exact hi) y).setG (t := j) (by rw [List.length_set, ← Hn.out]; exact hj) x
  rw [← Hn.out] at o1
  have := o1.mono (Nat.le_refl _) (show w1.heap.size ≤ ((w1.setCell ⟨g, i, none⟩ (.int .i64 y)).setCell ⟨g, j, none⟩ (.int .i64 x)).heap.size by simp)
  exact this.below (Below.refl _ _).drew

end Go.Proofs.Ytajmoclnmphmgaa
