/-
  Values of double Schubert polynomials of at most five: how great they are; the numbers a permutation picks. Plain.
  The reference's length of a permutation; words as numbers.
  The draws: a reduced word, a word played, two permutations.
  The draws: a reduced word, two permutations.
  dBent; DrawLocalize.
  l1Same, slices.Equal, l7Same.
-/
import Derived.Test.YtllmhicmikpfeaaJ15
import Derived.Test.YtllmhicmikpfeaaJ10
import Derived.Test.YtllmhicmikpfeaaJ16
import Derived.Test.YtllmhicmikpfeaaJ5
import Derived.Test.YtllmhicmikpfeaaJ3
import Derived.Test.YtllmhicmikpfeaaJ1
namespace Go.Proofs.Ytllmhicmikpfeaa
set_option linter.all false
set_option maxRecDepth 100000
open Go.RowKit

theorem mul_abs {a b A B : Int} (h1 : -A ≤ a) (h2 : a ≤ A) (h3 : -B ≤ b) (h4 : b ≤ B) : -(A * B) ≤ a * b ∧ a * b ≤ A * B := by
  have hA : 0 ≤ A := by omega
  have hB : 0 ≤ B := by omega
  have n1 : (a * b).natAbs ≤ (A * B).natAbs := by
    rw [Int.natAbs_mul, Int.natAbs_mul]
    exact Nat.mul_le_mul (by omega) (by omega)
  have := Int.mul_nonneg hA hB
  omega
theorem FW_bnd {n : Nat} {ys : List Int} (hy : ys.length = n) (hy9 : ∀ j, (ys.getD j 0).natAbs ≤ 9) (h1 : 1 ≤ n) (h5 : n ≤ 5) : ∀ (m : Nat) (w v : List Int), lnN w = m → P5 n v → P5 n w → -(19 : Int) ^ lnN w ≤ FW n ys v w ∧ FW n ys v w ≤ (19 : Int) ^ lnN w := by
  intro m
  induction m with
  | zero =>
    intro w v hm hv hw
    obtain rfl := id_of_len hw hm
    have hid : FW n ys v (idL n) = if idL n = v then 1 else 0 := sum_val hy h1 h5 0 [] v rfl hv (by simp)
    rw [hid, hm]
    split <;> decide
  | succ m ih =>
    intro w v hm hv hw
    obtain ⟨k, hk, hd⟩ : ∃ k, k + 1 < n ∧ ascB k w = false := ((blid_at hw).2).resolve_left (by omega)
    have hl := len_desc hw hk hd
    have hu := hw.sw hk
    have ss : sw k (sw k w) = w := sw_sw (by have := hw.len; omega)
    have hrec := FW_rec (ys := ys) hv hu hk
    rw [ss] at hrec
    have i1 := ih (sw k w) v (by omega) hv hu
    have i2 := ih (sw k w) (sw k v) (by omega) (hv.sw hk) hu
    have hp : (19 : Int) ^ lnN w = 19 * 19 ^ lnN (sw k w) := by rw [← hl, Int.pow_succ, Int.mul_comm]
    have hp0 : (0 : Int) ≤ 19 ^ lnN (sw k w) := Int.le_of_lt (Int.pow_pos (by decide))
    have hd1 : -18 ≤ df ys (sw k w) k ∧ df ys (sw k w) k ≤ 18 := by
      unfold df
      have a := hy9 ((sw k w).getD (k + 1) 0).toNat
      have b := hy9 ((sw k w).getD k 0).toNat
      omega
    have hdm := mul_abs hd1.1 hd1.2 i2.1 i2.2
    obtain ⟨X, hX⟩ : ∃ X, X = (19 : Int) ^ lnN (sw k w) := ⟨_, rfl⟩
    rw [← hX] at hp hp0 hdm i1
    rw [hp, hrec]
    cases hav : ascB k v with
    | true => simp; omega
    | false => simp; omega
theorem ten_le {n : Nat} {xs : List Int} (hp : P5 n xs) : lnN xs ≤ 10 := by
  have a := (wrd_at hp).2.2.2
  have h5 := hp.le
  have b : n * (n - 1) / 2 ≤ 10 := by
    have : n = 0 ∨ n = 1 ∨ n = 2 ∨ n = 3 ∨ n = 4 ∨ n = 5 := by omega
    rcases this with rfl | rfl | rfl | rfl | rfl | rfl <;> decide
  omega
theorem pow19 : ∀ m : Nat, m ≤ 10 → (19 : Int) ^ m ≤ 6131066257801 := fun m hm => by
  have h : ∀ m : Fin 11, (19 : Int) ^ (m : Nat) ≤ 6131066257801 := by decide
  exact h ⟨m, by omega⟩
theorem dbl_small {n : Nat} {vs ws ys : List Int} (hv : P5 n vs) (hw : P5 n ws) (hy : ys.length = n) (hy9 : ∀ j, (ys.getD j 0).natAbs ≤ 9) (h1 : 1 ≤ n) :
    -6131066257801 ≤ Ev (dblP vs ys) (mono (pickL ws ys)) ∧ Ev (dblP vs ys) (mono (pickL ws ys)) ≤ 6131066257801 := by
  have h := FW_bnd hy hy9 h1 hv.le _ ws vs rfl hv hw
  have h2 := pow19 _ (ten_le hw)
  have e : FW n ys vs ws = Ev (dblP vs ys) (mono (pickL ws ys)) := by unfold FW EV dblP; rw [hv.len]
  rw [← e]
  omega
/-- the numbers that a permutation picks -/
def pkL (ws ys : List Int) : List Int := ws.map fun i => ys.getD i.toNat 0
theorem pkL_length (ws ys : List Int) : (pkL ws ys).length = ws.length := by unfold pkL; simp
theorem pkL_getD (ws ys : List Int) (j : Nat) : (pkL ws ys).getD j 0 = pick ws ys j := by
  unfold pkL pick
  by_cases h : j < ws.length
  · rw [if_pos h]; simp [List.getD_eq_getElem?_getD, h]
  · rw [if_neg h, List.getD_eq_getElem?_getD, List.getElem?_eq_none (by simpa using Nat.le_of_not_lt h)]; rfl
theorem pkL_fill {ws ys : List Int} (h : ws.length ≤ 7) : fillL (pkL ws ys) = pickL ws ys := by
  refine List.ext_getElem (by rw [fillL_length (by rw [pkL_length]; exact h), pickL_length]) fun j hj hj' => ?_
  have h7 : j < 7 := by rw [pickL_length] at hj'; exact hj'
  have e1 := fillL_getD (pkL ws ys) j
  rw [pkL_getD, ← pickL_getD ws ys h7] at e1
  simpa [List.getD_eq_getElem?_getD, hj, hj'] using e1
theorem pkL_snoc {ws ys : List Int} {i : Nat} (h : i < ws.length) : pkL (ws.take (i + 1)) ys = pkL (ws.take i) ys ++ [ys.getD (ws.getD i 0).toNat 0] := by
  unfold pkL
  rw [take_snoc ws i h, List.map_append]
  rfl
theorem res_eq (X : Int) : (X.tmod 32003 + 32003).tmod 32003 = X % 32003 ∧ -32003 < X.tmod 32003 ∧ X.tmod 32003 < 32003 := by
  have h1 : X.tmod 32003 < 32003 := Int.tmod_lt_of_pos X (by decide)
  have h2 : -32003 < X.tmod 32003 := Int.lt_tmod_of_pos X (by decide)
  have h3 := Int.tmod_def X 32003
  refine ⟨?_, h2, h1⟩
  rw [Int.tmod_eq_emod_of_nonneg (by omega), h3]
  have : X - 32003 * X.tdiv 32003 + 32003 = X + 32003 * (1 - X.tdiv 32003) := by rw [Int.mul_sub]; omega
  rw [this, Int.add_mul_emod_self_left]

end Go.Proofs.Ytllmhicmikpfeaa

namespace Go.Proofs.Ytllmhicmikpfeaa
set_option linter.all false
open Go.RowKit

set_option maxRecDepth 100000 in
set_option maxHeartbeats 2000000 in
theorem l1SumC_any (v : Value) (xs : List Int) (w : World) (h : Ints w v (cdL xs)) (hl : xs.length ≤ 10) :
    Calls Try.prog 73 #[v] w fun e w' => e = .returned (.int .i64 (lnN xs : Nat)) ∧ Qt w w' := by
  obtain ⟨p, cap, rfl, ⟨hx1, hx2⟩, hxc⟩ := h
  unfold maxLen at hx2
  rw [cdL_length] at hx1 hxc ⊢
  go_enter Try.func73, Try.ntmps73
  go_wp2_with fail
  go_loopg [3, 4] xs.length (fun g s3 s4 wr => ∃ k : Nat, k ≤ xs.length ∧ g = xs.length - k ∧ s4 = .int .i64 k ∧ s3 = .int .i64 (lnK xs k : Nat) ∧ Qt w wr)
  case atStart => exact ⟨0, Nat.zero_le _, rfl, rfl, rfl, Qt.refl _⟩
  case round =>
    obtain ⟨k, hk, rfl, rfl, rfl, hq⟩ := hrel
    have hr := lnK_le xs hl k hk
    obtain ⟨z, hz⟩ : ∃ z, z = lnK xs k := ⟨_, rfl⟩
    rw [← hz] at hr ⊢
    have Hz := Lib.hid hz
    by_cases hlt : k < xs.length
    · obtain ⟨b, off, rfl, hc⟩ := hxc (by omega)
      have c1 := hq.cell (hc k hlt)
      unfold iv at c1
      rw [cdL_getD hlt] at c1
      obtain ⟨x, hx⟩ : ∃ x, x = cdA xs k := ⟨_, rfl⟩
      rw [← hx] at c1
      have hx2 : x ≤ 10 := by rw [hx]; unfold cdA; have := cdK_le xs k (xs.length - (k + 1)); omega
      have Hn := Lib.hid (show lnK xs (k + 1) = z + x by rw [lnK, hz, hx])
      have hk1 : (k : Int) < (xs.length : Int) := by omega
      clear hx hc hxc hz
      go_wp2_with fail
      go_roundg (xs.length - (k + 1))
      case measure => omega
      case rel => exact ⟨k + 1, by omega, rfl, by go_num, by rw [Hn.out]; go_num, hq⟩
    · obtain rfl : k = xs.length := by omega
      have hk1 : ¬ (xs.length : Int) < (xs.length : Int) := by omega
      clear hz
      go_wp2_with fail
      go_ret
      exact ⟨by rw [Hz.out]; rfl, hq⟩

set_option maxRecDepth 100000 in
set_option maxHeartbeats 2000000 in
theorem l1Length_any (v : Value) (xs : List Int) (w : World) (h : Ints w v xs) (hl : xs.length ≤ 10) :
    Calls Try.prog 49 #[v] w fun e w' => e = .returned (.int .i64 (lnN xs : Nat)) ∧ Below w.heap.size w w' := by
  have Hh := Lib.hid h
  obtain ⟨p, cap, rfl, ⟨hx1, hx2⟩, hxc⟩ := h
  unfold maxLen at hx2
  clear hxc
  go_enter Try.func49, Try.ntmps49
  go_wp2_with fail
  refine (l1Code_any _ xs _ Hh.out hl).mono ?_
  rintro e w1 ⟨u, rfl, ho, hb⟩
  have Ho := Lib.hid ho.ints
  have Hb := Lib.hid hb
  obtain ⟨pu, ku, rfl, _, _⟩ := ho.shape
  clear ho hb
  go_wp2_with fail
  refine (l1SumC_any _ xs _ Ho.out hl).mono ?_
  rintro e w2 ⟨rfl, hq⟩
  have Hq := Lib.hid hq
  clear hq
  go_wp2_with fail
  go_ret
  exact ⟨rfl, Hb.out.trans (Hq.out.below _)⟩

/-- a word as numbers -/
def wz (r : List Nat) : List Int := r.map fun (k : Nat) => (k : Int)
theorem wz_length (r : List Nat) : (wz r).length = r.length := by simp [wz]
theorem wz_getD {r : List Nat} {j : Nat} (h : j < r.length) : (wz r).getD j 0 = (r.getD j 0 : Nat) := by simp [wz, List.getD_eq_getElem?_getD, h]
theorem wz_snoc (r : List Nat) (k : Nat) : wz (r ++ [k]) = wz r ++ [(k : Int)] := by simp [wz]

end Go.Proofs.Ytllmhicmikpfeaa

namespace Go.Proofs.Ytllmhicmikpfeaa
set_option linter.all false
open Go.RowKit

/-- numbers that are letters for n -/
def LetOk (n : Nat) (xs : List Int) : Prop := ∀ j, j < xs.length → ∃ m : Nat, xs.getD j 0 = (m : Int) ∧ m + 1 < n
theorem LetOk.nil (n : Nat) : LetOk n [] := fun j hj => absurd hj (Nat.not_lt_zero _)
theorem LetOk.snoc {n : Nat} {xs : List Int} (h : LetOk n xs) {m : Nat} (hm : m + 1 < n) : LetOk n (xs ++ [(m : Int)]) := fun j hj => by
  by_cases e : j < xs.length
  · rw [List.getD_eq_getElem?_getD, List.getElem?_append_left e, ← List.getD_eq_getElem?_getD]; exact h j e
  · rw [List.length_append, List.length_singleton] at hj
    obtain rfl : j = xs.length := by omega
    rw [List.getD_eq_getElem?_getD, List.getElem?_append_right (Nat.le_refl _), Nat.sub_self]
    exact ⟨m, rfl, hm⟩
theorem LetOk.cons {n : Nat} {xs : List Int} (h : LetOk n xs) {m : Nat} (hm : m + 1 < n) : LetOk n ((m : Int) :: xs) := fun j hj => by
  cases j with
  | zero => exact ⟨m, rfl, hm⟩
  | succ j => rw [List.getD_cons_succ]; exact h j (by rw [List.length_cons] at hj; omega)
def dscN (xs : List Int) (m : Nat) : List Nat := (List.range m).filter fun k => decide (xs.getD (k + 1) 0 < xs.getD k 0)
theorem dscN_yes {xs : List Int} {m : Nat} (h : xs.getD (m + 1) 0 < xs.getD m 0) : dscN xs (m + 1) = dscN xs m ++ [m] := by
  unfold dscN
  rw [List.range_succ, List.filter_append]
  simp only [List.filter_cons, List.filter_nil, h, decide_true, if_true]
theorem dscN_no {xs : List Int} {m : Nat} (h : ¬ xs.getD (m + 1) 0 < xs.getD m 0) : dscN xs (m + 1) = dscN xs m := by
  unfold dscN
  rw [List.range_succ, List.filter_append]
  have : List.filter (fun (k : Nat) => decide (xs.getD (k + 1) 0 < xs.getD k 0)) [m] = [] := by rw [List.filter_cons, decide_eq_false h]; rfl
  rw [this, List.append_nil]
theorem dscN_le (xs : List Int) (m : Nat) : (dscN xs m).length ≤ m := Nat.le_trans (List.length_filter_le _ _) (by simp)
theorem P5.ne {n : Nat} {v : List Int} (h : P5 n v) {k : Nat} (hk : k + 1 < n) : v.getD k 0 ≠ v.getD (k + 1) 0 := by
  have hp := h.ok
  simp only [permOk, decide_eq_true_eq] at hp
  have := List.pairwise_iff_getElem.1 hp.2.2.2 k (k + 1) (by have := h.len; omega) (by have := h.len; omega) (by omega)
  rw [← getD_lt, ← getD_lt] at this
  exact this
/-- some place goes down -/
theorem dscN_some {n : Nat} {v : List Int} (h : P5 n v) (h0 : lnN v ≠ 0) : 1 ≤ (dscN v (n - 1)).length := by
  obtain ⟨k, hk, hd⟩ := (blid_at h).2.resolve_left h0
  have : k ∈ dscN v (n - 1) := by
    unfold dscN
    rw [List.mem_filter, List.mem_range]
    have := of_decide_eq_false hd
    have := h.ne hk
    exact ⟨by omega, decide_eq_true (by omega)⟩
  exact List.length_pos_of_mem this
theorem dscN_at {n : Nat} {v : List Int} (h : P5 n v) {i : Nat} (hi : i < (dscN v (n - 1)).length) : (dscN v (n - 1)).getD i 0 + 1 < n ∧ ascB ((dscN v (n - 1)).getD i 0) v = false := by
  have hm : (dscN v (n - 1)).getD i 0 ∈ dscN v (n - 1) := by
    rw [List.getD_eq_getElem?_getD, List.getElem?_eq_getElem hi]; exact List.getElem_mem _
  unfold dscN at hm ⊢
  rw [List.mem_filter, List.mem_range] at hm
  have := of_decide_eq_true hm.2
  exact ⟨by omega, decide_eq_false (by omega)⟩

set_option maxRecDepth 100000 in
set_option maxHeartbeats 4000000 in
theorem specDescents_any (n : Nat) (v : Value) (xs : List Int) (w : World) (h : Ints w v xs) (hp : P5 n xs) (h1 : 1 ≤ n) :
    Calls Try.prog 50 #[v] w (RetI w (wz (dscN xs (n - 1)))) := by
  have Hh := Lib.hid h
  have Hp := Lib.hid hp
  have h5 := hp.le
  obtain ⟨p, cap, rfl, ⟨hx1, hx2⟩, hxc⟩ := h
  unfold maxLen at hx2
  rw [hp.len] at Hh hx1 hxc ⊢
  have Hxc := Lib.hid hxc
  clear hxc hp
  go_enter Try.func50, Try.ntmps50
  go_wp2_with fail
  refine (specIsPerm_b _ xs true Hp.out.ok _ Hh.out).mono ?_
  rintro e w1 ⟨rfl, hq⟩
  have HQ := Lib.hid hq
  clear hq
  go_wp2_with fail
  go_loopg [3, 4] (n - 1) (fun g s3 s4 wr => ∃ k : Nat, k ≤ n - 1 ∧ g = n - 1 - k ∧ s4 = .int .i64 (k : Int) ∧ Hid (OwnI 3 wr w1.heap.size wr.heap.size s3 (wz (dscN xs k))) ∧ Hid (Below w1.heap.size w1 wr))
  case atStart =>
    refine ⟨0, Nat.zero_le _, rfl, rfl, Lib.hid ?_, Lib.hid (below_alloc w1 _)⟩
    have hm := OwnF.ints (xs := []) (OwnF.made0 w1 3 (iv []))
    exact hm.mono (Nat.le_refl _) (by rw [size_alloc]; exact Nat.le_refl _)
  case round =>
    obtain ⟨k, hk, rfl, rfl, ho, hb⟩ := hrel
    obtain ⟨wx, rfl⟩ : ∃ x : World, x = wr := ⟨_, rfl⟩
    obtain ⟨p3, k3, rfl, hk3, hk33⟩ := ho.out.shape
    have hl3 := dscN_le xs k
    obtain ⟨m, hm⟩ : ∃ m, m = (dscN xs k).length := ⟨_, rfl⟩
    have hofn := ho.out.fn
    rw [wz_length, ← hm] at hk3 hofn ⊢
    rw [← hm] at hl3
    have Hm := Lib.hid hm
    have Ho := Lib.hid ho.out
    rw [wz_length, ← hm] at Ho
    have Hofn := Lib.hid hofn
    have Hb := Lib.hid hb.out
    have hsb := hb.out.size
    clear ho hb hm hofn
    by_cases hkn : k < n - 1
    · have hki : (k : Int) + 1 < (n : Int) := by omega
      have hki2 : (k : Int) < (n : Int) := by omega
      obtain ⟨b, off, rfl, hc⟩ := Hxc.out (by omega)
      have c1 := cell_below Hb.out (HQ.out.cell (hc k (by omega)))
      have c2 := cell_below Hb.out (HQ.out.cell (hc (k + 1) (by omega)))
      unfold iv at c1 c2
      obtain ⟨x, hx⟩ : ∃ x, x = xs.getD k 0 := ⟨_, rfl⟩
      obtain ⟨y, hy⟩ : ∃ y, y = xs.getD (k + 1) 0 := ⟨_, rfl⟩
      rw [← hx] at c1
      rw [← hy] at c2
      have Hx := Lib.hid hx
      have Hy := Lib.hid hy
      clear hc hx hy
      by_cases hyx : y < x
      · have Hd := Lib.hid (dscN_yes (xs := xs) (m := k) (by rw [← Hx.out, ← Hy.out]; exact hyx))
        have hb1 : m + 1 ≤ maxLen := by unfold maxLen; omega
        have hb2 : (m + 1) * 8 ≤ 140737488355328 := by omega
        go_wp2_with fail
        go_quiet (fail)
        have Hq1 := Lib.hid ((Qt.refl wx).drewN nq)
        have Hsz := Lib.hid Hq1.out.size
        have hof2 := Hofn.out.below (Hq1.out.below _)
        generalize wx.drewN nq = wy at *
        clear c1 c2
        have hsy : wx.heap.size ≤ wy.heap.size := Nat.le_of_eq Hsz.out.symm
        have hsy2 : w1.heap.size ≤ wy.heap.size := by omega
        go_wp2_with (at_builtin; go_must (refine wpList_append_F rfl (.tmp 26) (.tmp 28) 24 rfl 3 (.int .i64 0) 8 Try.underlying24 info_int rfl w1.heap.size wx.heap.size _ m (iv (wz (dscN xs k))) rfl (hof2.below (below_alloc wy _)) (by rw [size_alloc]; omega) (by rw [size_alloc]; omega) _ 1 _ rfl (rd_one _ _ _ rfl) (fun j _ => rfl) hb1 hb2 ?_; intro v3 w3 ho3 hg3))
        have hbx : Below w1.heap.size w1 w3 := ((Hb.out.trans (Hq1.out.below _)).trans ((below_alloc wy _).mono hsy2)).trans (grownBy_below hg3 hof2.blocks (Nat.le_refl _) (by rw [size_alloc]; omega))
        go_roundg (n - 1 - (k + 1))
        case measure => omega
        case rel =>
          refine ⟨k + 1, by omega, rfl, by go_num, Lib.hid ?_, Lib.hid hbx⟩
          rw [Hd.out, wz_snoc]
          exact OwnI.snoc1 (by rw [wz_length, ← Hm.out]; exact ho3)
      · have Hd := Lib.hid (dscN_no (xs := xs) (m := k) (by rw [← Hx.out, ← Hy.out]; exact hyx))
        go_wp2_with fail
        go_quiet (fail)
        have Hq1 := Lib.hid ((Qt.refl wx).drewN nq)
        go_wp2_with fail
        go_roundg (n - 1 - (k + 1))
        case measure => omega
        case rel =>
          refine ⟨k + 1, by omega, rfl, by go_num, Lib.hid ?_, Lib.hid (Hb.out.trans (Hq1.out.below _))⟩
          rw [Hd.out]
          exact (Ho.out.below (Hq1.out.below _))
    · have hki : ¬ (k : Int) + 1 < (n : Int) := by omega
      have hke : k = n - 1 := by omega
      go_wp2_with fail
      go_ret
      rw [← hke]
      exact ⟨_, rfl, Ho.out.mono (Nat.le_of_eq HQ.out.size.symm) (Nat.le_refl _), (HQ.out.below _).trans (Hb.out.mono (Nat.le_of_eq HQ.out.size.symm))⟩

set_option maxRecDepth 100000 in
set_option maxHeartbeats 4000000 in
/-- letters played, all of them or those that make longer -/
theorem l1Play_any (n : Nat) (v : Value) (ls : List Int) (b : Bool) (w : World) (h : Ints w v ls) (hl : LetOk n ls) (h1 : 1 ≤ n) (h5 : n ≤ 5) :
    Calls Try.prog 25 #[.int .i64 (n : Int), v, .bool b] w fun e w' => ∃ (u : Value) (xs : List Int), e = .returned u ∧ OwnI 3 w' w.heap.size w'.heap.size u xs ∧ P5 n xs ∧ Below w.heap.size w w' := by
  have Hh := Lib.hid h
  have Hl := Lib.hid hl
  obtain ⟨p, cap, rfl, ⟨hx1, hx2⟩, hxc⟩ := h
  unfold maxLen at hx2
  have Hxc := Lib.hid hxc
  clear hxc hl
  go_enter Try.func25, Try.ntmps25
  go_wp2_with fail
  refine (specIdentity_any n _ h1 (by omega)).mono ?_
  rintro e w1 ⟨u1, rfl, ho1, hb1⟩
  have Ho1 := Lib.hid ho1
  have Hb1 := Lib.hid hb1
  have hs1 := hb1.size
  have Hid5 := Lib.hid (P5.id h1 h5)
  clear ho1 hb1
  go_wp2_with fail
  go_loopg [7, 8] ls.length (fun g s7 s8 wr => ∃ (i : Nat) (c : List Int), i ≤ ls.length ∧ g = ls.length - i ∧ s8 = .int .i64 (i : Int) ∧ Hid (P5 n c) ∧ Hid (OwnI 3 wr w.heap.size wr.heap.size s7 c) ∧ Hid (Below w.heap.size w wr))
  case atStart => exact ⟨0, idL n, Nat.zero_le _, rfl, rfl, Hid5, Ho1, Hb1⟩
  case round =>
    obtain ⟨i, c, hi, rfl, rfl, hc5, ho, hb⟩ := hrel
    obtain ⟨wx, rfl⟩ : ∃ x : World, x = wr := ⟨_, rfl⟩
    have hcl := hc5.out.len
    obtain ⟨p7, k7, rfl, hk7, hk77⟩ := ho.out.shape
    unfold maxLen at hk77
    rw [hcl] at hk7 ⊢
    have Hc5 := Lib.hid hc5.out
    have Ho := Lib.hid ho.out
    rw [hcl] at Ho
    have Hcl := Lib.hid hcl
    have Hb := Lib.hid hb.out
    have hsx := hb.out.size
    clear hc5 ho hb hcl
    by_cases hlt : i < ls.length
    · have hii : (i : Int) < (ls.length : Int) := by omega
      obtain ⟨bw, ow, rfl, hc⟩ := Hxc.out (by omega)
      obtain ⟨m, hm, hmn⟩ := Hl.out i hlt
      have c1 := cell_below Hb.out (hc i hlt)
      unfold iv at c1
      rw [hm] at c1
      have hofn := Ho.out.fn
      rw [Hcl.out] at hofn
      obtain ⟨g7, rfl, _⟩ := hofn.at_ (by omega)
      have d1 := hofn.cell (show m < n by omega)
      have d2 := hofn.cell hmn
      unfold iv at d1 d2
      obtain ⟨x, hx⟩ : ∃ x, x = c.getD m 0 := ⟨_, rfl⟩
      obtain ⟨y, hy⟩ : ∃ y, y = c.getD (m + 1) 0 := ⟨_, rfl⟩
      rw [← hx] at d1
      rw [← hy] at d2
      have hmi : (m : Int) < (n : Int) := by omega
      have hmi1 : (m : Int) + 1 < (n : Int) := by omega
      clear hc hx hy hm hofn
      have swap : ∀ W : World, Qt wx W → Calls Try.prog 51 #[.slice (some ⟨g7, 0, none⟩) n k7, .int .i64 (m : Int), .int .i64 ((m + 1 : Nat) : Int)] W (RetI W (swapL c m (m + 1))) := fun W hq =>
        l1Swap_any _ c m (m + 1) W (Ho.out.ints.qt hq) (by rw [Hcl.out]; omega) (by rw [Hcl.out]; omega) (by rw [Hcl.out]; omega)
      have Hsw := Lib.hid swap
      clear swap
      cases b with
      | true =>
        go_wp2_with fail
        go_quiet (fail)
        have Hq1 := Lib.hid ((Qt.refl wx).drewN nq)
        generalize wx.drewN nq = wy at *
        go_wp2_with fail
        refine (Hsw.out _ Hq1.out).mono ?_
        rintro e w2 ⟨u2, rfl, ho2, hb2⟩
        have Ho2 := Lib.hid ho2
        have Hb2 := Lib.hid ((Hb.out.trans (Hq1.out.below _)).trans (hb2.mono (by rw [Hq1.out.size]; exact hsx)))
        have Hsz := Lib.hid Hq1.out.size
        clear ho2 hb2
        go_wp2_with fail
        go_roundg (ls.length - (i + 1))
        case measure => omega
        case rel => exact ⟨i + 1, swapL c m (m + 1), by omega, rfl, by go_num, Lib.hid (Hc5.out.sw hmn), Lib.hid (Ho2.out.mono (by rw [Hsz.out]; exact hsx) (Nat.le_refl _)), Hb2⟩
      | false =>
        by_cases hxy : x < y
        · go_wp2_with fail
          go_quiet (fail)
          have Hq1 := Lib.hid ((Qt.refl wx).drewN nq)
          generalize wx.drewN nq = wy at *
          go_wp2_with fail
          refine (Hsw.out _ Hq1.out).mono ?_
          rintro e w2 ⟨u2, rfl, ho2, hb2⟩
          have Ho2 := Lib.hid ho2
          have Hb2 := Lib.hid ((Hb.out.trans (Hq1.out.below _)).trans (hb2.mono (by rw [Hq1.out.size]; exact hsx)))
          have Hsz := Lib.hid Hq1.out.size
          clear ho2 hb2
          go_wp2_with fail
          go_roundg (ls.length - (i + 1))
          case measure => omega
          case rel => exact ⟨i + 1, swapL c m (m + 1), by omega, rfl, by go_num, Lib.hid (Hc5.out.sw hmn), Lib.hid (Ho2.out.mono (by rw [Hsz.out]; exact hsx) (Nat.le_refl _)), Hb2⟩
        · go_wp2_with fail
          go_quiet (fail)
          have Hq1 := Lib.hid ((Qt.refl wx).drewN nq)
          go_wp2_with fail
          go_roundg (ls.length - (i + 1))
          case measure => omega
          case rel =>
            refine ⟨i + 1, c, by omega, rfl, by go_num, Hc5, Lib.hid ?_, Lib.hid (Hb.out.trans (Hq1.out.below _))⟩
            have := Ho.out.below (Hq1.out.below _)
            exact this
    · have hii : ¬ (i : Int) < (ls.length : Int) := by omega
      go_wp2_with fail
      go_ret
      first | exact ⟨_, rfl, c, Ho.out, Hc5.out, Hb.out⟩ | exact ⟨_, c, rfl, Ho.out, Hc5.out, Hb.out⟩

end Go.Proofs.Ytllmhicmikpfeaa

namespace Go.Proofs.Ytllmhicmikpfeaa
set_option linter.all false
open Go.RowKit

theorem cons_own {T : TypeId} {w : World} {lo hi l : Nat} {v : Value} {out : List Int} {x : Int} {F : Nat → Value} (h : OwnF w lo hi T v (1 + l) (fun j => if j < 1 then F j else iv out (j - 1))) (hl : out.length = l) (hF : F 0 = .int .i64 x) : OwnI T w lo hi v (x :: out) := by
  refine OwnF.ints ?_
  rw [List.length_cons, hl, Nat.add_comm]
  refine h.congr fun j hj => ?_
  unfold iv
  cases j with
  | zero => rw [if_pos (by omega), hF]; rfl
  | succ j => rw [if_neg (by omega), List.getD_cons_succ]; rfl

theorem len_ten {n : Nat} {xs : List Int} (hp : P5 n xs) : lnN xs ≤ 10 := by
  have a := (wrd_at hp).2.2.2
  have h5 := hp.le
  have b : n * (n - 1) / 2 ≤ 10 := by
    have : n = 0 ∨ n = 1 ∨ n = 2 ∨ n = 3 ∨ n = 4 ∨ n = 5 := by omega
    rcases this with rfl | rfl | rfl | rfl | rfl | rfl <;> decide
  omega
theorem own_one (W : World) (x : Int) : OwnF (W.alloc (.cells #[.int .i64 x] 3)) W.heap.size (W.heap.size + 1) 3 (.slice (some ⟨W.heap.size, 0, none⟩) 1 1) 1 (fun _ => .int .i64 x) :=
  have h : (W.alloc (.cells #[.int .i64 x] 3)).rowIs W.heap.size 3 1 (fun _ => .int .i64 x) := by
    have := World.rowIs_made W (.int .i64 x) 1 3
    have e : madeCells #[Value.int .i64 x] 1 = #[Value.int .i64 x] := by first | kernel_rfl | simp [madeCells]
    rwa [e] at this
  OwnF.mk' h (Nat.le_refl _) (Nat.lt_succ_self _) (Nat.le_refl _) (by unfold maxLen; omega) (fun _ _ => rfl)
set_option maxRecDepth 100000 in
set_option maxHeartbeats 8000000 in
theorem dReduced_any (k n : Nat) (v : Value) (xs : List Int) (w : World) (h : Cur w k) (hx : OwnI 3 w (k + 1) w.heap.size v xs) (hp : P5 n xs) (h1 : 1 ≤ n) :
    Calls Try.prog 24 #[.pointer (some ⟨k, 0, none⟩), v] w fun e w' =>
      ∃ (u : Value) (ls : List Int), e = .returned u ∧ OwnI 3 w' w.heap.size w'.heap.size u ls ∧ LetOk n ls ∧ ls.length ≤ 10 ∧ Cur w' k ∧ Frm k (k + 1) w w' := by
  have Hc := Lib.hid h
  have hk := h.lt
  have HX := Lib.hid hx.ints
  have Hp := Lib.hid hp
  have h5 := hp.le
  have Hln := Lib.hid (len_ten hp)
  obtain ⟨p, cap, rfl, hx1, hx2⟩ := hx.shape
  unfold maxLen at hx2
  rw [hp.len] at HX hx1 ⊢
  clear h hx hp
  go_enter Try.func24, Try.ntmps24
  go_wp2_with fail
  have e1 : (w.alloc (.cells #[] 3)).heap.size = w.heap.size + 1 := size_alloc _ _
  refine (l1Ints_any _ xs _ (HX.out.below (below_alloc w _)) (by rw [Hp.out.len]; omega)).mono ?_
  rintro e w1 ⟨u1, rfl, ho1, hb1⟩
  have Ho1 := Lib.hid ho1
  have Hb1 := Lib.hid (show Below w.heap.size w w1 from (below_alloc w _).trans (hb1.mono (by rw [e1]; omega)))
  have Hs1 := Lib.hid (show w.heap.size + 1 ≤ w1.heap.size from by rw [← e1]; exact hb1.size)
  have Ho0 := Lib.hid ((OwnF.ints (xs := []) (OwnF.made0 w 3 (iv []))).below hb1)
  obtain ⟨p1, k1, rfl, hk1, hk11⟩ := ho1.shape
  rw [Hp.out.len] at hk1 ⊢
  rw [Hp.out.len] at Ho1
  clear ho1 hb1 e1
  go_wp2_with fail
  go_loopg [5, 6] (lnN xs) (fun g s5 s6 wr => ∃ (c ls : List Int) (p6 : Option Addr) (k6 : Nat), P5 n c ∧ g = lnN c ∧ s6 = .slice p6 n k6 ∧ Hid (ls.length + lnN c ≤ 10) ∧ Hid (LetOk n ls) ∧ Hid (OwnI 3 wr w.heap.size wr.heap.size (.slice p6 n k6) c) ∧ Hid (OwnI 3 wr w.heap.size wr.heap.size s5 ls) ∧ Hid (Cur wr k) ∧ Hid (Frm k (k + 1) w wr))
  case atStart =>
    have hs := Hs1.out
    refine ⟨xs, [], p1, k1, Hp.out, rfl, rfl, Lib.hid (by have := Hln.out; simp; exact this), Lib.hid (LetOk.nil n), Lib.hid (Ho1.out.mono (by rw [size_alloc]; omega) (Nat.le_refl _)), Lib.hid (Ho0.out.mono (Nat.le_refl _) (by omega)), Lib.hid (Hc.out.below Hb1.out), Lib.hid (Frm.of_below Hb1.out _ _)⟩
  case round =>
    obtain ⟨c, ls, p6, k6, hc5, rfl, rfl, hll, hlo, hov, hol, hcu, hf⟩ := hrel
    obtain ⟨wx, rfl⟩ : ∃ x : World, x = wr := ⟨_, rfl⟩
    have Hc5 := Lib.hid hc5
    have Hll := Lib.hid hll.out
    have Hlo := Lib.hid hlo.out
    have Hov := Lib.hid hov.out
    have Hol := Lib.hid hol.out
    have Hcu := Lib.hid hcu.out
    have Hf := Lib.hid hf.out
    have hsx := hf.out.size
    obtain ⟨_, _, e6, hk6, hk66⟩ := hov.out.shape
    injection e6 with e61 e62 e63
    subst e63
    unfold maxLen at hk66
    rw [hc5.len] at hk6
    obtain ⟨m, hm⟩ : ∃ m, m = ls.length := ⟨_, rfl⟩
    have Hm := Lib.hid hm
    obtain ⟨p5, k5, rfl, hk5, hk55⟩ := hol.out.shape
    rw [← hm] at hk5 Hll Hol ⊢
    obtain ⟨L, hL⟩ : ∃ L, L = lnN c := ⟨_, rfl⟩
    have HL := Lib.hid hL
    clear hc5 hll hlo hov hol hcu hf e61 e62 hm
    go_wp2_with fail
    refine (l1Length_any _ c _ Hov.out.ints (by rw [Hc5.out.len]; omega)).mono ?_
    rintro e w2 ⟨rfl, hb2⟩
    rw [← hL]
    have Hb2 := Lib.hid hb2
    have hs2 := hb2.size
    clear hb2 hL
    by_cases h0 : L = 0
    · subst h0
      go_wp2_with fail
      go_ret
      have hll := Hll.out
      first
        | exact ⟨_, rfl, ls, (Hol.out.below Hb2.out).mono (Nat.le_refl _) hs2, Hlo.out, by rw [← Hm.out]; omega, Hcu.out.below Hb2.out, Hf.out.thenB Hb2.out hsx⟩
        | exact ⟨_, ls, rfl, (Hol.out.below Hb2.out).mono (Nat.le_refl _) hs2, Hlo.out, by rw [← Hm.out]; omega, Hcu.out.below Hb2.out, Hf.out.thenB Hb2.out hsx⟩
    · have h0i : (0 : Int) < (L : Int) := by omega
      have hd0 := dscN_some Hc5.out (by rw [← HL.out]; exact h0)
      obtain ⟨ds, hds⟩ : ∃ ds, ds = dscN c (n - 1) := ⟨_, rfl⟩
      have Hds := Lib.hid hds
      have hdl : ds.length ≤ n - 1 := by rw [hds]; exact dscN_le _ _
      rw [← hds] at hd0
      clear hds
      go_wp2_with fail
      refine (specDescents_any n _ c _ (Hov.out.below Hb2.out).ints Hc5.out h1).mono ?_
      rintro e w3 ⟨u3, rfl, ho3, hb3⟩
      rw [← Hds.out] at ho3
      obtain ⟨d, hd⟩ : ∃ d, d = ds.length := ⟨_, rfl⟩
      obtain ⟨p3, k3, rfl, hk3, hk33⟩ := ho3.shape
      have hof3 := ho3.fn
      rw [wz_length, ← hd] at hk3 hof3 ⊢
      rw [← hd] at hd0 hdl
      have Hof3 := Lib.hid hof3
      have Hb3 := Lib.hid hb3
      have hs3 := hb3.size
      have Hd := Lib.hid hd
      clear ho3 hb3 hof3 hd
      go_wp2_with fail
      refine (l1Below_any k d _ ((Hcu.out.below Hb2.out).below Hb3.out) hd0 (by omega)).mono ?_
      rintro e w4 ⟨i, rfl, hi, hc4, hf4⟩
      have Hc4 := Lib.hid hc4
      have hs4 := hf4.size
      have Hov4 := Lib.hid (((Hov.out.below Hb2.out).below Hb3.out).frm hf4 (Or.inr (by omega)))
      have Hol4 := Lib.hid (((Hol.out.below Hb2.out).below Hb3.out).frm hf4 (Or.inr (by omega)))
      have Hf4 := Lib.hid (((Hf.out.thenB Hb2.out hsx).thenB Hb3.out (by omega)).trans hf4)
      have hof4 := Hof3.out.frm hf4 (Or.inr (by omega))
      obtain ⟨g3, rfl, _⟩ := hof4.at_ (by omega)
      have c1 := hof4.cell hi
      unfold iv at c1
      rw [wz_getD (by rw [← Hd.out]; exact hi)] at c1
      have hda := dscN_at (v := c) Hc5.out (i := i) (by rw [← Hds.out, ← Hd.out]; exact hi)
      rw [← Hds.out] at hda
      obtain ⟨t, ht⟩ : ∃ t, t = ds.getD i 0 := ⟨_, rfl⟩
      rw [← ht] at c1 hda
      obtain ⟨htn, htd⟩ := hda
      have Htd := Lib.hid htd
      have hii : (i : Int) < (d : Int) := by omega
      clear hc4 hf4 hof4 ht htd
      go_wp2_with fail
      refine (l1Swap_any _ c t (t + 1) _ Hov4.out.ints (by rw [Hc5.out.len]; omega) (by rw [Hc5.out.len]; omega) (by rw [Hc5.out.len]; omega)).mono ?_
      rintro e w5 ⟨u5, rfl, ho5, hb5⟩
      have hs5 := hb5.size
      obtain ⟨pv, kv, rfl, hkv, hkv2⟩ := ho5.shape
      rw [swapL_length, Hc5.out.len] at ho5 hkv ⊢
      have Ho5 := Lib.hid ho5
      have Hb5 := Lib.hid hb5
      have Hol5 := Lib.hid (Hol4.out.below hb5)
      have Hcu5 := Lib.hid (Hc4.out.below hb5)
      have Hf5 := Lib.hid (Hf4.out.thenB hb5 (by omega))
      clear ho5 hb5
      have hll := Hll.out
      have hbd1 : 1 + m ≤ maxLen := by unfold maxLen; omega
      have hbd2 : (1 + m) * 8 ≤ 140737488355328 := by omega
      have hone := Lib.hid (own_one w5 (t : Int))
      have hrd := Lib.hid (show Rd (w5.alloc (.cells #[.int .i64 (t : Int)] 3)) (.slice p5 m k5) m (iv ls) from by
        have := (Hol5.out.below (below_alloc w5 (.cells #[.int .i64 (t : Int)] 3))).ints
        unfold Ints at this
        rwa [← Hm.out] at this)
      clear hll
      go_wp2_with (at_builtin; go_must (refine wpList_append_F rfl (.tmp 30) (.tmp 31) 24 rfl 3 (.int .i64 0) 8 Try.underlying24 info_int rfl w5.heap.size (w5.heap.size + 1) _ 1 (fun _ => .int .i64 (t : Int)) rfl hone.out (by rw [size_alloc]; omega) (by rw [size_alloc]; omega) _ m _ rfl hrd.out (fun j _ => rfl) hbd1 hbd2 ?_; intro v6 w6 ho6 hg6))
      have hbx : Below w5.heap.size w5 w6 := (below_alloc w5 _).trans (grownBy_below hg6 hone.out.blocks (Nat.le_refl _) (by rw [size_alloc]; omega))
      have Ho6 := Lib.hid ((cons_own ho6 Hm.out.symm rfl).mono (show w.heap.size ≤ w5.heap.size by omega) (Nat.le_refl _))
      have Hbx := Lib.hid hbx
      have hs6 := hbx.size
      have Hdl := Lib.hid (show lnN (sw t c) + 1 = L from by
        have a := (wrd_at Hc5.out).2.2.2
        have b := (wrd_at (Hc5.out.sw htn)).2.2.2
        have e := (Hc5.out.desc htn Htd.out).1
        have := HL.out
        omega)
      clear hg6 ho6 hbx c1
      go_roundg (lnN (sw t c))
      case measure => have := Hdl.out; have := HL.out; omega
      case rel =>
        refine ⟨sw t c, (t : Int) :: ls, pv, kv, Hc5.out.sw htn, rfl, rfl, Lib.hid ?_, Lib.hid (Hlo.out.cons htn), Lib.hid ?_, Ho6, Lib.hid (Hcu5.out.below Hbx.out), Lib.hid (Hf5.out.thenB Hbx.out (by omega))⟩
        · have a := Hll.out
          have b := Hdl.out
          have e := HL.out
          rw [List.length_cons, ← Hm.out]
          omega
        · exact ((Ho5.out.below Hbx.out).mono (show w.heap.size ≤ w4.heap.size by omega) (by omega))

end Go.Proofs.Ytllmhicmikpfeaa

namespace Go.Proofs.Ytllmhicmikpfeaa
set_option linter.all false
set_option maxRecDepth 100000
open Go.RowKit

/-- numbers that can be read, not in block k -/
def IntsO (k : Nat) (w : World) (v : Value) (xs : List Int) : Prop :=
  ∃ p cap, v = .slice p xs.length cap ∧ (xs.length ≤ cap ∧ cap ≤ maxLen) ∧ (0 < xs.length → ∃ b off, p = some ⟨b, off, none⟩ ∧ b ≠ k ∧ ∀ j, j < xs.length → w.cell? ⟨b, off + j, none⟩ = some (iv xs j))
namespace IntsO
variable {k : Nat} {w w' : World} {v : Value} {xs : List Int}
theorem ints (h : IntsO k w v xs) : Ints w v xs := by
  obtain ⟨p, cap, e, hm, h⟩ := h
  refine ⟨p, cap, e, hm, fun h0 => ?_⟩
  obtain ⟨b, off, e1, _, e2⟩ := h h0
  exact ⟨b, off, e1, e2⟩
theorem frm (h : IntsO k w v xs) (hf : Frm k (k + 1) w w') : IntsO k w' v xs := by
  obtain ⟨p, cap, e, hm, h⟩ := h
  refine ⟨p, cap, e, hm, fun h0 => ?_⟩
  obtain ⟨b, off, e1, hb, e2⟩ := h h0
  refine ⟨b, off, e1, hb, fun j hj => ?_⟩
  have h1 := World.block_lt_of_cell? w _ (e2 j hj)
  have h2 := hf.block b h1 (by omega)
  rw [← e2 j hj]
  unfold World.cell?
  rw [h2]
theorem below (h : IntsO k w v xs) (hb : Below w.heap.size w w') : IntsO k w' v xs := by
  obtain ⟨p, cap, e, hm, h⟩ := h
  refine ⟨p, cap, e, hm, fun h0 => ?_⟩
  obtain ⟨b, off, e1, h1, e2⟩ := h h0
  exact ⟨b, off, e1, h1, fun j hj => by rw [hb.cell (World.block_lt_of_cell? w _ (e2 j hj))]; exact e2 j hj⟩
theorem own {T : TypeId} {lo hi : Nat} (h : OwnI T w lo hi v xs) (hk : k < lo ∨ hi ≤ k) : IntsO k w v xs := by
  obtain ⟨p, cap, e, hm, hc⟩ := h.ints
  refine ⟨p, cap, e, hm, fun h0 => ?_⟩
  obtain ⟨b, off, e1, e2⟩ := hc h0
  refine ⟨b, off, e1, fun e3 => ?_, e2⟩
  have := Own.block h (k := b) (by rw [e, e1]; rfl)
  omega
theorem pre {p : Option Addr} {n q cap : Nat} (h : IntsO k w (.slice p n cap) xs) (hq : q ≤ xs.length) : IntsO k w (.slice p q cap) (xs.take q) := by
  obtain ⟨p', cap', e, hm, h⟩ := h
  injection e with e1 e2 e3
  subst e1 e3
  have hl : (xs.take q).length = q := by rw [List.length_take]; omega
  refine ⟨p, cap, by rw [hl], by rw [hl]; omega, fun h0 => ?_⟩
  rw [hl] at h0
  obtain ⟨b, off, e1, h1, e2⟩ := h (by omega)
  refine ⟨b, off, e1, h1, fun j hj => ?_⟩
  rw [hl] at hj
  rw [e2 j (by omega)]
  unfold iv
  simp [List.getD_eq_getElem?_getD, hj]
end IntsO

set_option maxHeartbeats 4000000 in
theorem dBent_any (k n : Nat) (v : Value) (xs : List Int) (w : World) (h : Cur w k) (hx : OwnI 3 w (k + 1) w.heap.size v xs) (hl : xs.length = n) (h1 : 1 ≤ n) (h5 : n ≤ 5) :
    Calls Try.prog 27 #[.pointer (some ⟨k, 0, none⟩), v] w fun e w' =>
      ∃ (u : Value) (zs : List Int), e = .returned u ∧ IntsO k w' u zs ∧ Cur w' k ∧ Frm k (k + 1) w w' := by
  have Hc := Lib.hid h
  have Hx := Lib.hid hx
  have Hl := Lib.hid hl
  have hk := h.lt
  obtain ⟨p, cap, rfl, _, _⟩ := hx.shape
  rw [hl] at Hx ⊢
  clear h hx hl
  go_enter Try.func27, Try.ntmps27
  go_wp2_with fail
  refine (l1Once_any k 10 _ Hc.out (by omega) (by omega)).mono ?_
  rintro e w1 ⟨b, rfl, hc1, hf1⟩
  have Hc1 := Lib.hid hc1
  have Hf1 := Lib.hid hf1
  have Hx1 := Lib.hid (Hx.out.frm hf1 (Or.inr (by omega)))
  have hs1 := hf1.size
  clear hc1 hf1
  cases b with
  | false =>
    go_wp2_with fail
    go_ret
    exact ⟨_, xs, rfl, IntsO.own Hx1.out (Or.inl (by omega)), Hc1.out, Hf1.out⟩
  | true =>
    go_wp2_with fail
    refine (l1Ints_any _ xs _ Hx1.out.ints (by rw [Hl.out]; omega)).mono ?_
    rintro e w2 ⟨u2, rfl, ho2, hb2⟩
    have Hc2 := Lib.hid (Hc1.out.below hb2)
    have Hf2 := Lib.hid (Hf1.out.trans (Frm.of_below hb2 _ _))
    have hs2 := hb2.size
    obtain ⟨p2, k2, rfl, _, _⟩ := ho2.shape
    rw [Hl.out] at ho2 ⊢
    have Ho2 := Lib.hid (show OwnI 3 w2 w1.heap.size w2.heap.size (.slice p2 n k2) xs from ho2)
    clear ho2 hb2
    go_wp2_with fail
    refine (l1Below_any k 4 _ Hc2.out (by omega) (by omega)).mono ?_
    rintro e w3 ⟨m, rfl, hm, hc3, hf3⟩
    have Hc3 := Lib.hid hc3
    have Hf3 := Lib.hid (Hf2.out.trans hf3)
    have Ho3 := Lib.hid (Ho2.out.frm hf3 (Or.inr (by omega)))
    have hs3 := hf3.size
    clear hc3 hf3
    have hm4 : m = 0 ∨ m = 1 ∨ m = 2 ∨ m = 3 := by omega
    rcases hm4 with rfl | rfl | rfl | rfl
    · go_wp2_with fail
      refine (l1Below_any k 9 _ Hc3.out (by omega) (by omega)).mono ?_
      rintro e w4 ⟨x, rfl, hx9, hc4, hf4⟩
      have Hc4 := Lib.hid hc4
      have Hf4 := Lib.hid (Hf3.out.trans hf4)
      have ho4 := Ho3.out.frm hf4 (Or.inr (by omega))
      have hs4 := hf4.size
      have hofn := ho4.fn
      rw [Hl.out] at hofn
      have Hofn := Lib.hid hofn
      have Hb1 := Lib.hid (show n + 1 ≤ maxLen by unfold maxLen; omega)
      have Hb2 := Lib.hid (show (n + 1) * 8 ≤ 140737488355328 by omega)
      clear hc4 hf4 ho4 hofn
      go_wp2_with (at_builtin; go_must (refine wpList_append_F rfl (.tmp 16) (.tmp 20) 24 rfl 3 (.int .i64 0) 8 Try.underlying24 info_int rfl w1.heap.size w2.heap.size _ n (iv xs) rfl (Hofn.out.below (below_alloc w4 _)) (by rw [size_alloc]; omega) (by rw [size_alloc]; omega) _ 1 _ rfl (rd_one _ _ _ rfl) (fun j _ => rfl) Hb1.out Hb2.out ?_; intro v5 w5 ho5 hg5))
      obtain ⟨p5, k5, rfl, _, _⟩ := ho5.shape
      go_wp2_with fail
      go_ret
      have hbx : Below w1.heap.size w4 w5 := ((below_alloc w4 _).mono (by omega)).trans (grownBy_below hg5 Hofn.out.blocks (Nat.le_refl _) (by rw [size_alloc]; omega))
      exact ⟨_, xs ++ [(x : Int) - 1], rfl, IntsO.own (T := 3) (OwnI.snoc1 (by rw [Hl.out]; exact ho5)) (Or.inl (by omega)), Hc4.out.keepB hbx (by omega), Hf4.out.thenB hbx (by omega)⟩
    · have hofn := Ho3.out.fn
      rw [Hl.out] at hofn
      have Hofn := Lib.hid hofn
      have Hb1 := Lib.hid (show n + 1 ≤ maxLen by unfold maxLen; omega)
      have Hb2 := Lib.hid (show (n + 1) * 8 ≤ 140737488355328 by omega)
      clear hofn
      go_wp2_with (at_builtin; go_must (refine wpList_append_F rfl (.tmp 24) (.tmp 27) 24 rfl 3 (.int .i64 0) 8 Try.underlying24 info_int rfl w1.heap.size w2.heap.size _ n (iv xs) rfl (Hofn.out.below (below_alloc w3 _)) (by rw [size_alloc]; omega) (by rw [size_alloc]; omega) _ 1 _ rfl (rd_one _ _ _ rfl) (fun j _ => rfl) Hb1.out Hb2.out ?_; intro v5 w5 ho5 hg5))
      obtain ⟨p5, k5, rfl, _, _⟩ := ho5.shape
      go_wp2_with fail
      go_ret
      have hbx : Below w1.heap.size w3 w5 := ((below_alloc w3 _).mono (by omega)).trans (grownBy_below hg5 Hofn.out.blocks (Nat.le_refl _) (by rw [size_alloc]; omega))
      exact ⟨_, xs ++ [(n : Int)], rfl, IntsO.own (T := 3) (OwnI.snoc1 (by rw [Hl.out]; exact ho5)) (Or.inl (by omega)), Hc3.out.keepB hbx (by omega), Hf3.out.thenB hbx (by omega)⟩
    · have hn0 : (0 : Int) < (n : Int) := by omega
      go_wp2_with fail
      refine (l1Below_any k n _ Hc3.out (by omega) (by omega)).mono ?_
      rintro e w4 ⟨y, rfl, hyn, hc4, hf4⟩
      have Hc4 := Lib.hid hc4
      have Hf4 := Lib.hid (Hf3.out.trans hf4)
      have Ho4 := Lib.hid (Ho3.out.frm hf4 (Or.inr (by omega)))
      have hs4 := hf4.size
      clear hc4 hf4
      go_wp2_with fail
      refine (l1Below_any k 9 _ Hc4.out (by omega) (by omega)).mono ?_
      rintro e w5 ⟨x, rfl, hx9, hc5, hf5⟩
      have Hc5 := Lib.hid hc5
      have Hf5 := Lib.hid (Hf4.out.trans hf5)
      have Ho5 := Lib.hid (Ho4.out.frm hf5 (Or.inr (by omega)))
      have hs5 := hf5.size
      clear hc5 hf5
      have hyi : (y : Int) < (n : Int) := by omega
      have hofn := Ho5.out.fn
      rw [Hl.out] at hofn
      obtain ⟨g2, rfl, hg2a, hg2b, _⟩ := hofn.at_ (by omega)
      have c0 := hofn.cell hyn
      have f0 := hofn.frozen y
      clear hofn
      go_wp2_with fail
      go_ret
      refine ⟨_, xs.set y ((x : Int) - 1), rfl, IntsO.own (OwnI.setG Ho5.out (by rw [Hl.out]; exact hyn) ((x : Int) - 1)) (Or.inl (by omega)), Hc5.out.keepB ((Below.refl w1.heap.size w5).setCell (p := ⟨g2, y, none⟩) (show w1.heap.size ≤ g2 by omega) _) (by omega), Hf5.out.thenB ((Below.refl w1.heap.size w5).setCell (p := ⟨g2, y, none⟩) (show w1.heap.size ≤ g2 by omega) _) (by omega)⟩
    · have hd2 : ((n : Int)).tdiv 2 = ((n / 2 : Nat) : Int) := by rw [Int.tdiv_eq_ediv_of_nonneg (by omega)]; omega
      have hd3 : ((n : Int)) / 2 = ((n / 2 : Nat) : Int) := by omega
      obtain ⟨q, hq⟩ : ∃ q, q = n / 2 := ⟨_, rfl⟩
      rw [← hq] at hd2 hd3
      have hqn : (q : Int) ≤ (n : Int) := by omega
      have hofn := Ho3.out.fn
      rw [Hl.out] at hofn
      obtain ⟨g2, rfl, hg2a, hg2b, _⟩ := hofn.at_ (by omega)
      obtain ⟨_, hnk, hkm⟩ := hofn.le
      have hqk : (q : Int) ≤ (k2 : Int) := by omega
      unfold maxLen at hkm
      clear hofn hq
      have hqx : q ≤ xs.length := by rw [Hl.out]; omega
      have Hpre := Lib.hid (IntsO.pre (k := k) (q := q) (IntsO.own Ho3.out (Or.inl (by omega))) hqx)
      clear hqx
      go_wp2_with fail
      go_ret
      exact ⟨_, _, rfl, Hpre.out, Hc3.out, Hf3.out⟩

theorem letOk_take {n : Nat} {ls : List Int} (h : LetOk n ls) (q : Nat) : LetOk n (ls.take q) := fun j hj => by
  rw [List.length_take] at hj
  obtain ⟨m, h1, h2⟩ := h j (by omega)
  refine ⟨m, ?_, h2⟩
  rw [← h1]
  simp [List.getD_eq_getElem?_getD, show j < q by omega]

/-- what DrawLocalize draws -/
def LcDr (w' : World) (u1 u2 u3 : Value) (zs xs ys : List Int) (n : Nat) : Prop := Ints w' u1 zs ∧ Ints w' u2 xs ∧ Ints w' u3 ys ∧ P5 n xs ∧ 1 ≤ n ∧ ys.length = n ∧ ∀ x ∈ ys, -9 ≤ x ∧ x ≤ 9

set_option maxHeartbeats 8000000 in
theorem DrawLocalize_any (v : Value) (l : Nat) (w : World) (h : Byts w v l) :
    Calls Try.prog 6 #[v] w fun e w' =>
      ∃ (u1 u2 u3 : Value) (zs xs ys : List Int) (n : Nat), e = .returned (.tuple #[u1, u2, u3]) ∧ LcDr w' u1 u2 u3 zs xs ys n ∧ Below w.heap.size w w' := by
  have Hh := Lib.hid h
  obtain ⟨_, _, cap, rfl, _⟩ := h
  go_enter Try.func6, Try.ntmps6
  go_wp2_with fail
  refine (l1New_any _ l _ Hh.out).mono ?_
  rintro e w2 ⟨rfl, hc2, hb2⟩
  have HC2 := Lib.hid hc2
  have HB2 := Lib.hid hb2
  have hk2 := hc2.lt
  clear hc2 hb2
  go_wp2_with fail
  refine (l1Below_any w.heap.size 5 _ HC2.out (by omega) (by omega)).mono ?_
  rintro e w3 ⟨m, rfl, hm, hc3, hf3⟩
  have HC3 := Lib.hid hc3
  have HB3 := Lib.hid (HB2.out.trans (hf3.below (Nat.le_refl _) (by omega)))
  have hs3 := hf3.size
  clear hc3 hf3
  have hmm : 1 + (m : Int) = ((m + 1 : Nat) : Int) := by omega
  obtain ⟨n, hn⟩ : ∃ n, n = m + 1 := ⟨_, rfl⟩
  rw [← hn] at hmm
  have Hmm := Lib.hid hmm
  have hn1 : 1 ≤ n := by omega
  have hn5 : n ≤ 5 := by omega
  clear hn hmm
  go_wp2_with fail
  rw [Hmm.out]
  refine (dPerm_any w.heap.size n _ HC3.out hn1 hn5).mono ?_
  rintro e w4 ⟨u1, xs, rfl, ho4, hp4, hl4, hc4, hf4⟩
  have HO4 := Lib.hid ho4
  have HP4 := Lib.hid (show P5 n xs from ⟨hp4, hl4, hn5⟩)
  have HC4 := Lib.hid hc4
  have HB4 := Lib.hid (HB3.out.trans (hf4.below (Nat.le_refl _) (by omega)))
  have hs4 := hf4.size
  obtain ⟨p4, k4, rfl, hk4, _⟩ := ho4.shape
  rw [hl4] at HO4 hk4 ⊢
  clear ho4 hp4 hl4 hc4 hf4
  go_wp2_with fail
  refine (dReduced_any w.heap.size n _ xs _ HC4.out (HO4.out.mono (by omega) (by omega)) HP4.out hn1).mono ?_
  rintro e w6 ⟨u6, ls, rfl, ho6, hl6, hl10, hc6, hf6⟩
  have HL := Lib.hid hl6
  have HC6 := Lib.hid hc6
  have HB6 := Lib.hid (HB4.out.trans (hf6.below (Nat.le_refl _) (by omega)))
  have HX6 := Lib.hid (HO4.out.frm hf6 (Or.inr (by omega)))
  have hs6 := hf6.size
  obtain ⟨p6, k6, rfl, hk6, hk66⟩ := ho6.shape
  obtain ⟨L, hL⟩ : ∃ L, L = ls.length := ⟨_, rfl⟩
  rw [← hL] at hl10 hk6 ho6 ⊢
  have HLl := Lib.hid hL
  have HO6 := Lib.hid ho6
  unfold maxLen at hk66
  clear ho6 hl6 hc6 hf6 hL
  have hL1 : (L : Int) + 1 = ((L + 1 : Nat) : Int) := by omega
  obtain ⟨L1, hL1'⟩ : ∃ z, z = L + 1 := ⟨_, rfl⟩
  rw [← hL1'] at hL1
  have HL1 := Lib.hid hL1
  have hL1b : L1 ≤ 11 := by omega
  have hL1c : 1 ≤ L1 := by omega
  have HL1' := Lib.hid hL1'
  clear hL1 hL1'
  go_wp2_with fail
  rw [HL1.out]
  refine (l1Below_any w.heap.size L1 _ HC6.out hL1c (by omega)).mono ?_
  rintro e w7 ⟨q, rfl, hq, hc7, hf7⟩
  have HC7 := Lib.hid hc7
  have HB7 := Lib.hid (HB6.out.trans (hf7.below (Nat.le_refl _) (by omega)))
  have HX7 := Lib.hid (HX6.out.frm hf7 (Or.inr (by omega)))
  have hs7 := hf7.size
  have hqL : q ≤ L := by have := HL1'.out; omega
  have hqk : (q : Int) ≤ (k6 : Int) := by omega
  have hpre := IntsO.pre (k := w.heap.size) (q := q) (IntsO.own (HO6.out.frm hf7 (Or.inr (by omega))) (Or.inl (by omega))) (by rw [← HLl.out]; exact hqL)
  have HPr := Lib.hid hpre.ints
  have HLp := Lib.hid (show LetOk n (ls.take q) from letOk_take HL.out q)
  clear hc7 hf7 hpre
  go_wp2_with fail
  have hlq : (ls.take q).length = q := by rw [List.length_take, ← HLl.out]; omega
  have HPl := Lib.hid (l1Play_any n (.slice p6 q k6) (ls.take q) true w7 HPr.out HLp.out hn1 hn5)
  clear hlq
  refine HPl.out.mono ?_
  rintro e w8 ⟨u8, vs, rfl, ho8, hp8, hb8⟩
  have HO8 := Lib.hid ho8
  have HP8 := Lib.hid hp8
  have HC8 := Lib.hid (HC7.out.below hb8)
  have hs8 := hb8.size
  have HB8 := Lib.hid (HB7.out.trans (hb8.mono (by omega)))
  have HX8 := Lib.hid (HX7.out.below hb8)
  obtain ⟨p8, k8, rfl, _, _⟩ := ho8.shape
  rw [hp8.len] at HO8 ⊢
  clear ho8 hp8 hb8
  go_wp2_with fail
  refine (l1Once_any w.heap.size 4 _ HC8.out (by omega) (by omega)).mono ?_
  rintro e w9 ⟨b, rfl, hc9, hf9⟩
  have HC9 := Lib.hid hc9
  have HB9 := Lib.hid (HB8.out.trans (hf9.below (Nat.le_refl _) (by omega)))
  have HX9 := Lib.hid (HX8.out.frm hf9 (Or.inr (by omega)))
  have HO9 := Lib.hid (HO8.out.frm hf9 (Or.inr (by omega)))
  have hs9 := hf9.size
  clear hc9 hf9
  cases b with
  | false =>
    go_wp2_with fail
    refine (dBent_any w.heap.size n _ vs _ HC9.out (HO9.out.mono (by omega) (by omega)) HP8.out.len hn1 hn5).mono ?_
    rintro e w11 ⟨u11, zs, rfl, hz11, hc11, hf11⟩
    have HZ11 := Lib.hid hz11
    have HC11 := Lib.hid hc11
    have HB11 := Lib.hid (HB9.out.trans (hf11.below (Nat.le_refl _) (by omega)))
    have HX11 := Lib.hid (HX9.out.frm hf11 (Or.inr (by omega)))
    have hs11 := hf11.size
    obtain ⟨p11, k11, rfl, _, _⟩ := id hz11
    obtain ⟨zl, hzl⟩ : ∃ z, z = zs.length := ⟨_, rfl⟩
    rw [← hzl] at HZ11 ⊢
    clear hz11 hc11 hf11 hzl
    go_wp2_with fail
    refine (dShifts_any w.heap.size n _ HC11.out (by omega)).mono ?_
    rintro e w12 ⟨u12, ys, rfl, hy12, hyl, hy9, hc12, hf12⟩
    have HFin := Lib.hid (show LcDr w12 (.slice p11 zl k11) (.slice p4 n k4) u12 zs xs ys n from ⟨(HZ11.out.frm hf12).ints, (HX11.out.frm hf12 (Or.inr (by omega))).ints, hy12.ints, HP4.out, hn1, hyl, hy9⟩)
    have HB12 := Lib.hid (HB11.out.trans (hf12.below (Nat.le_refl _) (by omega)))
    obtain ⟨p12, k12, rfl, _, _⟩ := hy12.shape
    obtain ⟨yl, hyl2⟩ : ∃ z, z = ys.length := ⟨_, rfl⟩
    rw [← hyl2] at HFin ⊢
    clear hy12 hyl hy9 hc12 hf12 hyl2
    go_wp2_with fail
    go_ret3
    exact ⟨_, _, _, zs, xs, ys, n, rfl, HFin.out, HB12.out⟩
  | true =>
    go_wp2_with fail
    refine (dPerm_any w.heap.size n _ HC9.out hn1 hn5).mono ?_
    rintro e w10 ⟨u10, vs2, rfl, ho10, hp10, hl10, hc10, hf10⟩
    have HO10 := Lib.hid ho10
    have HC10 := Lib.hid hc10
    have HB10 := Lib.hid (HB9.out.trans (hf10.below (Nat.le_refl _) (by omega)))
    have HX10 := Lib.hid (HX9.out.frm hf10 (Or.inr (by omega)))
    have HL10 := Lib.hid hl10
    have hs10 := hf10.size
    obtain ⟨p10, k10, rfl, _, _⟩ := ho10.shape
    rw [hl10] at HO10 ⊢
    clear ho10 hp10 hl10 hc10 hf10
    go_wp2_with fail
    refine (dBent_any w.heap.size n _ vs2 _ HC10.out (HO10.out.mono (by omega) (by omega)) HL10.out hn1 hn5).mono ?_
    rintro e w11 ⟨u11, zs, rfl, hz11, hc11, hf11⟩
    have HZ11 := Lib.hid hz11
    have HC11 := Lib.hid hc11
    have HB11 := Lib.hid (HB10.out.trans (hf11.below (Nat.le_refl _) (by omega)))
    have HX11 := Lib.hid (HX10.out.frm hf11 (Or.inr (by omega)))
    have hs11 := hf11.size
    obtain ⟨p11, k11, rfl, _, _⟩ := id hz11
    obtain ⟨zl, hzl⟩ : ∃ z, z = zs.length := ⟨_, rfl⟩
    rw [← hzl] at HZ11 ⊢
    clear hz11 hc11 hf11 hzl
    go_wp2_with fail
    refine (dShifts_any w.heap.size n _ HC11.out (by omega)).mono ?_
    rintro e w12 ⟨u12, ys, rfl, hy12, hyl, hy9, hc12, hf12⟩
    have HFin := Lib.hid (show LcDr w12 (.slice p11 zl k11) (.slice p4 n k4) u12 zs xs ys n from ⟨(HZ11.out.frm hf12).ints, (HX11.out.frm hf12 (Or.inr (by omega))).ints, hy12.ints, HP4.out, hn1, hyl, hy9⟩)
    have HB12 := Lib.hid (HB11.out.trans (hf12.below (Nat.le_refl _) (by omega)))
    obtain ⟨p12, k12, rfl, _, _⟩ := hy12.shape
    obtain ⟨yl, hyl2⟩ : ∃ z, z = ys.length := ⟨_, rfl⟩
    rw [← hyl2] at HFin ⊢
    clear hy12 hyl hy9 hc12 hf12 hyl2
    go_wp2_with fail
    go_ret3
    exact ⟨_, _, _, zs, xs, ys, n, rfl, HFin.out, HB12.out⟩

end Go.Proofs.Ytllmhicmikpfeaa

namespace Go.Proofs.Ytllmhicmikpfeaa
set_option linter.all false
open Go.RowKit

set_option maxRecDepth 100000 in
set_option maxHeartbeats 400000 in
theorem l1Same_any (v1 v2 : Value) (xs ys : List Int) (w : World) (h1 : Ints w v1 xs) (h2 : Ints w v2 ys) :
    Calls Try.prog 77 #[v1, v2] w fun e w' => e = .returned (.bool (decide (xs = ys))) ∧ Qt w w' := by
  obtain ⟨p, cap, rfl, ⟨hx1, hx⟩, hxc⟩ := h1
  obtain ⟨q, cap', rfl, ⟨hy1, hy⟩, hyc⟩ := h2
  unfold maxLen at hx hy
  by_cases hl : xs.length = ys.length
  · have e1 : ((xs.length : Int) != (ys.length : Int)) = false := by simp [hl]
    have Hl := Lib.hid hl
    clear hl
    go_enter Try.func77, Try.ntmps77
    go_wp2
    clear e1
    go_loopg [5] xs.length (fun g i wr => ∃ k : Nat, k ≤ xs.length ∧ g = xs.length - k ∧ i = .int .i64 k ∧ Qt w wr ∧ Hid (∀ j, j < k → xs.getD j 0 = ys.getD j 0))
    case atStart => exact ⟨0, Nat.zero_le _, rfl, rfl, Qt.refl _, fun j hj => absurd hj (Nat.not_lt_zero _)⟩
    case round =>
      obtain ⟨k, hk, rfl, rfl, hq, hp⟩ := hrel
      by_cases hlt : k < xs.length
      · obtain ⟨b, off, rfl, hc⟩ := hxc (by omega)
        have hl := Hl.out
        obtain ⟨b', off', rfl, hc'⟩ := hyc (by omega)
        have c1 := hq.cell (hc k hlt)
        have c2 := hq.cell (hc' k (by omega))
        have hk2 : k < ys.length := by omega
        unfold iv at c1 c2
        clear hl hxc hyc hc hc'
        go_wp2
        go_quiet (fail)
        go_wp2
        · have ht : (xs[k] != ys[k]) = true := by assumption
          go_ret
          refine ⟨ret_bool ?_, hq.drewN _⟩
          symm
          simp only [decide_eq_false_iff_not]
          intro e
          subst e
          simp at ht
        · have ht : (xs[k] != ys[k]) = false := by assumption
          go_roundg (xs.length - (k + 1))
          case measure => omega
          case rel =>
            refine ⟨k + 1, by omega, rfl, by go_num, hq.drewN _, eq_snoc hp.out ?_⟩
            have := by simpa using ht
            simpa [List.getD_eq_getElem?_getD, hlt, hk2] using this
      · go_wp2
        go_ret
        refine ⟨ret_bool ?_, hq⟩
        symm
        simp only [decide_eq_true_eq]
        exact getD_eq_list Hl.out fun j hj => hp.out j (by omega)
  · have e1 : ((xs.length : Int) != (ys.length : Int)) = true := by simp; omega
    go_enter Try.func77, Try.ntmps77
    go_wp2
    go_ret
    refine ⟨ret_bool ?_, Qt.refl _⟩
    symm
    simp only [decide_eq_false_iff_not]
    intro e
    exact hl (by rw [e])

end Go.Proofs.Ytllmhicmikpfeaa
