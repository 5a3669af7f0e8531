/-
  The code and the length of a permutation, in the program.
  Words, and a permutation after another: plain.
  Double polynomials as sums over all ways to divide a permutation. Plain.
  The sum over all ways to divide a permutation, reckoned for permutations of at most four. Plain.
  How great the numbers of these polynomials are; the sum that the law FnCauchy asks for. Plain.
  closed: a polynomial as the list of its terms.
-/
import Derived.Test.YtgebjjpcgakjgaaGreatJ2
import Derived.Test.YtgebjjpcgakjgaaGreatJ3
import Derived.Test.YtgebjjpcgakjgaaGreatJ8
import Derived.Test.YtgebjjpcgakjgaaGreatJ6
import Derived.Test.YtgebjjpcgakjgaaGreatJ5
import Derived.Test.YtgebjjpcgakjgaaGreatJ4
namespace Go.Proofs.YtgebjjpcgakjgaaGreat
set_option linter.all false
open Go.RowKit

/-- how many of the t numbers behind place i are less than the one there -/
def cdN (xs : List Int) (i t : Nat) : Nat := ((List.range t).filter fun (s : Nat) => decide (xs.getD (i + 1 + s) 0 < xs.getD i 0)).length
theorem cdN_zero (xs : List Int) (i : Nat) : cdN xs i 0 = 0 := rfl
theorem cdN_yes {xs : List Int} {i t : Nat} (h : xs.getD (i + 1 + t) 0 < xs.getD i 0) : cdN xs i (t + 1) = cdN xs i t + 1 := by
  unfold cdN
  rw [List.range_succ, List.filter_append, List.length_append]
  have e : List.filter (fun (s : Nat) => decide (xs.getD (i + 1 + s) 0 < xs.getD i 0)) [t] = [t] := by
    rw [List.filter_cons, if_pos (decide_eq_true h)]; rfl
  rw [e]; rfl
theorem cdN_no {xs : List Int} {i t : Nat} (h : ¬ xs.getD (i + 1 + t) 0 < xs.getD i 0) : cdN xs i (t + 1) = cdN xs i t := by
  unfold cdN
  rw [List.range_succ, List.filter_append, List.length_append]
  have e : List.filter (fun (s : Nat) => decide (xs.getD (i + 1 + s) 0 < xs.getD i 0)) [t] = [] := by
    rw [List.filter_cons, if_neg (by rw [decide_eq_false h]; simp)]; rfl
  rw [e]; rfl
theorem cdN_le (xs : List Int) (i t : Nat) : cdN xs i t ≤ t := by
  unfold cdN
  exact Nat.le_trans (List.length_filter_le _ _) (by simp)
/-- the code -/
def codeN (xs : List Int) (i : Nat) : Nat := cdN xs i (xs.length - (i + 1))
def codeL (xs : List Int) : List Int := (List.range xs.length).map fun i => (codeN xs i : Int)
theorem codeL_length (xs : List Int) : (codeL xs).length = xs.length := by simp [codeL]
theorem codeL_getD {xs : List Int} {i : Nat} (h : i < xs.length) : (codeL xs).getD i 0 = (codeN xs i : Int) := by simp [codeL, List.getD_eq_getElem?_getD, h]
/-- the length, place by place -/
def lenTo (xs : List Int) : Nat → Nat
  | 0 => 0
  | k + 1 => lenTo xs k + codeN xs k
def lenP (xs : List Int) : Nat := lenTo xs xs.length
theorem lenTo_le (xs : List Int) : ∀ k, lenTo xs k ≤ k * xs.length
  | 0 => by simp [lenTo]
  | k + 1 => by
    have := lenTo_le xs k
    have h2 := cdN_le xs k (xs.length - (k + 1))
    unfold lenTo codeN
    rw [Nat.succ_mul]; omega

set_option maxRecDepth 100000 in
set_option maxHeartbeats 2000000 in
theorem implCode_any (v : Value) (xs : List Int) (w : World) (h : Ints w v xs) (hp : permOk xs = true) :
    Calls Tryz.prog 28 #[v] w (RetI w (codeL xs)) := by
  obtain ⟨hl1, hl7, _, _⟩ := of_decide_eq_true hp
  have Hp := Lib.hid hp
  have Hh := Lib.hid h
  obtain ⟨p, cap, rfl, ⟨hx1, hx⟩, hxc⟩ := h
  obtain ⟨b, off, rfl, hc⟩ := hxc (by omega)
  unfold maxLen at hx
  have Hc := Lib.hid hc
  have hmk := run_make_row' (P := Tryz.prog) 24 3 (.int .i64 0) 8 Tryz.underlying24 info_int rfl .i64 .i64 xs.length (by omega) (by omega)
  have Hmk := Lib.hid hmk
  clear hp hxc hc hmk
  go_enter Tryz.func28, Tryz.ntmps28
  go_wp2_with fail
  refine (implIsPerm_b _ xs _ Hp.out _ Hh.out).mono ?_
  rintro e w1 ⟨rfl, hb⟩
  have Hb1 := Lib.hid hb
  have hmk := Hmk.out
  clear hb
  go_wp2_with fail
  clear hmk
  obtain ⟨w2, hw2⟩ : ∃ x, x = w1.alloc (.cells (madeCells #[Value.int .i64 0] xs.length) 3) := ⟨_, rfl⟩
  have Hbl := Lib.hid (show Below w.heap.size w w2 by rw [hw2]; exact Hb1.out.trans ((below_alloc w1 _).mono Hb1.out.size))
  have Hs := Lib.hid (show w.heap.size ≤ w1.heap.size ∧ w2.heap.size = w1.heap.size + 1 from ⟨Hb1.out.size, by rw [hw2, size_alloc]⟩)
  have hO : OwnF w2 w1.heap.size (w1.heap.size + 1) 3 (.slice (some ⟨w1.heap.size, 0, none⟩) xs.length xs.length) xs.length (fun _ => .int .i64 0) := by
    rw [hw2]
    have := World.rowIs_alloc w1 (madeCells #[Value.int .i64 0] xs.length) 3 (fun _ => .int .i64 0) (fun k hk => by
      simp [madeCells] at hk
      simp [madeCells, hk, Nat.mod_one])
    exact OwnF.mk' (F := fun _ => .int .i64 0) (by simpa [madeCells] using this) (Nat.le_refl _) (by omega) (Nat.le_refl _) (by unfold maxLen; omega) fun j hj => rfl
  have HO := Lib.hid hO
  rw [← hw2]
  clear hw2 hO
  go_loopg [15] xs.length (fun gg s15 wr => ∃ i : Nat, i ≤ xs.length ∧ gg = xs.length - i ∧ s15 = .int .i64 i ∧ Frm w1.heap.size (w1.heap.size + 1) w2 wr ∧ Hid (OwnF wr w1.heap.size (w1.heap.size + 1) 3 (.slice (some ⟨w1.heap.size, 0, none⟩) xs.length xs.length) xs.length (fun j => .int .i64 (if j < i then (codeN xs j : Int) else 0))))
  case atStart => exact ⟨0, Nat.zero_le _, rfl, rfl, Frm.refl _ _ _, HO.out.congr fun j hj => by simp⟩
  case round =>
    obtain ⟨i, hi, rfl, rfl, hF, hO⟩ := hrel
    obtain ⟨wo, rfl⟩ : ∃ x : World, x = wr := ⟨_, rfl⟩
    have HF := Lib.hid hF
    have HO1 := Lib.hid hO.out
    clear hO hF
    have Hbw := fun (W : World) (hf : Frm w1.heap.size (w1.heap.size + 1) w2 W) => show Below w.heap.size w W from Hbl.out.trans (hf.below Hs.out.1 Hbl.out.size)
    have HBw := Lib.hid Hbw
    clear Hbw
    by_cases hlt : i < xs.length
    · have hlt2 : (i : Int) < (xs.length : Int) := by omega
      have hlt3 : (0 : Int) ≤ (i : Int) := by omega
      have hlt4 : (i : Int) + 1 ≤ (xs.length : Int) := by omega
      have hlt5 : (0 : Int) ≤ (i : Int) + 1 := by omega
      have hlt6 : ((i : Int) + 1).toNat = i + 1 := by omega
      by_cases hcap : cap = i + 1
      · have hn : xs.length - (i + 1) = 0 := by omega
        have Hcap := Lib.hid hcap
        have hcap3 : cap - (i + 1) = 0 := by omega
        have hcap4 : (i : Int) + 1 ≤ (cap : Int) := by omega
        clear hcap
        go_wp2_with fail
        go_loopg [23] (xs.length - (i + 1)) (fun gg s23 wr => ∃ t : Nat, t ≤ xs.length - (i + 1) ∧ gg = xs.length - (i + 1) - t ∧ s23 = .int .i64 t ∧ Frm w1.heap.size (w1.heap.size + 1) w2 wr ∧ Hid (OwnF wr w1.heap.size (w1.heap.size + 1) 3 (.slice (some ⟨w1.heap.size, 0, none⟩) xs.length xs.length) xs.length (fun j => .int .i64 (if j < i then (codeN xs j : Int) else if j = i then (cdN xs i t : Int) else 0))))
        case atStart => exact ⟨0, Nat.zero_le _, rfl, rfl, HF.out, HO1.out.congr fun j hj => by
          by_cases h1 : j < i
          · simp [h1]
          · simp [h1, cdN_zero]⟩
        case round =>
          obtain ⟨t, ht, rfl, rfl, hF, hO⟩ := hrel
          have HF2 := Lib.hid hF
          have HO2 := Lib.hid hO.out
          clear hF hO
          by_cases htl : t < xs.length - (i + 1)
          · exact absurd htl (by omega)
          · obtain rfl : t = xs.length - (i + 1) := by omega
            have htl2 : ¬ ((xs.length - (i + 1) : Nat) : Int) < ((xs.length - (i + 1) : Nat) : Int) := by omega
            have HO3 := Lib.hid (show OwnF wr w1.heap.size (w1.heap.size + 1) 3 (.slice (some ⟨w1.heap.size, 0, none⟩) xs.length xs.length) xs.length (fun j => .int .i64 (if j < i + 1 then (codeN xs j : Int) else 0)) from HO2.out.congr fun j hj => by
              by_cases h1 : j < i
              · rw [if_pos h1, if_pos (by omega)]
              · by_cases h2 : j = i
                · subst h2; rw [if_neg h1, if_pos rfl, if_pos (by omega)]; rfl
                · rw [if_neg h1, if_neg h2, if_neg (by omega)])
            go_wp2_with fail
            go_roundg (xs.length - (i + 1))
            case measure => omega
            case rel => exact ⟨i + 1, by omega, rfl, by go_num, HF2.out, HO3.out⟩
      · have hcap2 : ¬ cap - (i + 1) = 0 := by omega
        go_wp2_with fail
        go_loopg [23] (xs.length - (i + 1)) (fun gg s23 wr => ∃ t : Nat, t ≤ xs.length - (i + 1) ∧ gg = xs.length - (i + 1) - t ∧ s23 = .int .i64 t ∧ Frm w1.heap.size (w1.heap.size + 1) w2 wr ∧ Hid (OwnF wr w1.heap.size (w1.heap.size + 1) 3 (.slice (some ⟨w1.heap.size, 0, none⟩) xs.length xs.length) xs.length (fun j => .int .i64 (if j < i then (codeN xs j : Int) else if j = i then (cdN xs i t : Int) else 0))))
        case atStart => exact ⟨0, Nat.zero_le _, rfl, rfl, HF.out, HO1.out.congr fun j hj => by
          by_cases h1 : j < i
          · simp [h1]
          · simp [h1, cdN_zero]⟩
        case round =>
          obtain ⟨t, ht, rfl, rfl, hF, hO⟩ := hrel
          have HF2 := Lib.hid hF
          have HO2 := Lib.hid hO.out
          clear hF hO
          by_cases htl : t < xs.length - (i + 1)
          · have htl2 : (t : Int) < ((xs.length - (i + 1) : Nat) : Int) := by omega
            have htl3 : (0 : Int) ≤ (t : Int) := by omega
            have hk1 := Hc.out (i + 1 + t) (by omega)
            have hk2 := Hc.out i hlt
            have hbw := HBw.out wr HF2.out
            have c1 : wr.cell? ⟨b, off + (i + 1) + t, none⟩ = some (.int .i64 (xs.getD (i + 1 + t) 0)) := by
              rw [show off + (i + 1) + t = off + (i + 1 + t) by omega, hbw.cell (p := ⟨b, off + (i + 1 + t), none⟩) (World.block_lt_of_cell? _ _ hk1), hk1]; rfl
            have c2 : wr.cell? ⟨b, off + i, none⟩ = some (.int .i64 (xs.getD i 0)) := by
              rw [hbw.cell (p := ⟨b, off + i, none⟩) (World.block_lt_of_cell? _ _ hk2), hk2]; rfl
            have c3 := HO2.out.cell hlt
            have c4 := HO2.out.frozen i
            rw [if_neg (Nat.lt_irrefl i), if_pos rfl] at c3
            have hle := cdN_le xs i t
            obtain ⟨x, hx'⟩ : ∃ x, x = xs.getD i 0 := ⟨_, rfl⟩
            obtain ⟨y, hy'⟩ : ∃ y, y = xs.getD (i + 1 + t) 0 := ⟨_, rfl⟩
            obtain ⟨c, hc'⟩ : ∃ c, c = cdN xs i t := ⟨_, rfl⟩
            rw [← hy'] at c1
            rw [← hx'] at c2
            rw [← hc'] at c3 hle
            have Hx := Lib.hid hx'
            have Hy := Lib.hid hy'
            have Hcc := Lib.hid hc'
            clear hk1 hk2 hbw hx' hy' hc'
            by_cases hlt9 : y < x
            · have HG := Lib.hid (show cdN xs i (t + 1) = c + 1 by rw [cdN_yes (by rw [← Hx.out, ← Hy.out]; exact hlt9), Hcc.out])
              go_wp2_with fail
              go_roundg (xs.length - (i + 1) - (t + 1))
              case measure => omega
              case rel =>
                refine ⟨t + 1, by omega, rfl, by go_num, HF2.out.setCell (p := ⟨w1.heap.size, i, none⟩) (Nat.le_refl _) (Nat.lt_succ_self _) _, ?_⟩
                refine (HO2.out.set i _).congr fun j hj => ?_
                by_cases h1 : j = i
                · subst h1; rw [if_pos rfl, if_neg (Nat.lt_irrefl _), if_pos rfl, HG.out]; go_num
                · rw [if_neg h1]
                  simp only [h1, if_false]
            · have HG := Lib.hid (show cdN xs i (t + 1) = cdN xs i t from cdN_no (by rw [← Hx.out, ← Hy.out]; exact hlt9))
              go_wp2_with fail
              go_roundg (xs.length - (i + 1) - (t + 1))
              case measure => omega
              case rel => exact ⟨t + 1, by omega, rfl, by go_num, HF2.out, by show OwnF _ _ _ _ _ _ _; rw [HG.out]; exact HO2.out⟩
          · obtain rfl : t = xs.length - (i + 1) := by omega
            have htl2 : ¬ ((xs.length - (i + 1) : Nat) : Int) < ((xs.length - (i + 1) : Nat) : Int) := by omega
            have HO3 := Lib.hid (show OwnF wr w1.heap.size (w1.heap.size + 1) 3 (.slice (some ⟨w1.heap.size, 0, none⟩) xs.length xs.length) xs.length (fun j => .int .i64 (if j < i + 1 then (codeN xs j : Int) else 0)) from HO2.out.congr fun j hj => by
              by_cases h1 : j < i
              · rw [if_pos h1, if_pos (by omega)]
              · by_cases h2 : j = i
                · subst h2; rw [if_neg h1, if_pos rfl, if_pos (by omega)]; rfl
                · rw [if_neg h1, if_neg h2, if_neg (by omega)])
            go_wp2_with fail
            go_roundg (xs.length - (i + 1))
            case measure => omega
            case rel => exact ⟨i + 1, by omega, rfl, by go_num, HF2.out, HO3.out⟩
    · obtain rfl : i = xs.length := by omega
      have hlt2 : ¬ (xs.length : Int) < (xs.length : Int) := by omega
      have HO9 := Lib.hid (show OwnI 3 wo w1.heap.size (w1.heap.size + 1) (.slice (some ⟨w1.heap.size, 0, none⟩) xs.length xs.length) (codeL xs) by
        refine OwnF.ints ?_
        rw [codeL_length]
        exact HO1.out.congr fun j hj => by rw [if_pos hj]; unfold iv; rw [codeL_getD hj])
      go_wp2_with fail
      go_ret
      exact ⟨_, rfl, HO9.out.mono Hs.out.1 (by have := Hs.out.2; have := HF.out.size; omega), HBw.out _ HF.out⟩

set_option maxRecDepth 100000 in
set_option maxHeartbeats 2000000 in
theorem implLength_any (v : Value) (xs : List Int) (w : World) (h : Ints w v xs) (hp : permOk xs = true) :
    Calls Tryz.prog 10 #[v] w fun e w' => e = .returned (.int .i64 (lenP xs : Int)) ∧ Below w.heap.size w w' := by
  obtain ⟨hl1, hl7, _, _⟩ := of_decide_eq_true hp
  have Hp := Lib.hid hp
  have Hh := Lib.hid h
  clear hp h
  go_enter Tryz.func10, Tryz.ntmps10
  go_wp2_with fail
  refine (implIsPerm_b _ xs _ Hp.out _ Hh.out).mono ?_
  rintro e w1 ⟨rfl, hb⟩
  have Hb1 := Lib.hid hb
  have Hh1 := Lib.hid (Hh.out.below hb)
  clear hb
  go_wp2_with fail
  refine (implCode_any _ xs _ Hh1.out Hp.out).mono ?_
  rintro e w2 ⟨u, rfl, ho, hb⟩
  have hoi := ho.ints
  obtain ⟨p, cap, rfl, ⟨hx1, hx⟩, hxc⟩ := hoi
  rw [codeL_length] at *
  unfold maxLen at hx
  have Hb2 := Lib.hid (Hb1.out.trans (hb.mono Hb1.out.size))
  obtain ⟨b, off, rfl, hc⟩ := hxc (by omega)
  have Hc := Lib.hid hc
  clear hb ho hxc hc
  go_wp2_with fail
  go_loop [3, 12] (fun s3 s12 => ∃ k : Nat, k ≤ xs.length ∧ s12 = .int .i64 k ∧ s3 = .int .i64 (lenTo xs k : Int)) (fun _ s12 => xs.length - (intOf s12).toNat)
  case atStart => exact ⟨0, Nat.zero_le _, rfl, rfl⟩
  case round =>
    obtain ⟨k, hk, rfl, rfl⟩ := hrel
    by_cases hlt : k < xs.length
    · have hlt2 : (k : Int) < (xs.length : Int) := by omega
      have hlt3 : (0 : Int) ≤ (k : Int) := by omega
      have c1 := Hc.out k hlt
      unfold iv at c1
      rw [codeL_getD hlt] at c1
      have hle := lenTo_le xs k
      have hle2 : codeN xs k ≤ xs.length - (k + 1) := cdN_le xs k _
      have hle3 : k * xs.length ≤ 7 * 7 := Nat.mul_le_mul (by omega) hl7
      have HS := Lib.hid (show lenTo xs (k + 1) = lenTo xs k + codeN xs k from rfl)
      obtain ⟨A, hA⟩ : ∃ A, A = lenTo xs k := ⟨_, rfl⟩
      obtain ⟨B, hB⟩ : ∃ B, B = codeN xs k := ⟨_, rfl⟩
      have hAl : A ≤ 49 := by omega
      have hBl : B ≤ 7 := by omega
      rw [← hA, ← hB] at HS
      rw [← hB] at c1
      rw [← hA]
      clear hA hB hle hle2 hle3
      go_wp2_with fail
      go_round
      case rel => exact ⟨k + 1, by omega, by go_num, by rw [HS.out]; go_num⟩
      case measure => simp [intOf]; omega
    · obtain rfl : k = xs.length := by omega
      have hlt2 : ¬ (xs.length : Int) < (xs.length : Int) := by omega
      go_wp2_with fail
      go_ret
      exact ⟨rfl, Hb2.out⟩

end Go.Proofs.YtgebjjpcgakjgaaGreat

namespace Go.Proofs.YtgebjjpcgakjgaaGreat
set_option linter.all false
set_option maxRecDepth 100000
open Go.RowKit

/-! ### words -/
def upK1 (k : Nat) (b : List Int) : List Int := if ascB k b then sw k b else b
def dmz (x : List Nat) (v : List Int) : List Int := x.foldl (fun w k => upK1 k w) v
theorem dmz_snoc (x : List Nat) (k : Nat) (v : List Int) : dmz (x ++ [k]) v = upK1 k (dmz x v) := by simp [dmz]
theorem dmz_append (x y : List Nat) (v : List Int) : dmz (x ++ y) v = dmz y (dmz x v) := by simp [dmz]
theorem play_snoc' (r : List Nat) (k : Nat) (u : List Int) : play (r ++ [k]) u = sw k (play r u) := by simp [play]
theorem play_ok {n : Nat} : ∀ (r : List Nat) (u : List Int), P5 n u → (∀ j ∈ r, j + 1 < n) → P5 n (play r u)
  | [], _, h, _ => h
  | k :: r, u, h, hr => play_ok r (sw k u) (h.sw (hr k List.mem_cons_self)) fun j hj => hr j (List.mem_cons_of_mem _ hj)
theorem ln_asc {n : Nat} {v : List Int} (h : P5 n v) {k : Nat} (hk : k + 1 < n) (ha : ascB k v = true) : lnN (sw k v) = lnN v + 1 := by
  have a := (wrd_at h).2.2.2
  have b := (wrd_at (h.sw hk)).2.2.2
  have c := (h.asc hk ha).1
  omega
theorem ln_step {n : Nat} {v : List Int} (h : P5 n v) {k : Nat} (hk : k + 1 < n) : lnN (sw k v) ≤ lnN v + 1 := by
  cases ha : ascB k v with
  | true => rw [ln_asc h hk ha]; exact Nat.le_refl _
  | false => have := len_desc h hk ha; omega
theorem ln_play {n : Nat} : ∀ (r : List Nat) (u : List Int), P5 n u → (∀ j ∈ r, j + 1 < n) → lnN (play r u) ≤ lnN u + r.length
  | [], _, _, _ => Nat.le_refl _
  | k :: r, u, h, hr => by
    have h1 := ln_play r (sw k u) (h.sw (hr k List.mem_cons_self)) fun j hj => hr j (List.mem_cons_of_mem _ hj)
    have h2 := ln_step h (hr k List.mem_cons_self)
    show lnN (play r (sw k u)) ≤ _
    rw [List.length_cons]; omega
/-- the last letter of a word that is as long as can be -/
theorem last_up {n : Nat} {r : List Nat} {k : Nat} {u : List Int} (hu : P5 n u) (hr : ∀ j ∈ r ++ [k], j + 1 < n) (h : lnN (play (r ++ [k]) u) = lnN u + (r ++ [k]).length) :
    k + 1 < n ∧ (∀ j ∈ r, j + 1 < n) ∧ P5 n (play r u) ∧ lnN (play r u) = lnN u + r.length ∧ ascB k (play r u) = true := by
  have hk : k + 1 < n := hr k (by simp)
  have hr' : ∀ j ∈ r, j + 1 < n := fun j hj => hr j (by simp [hj])
  have hp := play_ok r u hu hr'
  have h1 := ln_play r u hu hr'
  rw [play_snoc', List.length_append] at h
  simp only [List.length_singleton] at h
  have h2 := ln_step hp hk
  refine ⟨hk, hr', hp, by omega, ?_⟩
  cases ha : ascB k (play r u) with
  | true => rfl
  | false => have := len_desc hp hk ha; omega
/-- a word that makes longer at each step -/
theorem dmz_play {n : Nat} : ∀ (m : Nat) (r : List Nat) (u : List Int), r.length = m → P5 n u → (∀ j ∈ r, j + 1 < n) → lnN (play r u) = lnN u + r.length → dmz r u = play r u
  | 0, r, u, hm, _, _, _ => by rw [List.length_eq_zero_iff.1 hm]; rfl
  | m + 1, r, u, hm, hu, hr, h => by
    obtain ⟨r', k, rfl⟩ : ∃ r' k, r = r' ++ [k] := by
      rcases List.eq_nil_or_concat r with e | ⟨r', k, e⟩
      · rw [e] at hm; simp at hm
      · exact ⟨r', k, by simpa using e⟩
    obtain ⟨hk, hr', hp, hl, ha⟩ := last_up hu hr h
    rw [dmz_snoc, dmz_play m r' u (by simpa using hm) hu hr' hl, play_snoc', upK1, if_pos ha]
/-- a permutation after another -/
def cmpL (v u : List Int) : List Int := u.map fun x => v.getD x.toNat 0
theorem cmpL_length (v u : List Int) : (cmpL v u).length = u.length := by simp [cmpL]
theorem cmpL_getD {v u : List Int} {i : Nat} (h : i < u.length) : (cmpL v u).getD i 0 = v.getD (u.getD i 0).toNat 0 := by simp [cmpL, List.getD_eq_getElem?_getD, h]
theorem cmpL_sw (v u : List Int) {k : Nat} (hk : k + 1 < u.length) : cmpL v (sw k u) = sw k (cmpL v u) := by
  refine getD_eq_list (by rw [cmpL_length, sw_length, sw_length, cmpL_length]) fun j hj => ?_
  rw [cmpL_length, sw_length] at hj
  rw [cmpL_getD (by rw [sw_length]; exact hj)]
  unfold sw
  rw [swapL_getD (by omega) hk, swapL_getD (by rw [cmpL_length]; omega) (by rw [cmpL_length]; exact hk), cmpL_getD (by omega), cmpL_getD hk, cmpL_getD hj]
  by_cases h1 : j = k + 1
  · rw [if_pos h1, if_pos h1]
  · rw [if_neg h1, if_neg h1]
    by_cases h2 : j = k
    · rw [if_pos h2, if_pos h2]
    · rw [if_neg h2, if_neg h2]
theorem cmpL_id {n : Nat} {v : List Int} (hv : v.length = n) : cmpL v (idL n) = v := by
  refine getD_eq_list (by rw [cmpL_length, idL_length, hv]) fun j hj => ?_
  rw [cmpL_length, idL_length] at hj
  rw [cmpL_getD (by rw [idL_length]; exact hj), idL_getD hj, Int.toNat_natCast]
theorem cmpL_play {n : Nat} {v : List Int} : ∀ (r : List Nat) (u : List Int), u.length = n → (∀ j ∈ r, j + 1 < n) → cmpL v (play r u) = play r (cmpL v u)
  | [], _, _, _ => rfl
  | k :: r, u, hu, hr => by
    show cmpL v (play r (sw k u)) = play r (sw k (cmpL v u))
    rw [cmpL_play r (sw k u) (by rw [sw_length]; exact hu) fun j hj => hr j (List.mem_cons_of_mem _ hj), cmpL_sw v u (by rw [hu]; exact hr k List.mem_cons_self)]


end Go.Proofs.YtgebjjpcgakjgaaGreat

namespace Go.Proofs.YtgebjjpcgakjgaaGreat
set_option linter.all false
set_option maxRecDepth 100000
open Go.RowKit Go.Maps Go.WideMaps

/-! ### terms merged -/
def addM (t : List Int × Int) : Pl → Pl
  | [] => [t]
  | s :: l => if s.1 = t.1 then (s.1, s.2 + t.2) :: l else s :: addM t l
def nrm (P : Pl) : Pl := (P.foldl (fun l t => addM t l) []).filter fun t => decide (t.2 ≠ 0)
theorem Ev_addM (t : List Int × Int) (g : List Int → Int) : ∀ l, Ev (addM t l) g = Ev l g + t.2 * g t.1
  | [] => by rw [addM, Ev_cons]; simp [Ev]
  | s :: l => by
    rw [addM]
    by_cases h : s.1 = t.1
    · rw [if_pos h, Ev_cons, Ev_cons, ← h]; grind
    · rw [if_neg h, Ev_cons, Ev_cons, Ev_addM t g l]; grind
theorem Ev_foldM (g : List Int → Int) : ∀ (P acc : Pl), Ev (P.foldl (fun l t => addM t l) acc) g = Ev acc g + Ev P g
  | [], acc => by simp [Ev]
  | t :: P, acc => by
    rw [List.foldl_cons, Ev_foldM g P, Ev_addM, Ev_cons]; omega
theorem Ev_filter0 (g : List Int → Int) : ∀ P : Pl, Ev (P.filter fun t => decide (t.2 ≠ 0)) g = Ev P g
  | [] => rfl
  | t :: P => by
    rw [List.filter_cons]
    by_cases h : t.2 = 0
    · rw [if_neg (by simp [h]), Ev_cons, h, Ev_filter0 g P]; simp
    · rw [if_pos (by simpa using h), Ev_cons, Ev_cons, Ev_filter0 g P]
theorem Ev_nrm (P : Pl) (g : List Int → Int) : Ev (nrm P) g = Ev P g := by
  unfold nrm
  rw [Ev_filter0, Ev_foldM]
  show 0 + _ = _
  omega
/-- lowered, and merged at each step -/
def lowN : Nat → List Int → Pl → Pl
  | 0, _, P => P
  | f + 1, xs, P => match fasc xs with
    | none => P
    | some k => nrm (dvP k (lowN f (swapL xs k (k + 1)) P))

/-! ### numbers as variables -/
/-- seven exponents of variables, seven of numbers -/
def Hy (g : List Int → Int) (y : List Int) (e : List Int) : Int := g (e.take 7) * mono y (e.drop 7)
theorem getD_take7 (e : List Int) {i : Nat} (h : i < 7) : (e.take 7).getD i 0 = e.getD i 0 := by
  rw [List.getD_eq_getElem?_getD, List.getD_eq_getElem?_getD, List.getElem?_take, if_pos h]
theorem dvS_take (i : Nat) (e : List Int) (s t : Int) : (dvS i e s t).take 7 = dvS i (e.take 7) s t := by
  unfold dvS
  rw [List.take_set, List.take_set]
theorem dvS_drop {i : Nat} (e : List Int) (s t : Int) (h : i + 1 < 7) : (dvS i e s t).drop 7 = e.drop 7 := by
  unfold dvS
  rw [List.drop_set_of_lt (by omega), List.drop_set_of_lt (by omega)]
theorem Ev_dvK_H {i : Nat} (e : List Int) (lo hi c : Int) (n : Nat) (h : i + 1 < 7) (g : List Int → Int) (y : List Int) : Ev (dvK i e lo hi c n) (Hy g y) = Ev (dvK i (e.take 7) lo hi c n) g * mono y (e.drop 7) := by
  induction n with
  | zero => simp [dvK, Ev]
  | succ n ih =>
    rw [dvK_succ, dvK_succ, Ev_append, Ev_append, ih]
    simp only [Ev, Int.add_zero, Hy, dvS_take, dvS_drop e _ _ h]
    grind
theorem Ev_dvE_H {i : Nat} (e : List Int) (h : i + 1 < 7) (g : List Int → Int) (y : List Int) : Ev (dvE i e) (Hy g y) = Hy (fun e => Ev (dvE i e) g) y e := by
  show Ev (dvE i e) (Hy g y) = Ev (dvE i (e.take 7)) g * mono y (e.drop 7)
  unfold dvE
  rw [getD_take7 e (by omega), getD_take7 e h]
  split
  · exact Ev_dvK_H e _ _ _ _ h g y
  · exact Ev_dvK_H e _ _ _ _ h g y
theorem Ev_dvP_H {i : Nat} (P : Pl) (h : i + 1 < 7) (g : List Int → Int) (y : List Int) : Ev (dvP i P) (Hy g y) = Ev P (Hy (fun e => Ev (dvE i e) g) y) := by
  rw [Ev_dv]
  congr 1
  funext e
  exact Ev_dvE_H e h g y
theorem fasc_ltC {xs : List Int} {k : Nat} (h : fasc xs = some k) : k < xs.length - 1 := by
  unfold fasc at h
  exact List.mem_range.1 (List.mem_of_find?_eq_some h)
/-- two polynomials alike stay alike when they are lowered -/
theorem low_H {y : List Int} {P Q : Pl} (h : ∀ g, Ev P g = Ev Q (Hy g y)) : ∀ (f : Nat) (xs : List Int), xs.length ≤ 7 → ∀ g, Ev (lowP f xs P) g = Ev (lowN f xs Q) (Hy g y)
  | 0, _, _, g => h g
  | f + 1, xs, hl, g => by
    rw [lowP, lowN]
    cases hf : fasc xs with
    | none => exact h g
    | some k =>
      have hk := fasc_ltC hf
      show Ev (dvP k _) g = Ev (nrm (dvP k _)) _
      rw [Ev_nrm, Ev_dv, Ev_dvP_H _ (by omega)]
      exact low_H h f (swapL xs k (k + 1)) (by rw [swapL_length]; exact hl) _
theorem low_N {P : Pl} : ∀ (f : Nat) (xs : List Int), ∀ g, Ev (lowN f xs P) g = Ev (lowP f xs P) g
  | 0, _, g => rfl
  | f + 1, xs, g => by
    rw [lowP, lowN]
    cases hf : fasc xs with
    | none => rfl
    | some k =>
      show Ev (nrm (dvP k _)) g = Ev (dvP k _) g
      rw [Ev_nrm, Ev_dv, Ev_dv]
      exact low_N f _ _

/-! ### the highest polynomial -/
def topSJ (i : Nat) : Nat → Pl → Pl
  | 0, T => T
  | m + 1, T => rsP i (topSJ i m T) ++ sclP (-1) (rsP (7 + m) (topSJ i m T))
def topSI (n : Nat) : Nat → Pl
  | 0 => [([0, 0, 0, 0, 0, 0, 0, 0, 0, 0, 0, 0, 0, 0], 1)]
  | i + 1 => topSJ i (n - 1 - i) (topSI n i)
def Ok14 (P : Pl) : Prop := ∀ t ∈ P, t.1.length = 14 ∧ ∀ j, 0 ≤ t.1.getD j 0
theorem rsE_ok {i : Nat} {e : List Int} (h : e.length = 14 ∧ ∀ j, 0 ≤ e.getD j 0) : (rsE i e).length = 14 ∧ ∀ j, 0 ≤ (rsE i e).getD j 0 := by
  unfold rsE
  refine ⟨by rw [List.length_set]; exact h.1, fun j => ?_⟩
  rw [List.getD_eq_getElem?_getD, List.getElem?_set]
  have h1 := h.2 i
  have h2 := h.2 j
  rw [List.getD_eq_getElem?_getD] at h2
  split
  · split
    · show 0 ≤ e.getD i 0 + 1
      omega
    · exact Int.le_refl _
  · exact h2
theorem Ok14.rs {P : Pl} (h : Ok14 P) (i : Nat) : Ok14 (rsP i P) := fun t ht => by
  obtain ⟨s, hs, rfl⟩ := List.mem_map.1 ht
  exact rsE_ok (h s hs)
theorem Ok14.scl {P : Pl} (h : Ok14 P) (k : Int) : Ok14 (sclP k P) := fun t ht => by
  obtain ⟨s, hs, rfl⟩ := List.mem_map.1 ht
  exact h s hs
theorem Ok14.app {P Q : Pl} (h : Ok14 P) (h' : Ok14 Q) : Ok14 (P ++ Q) := fun t ht => (List.mem_append.1 ht).elim (h t) (h' t)
theorem topSJ_ok {i : Nat} {T : Pl} (h : Ok14 T) : ∀ m, Ok14 (topSJ i m T)
  | 0 => h
  | m + 1 => ((topSJ_ok h m).rs i).app (((topSJ_ok h m).rs (7 + m)).scl (-1))
theorem topSI_ok (n : Nat) : ∀ i, Ok14 (topSI n i)
  | 0 => fun t ht => by
    rw [topSI, List.mem_singleton] at ht
    rw [ht]
    refine ⟨rfl, fun j => ?_⟩
    match j with
    | 0 | 1 | 2 | 3 | 4 | 5 | 6 | 7 | 8 | 9 | 10 | 11 | 12 | 13 => exact Int.le_refl _
    | j + 14 => exact Int.le_refl _
  | i + 1 => topSJ_ok (topSI_ok n i) _
theorem Ev_congr {P : Pl} {g g' : List Int → Int} (h : ∀ t ∈ P, g t.1 = g' t.1) : Ev P g = Ev P g' := by
  induction P with
  | nil => rfl
  | cons t P ih => rw [Ev_cons, Ev_cons, h t List.mem_cons_self, ih fun s hs => h s (List.mem_cons_of_mem _ hs)]
theorem rs_low {i : Nat} (h : i < 7) (P : Pl) (g : List Int → Int) (y : List Int) : Ev (rsP i P) (Hy g y) = Ev P (Hy (fun e => g (rsE i e)) y) := by
  rw [Ev_rs]
  congr 1
  funext e
  unfold Hy rsE
  dsimp only
  rw [List.take_set, List.drop_set_of_lt h, getD_take7 e h]
theorem monoK_set (y e : List Int) {j : Nat} (hj : j < e.length) (v : Int) : ∀ k, monoK y (e.set j v) k * (if j < k then y.getD j 0 ^ (e.getD j 0).toNat else 1) = monoK y e k * (if j < k then y.getD j 0 ^ v.toNat else 1)
  | 0 => by simp [monoK]
  | k + 1 => by
    have ih := monoK_set y e hj v k
    rw [monoK, monoK]
    have hset : ∀ t, (e.set j v).getD t 0 = if t = j then v else e.getD t 0 := fun t => by
      rw [List.getD_eq_getElem?_getD, List.getElem?_set]
      by_cases e1 : j = t
      · subst e1; simp [hj]
      · rw [if_neg e1, if_neg (fun x => e1 x.symm), List.getD_eq_getElem?_getD]
    rw [hset k]
    by_cases h1 : k = j
    · subst h1
      rw [if_neg (by omega), if_neg (by omega)] at ih
      rw [if_pos rfl, if_pos (by omega), if_pos (by omega)]
      grind
    · rw [if_neg h1]
      by_cases h2 : j < k
      · rw [if_pos h2, if_pos h2] at ih
        rw [if_pos (by omega), if_pos (by omega)]
        grind
      · rw [if_neg h2, if_neg h2] at ih
        rw [if_neg (by omega), if_neg (by omega)]
        grind
theorem monoK_rs (y e : List Int) {j : Nat} (hj : j < e.length) (h0 : 0 ≤ e.getD j 0) : ∀ k, j < k → monoK y (rsE j e) k = y.getD j 0 * monoK y e k
  | 0, h => absurd h (by omega)
  | k + 1, h => by
    have hset : ∀ t, (rsE j e).getD t 0 = if t = j then e.getD j 0 + 1 else e.getD t 0 := fun t => by
      unfold rsE
      rw [List.getD_eq_getElem?_getD, List.getElem?_set]
      by_cases e1 : j = t
      · subst e1; simp [hj]
      · rw [if_neg e1, if_neg (fun x => e1 x.symm), List.getD_eq_getElem?_getD]
    have hlow : ∀ k, k ≤ j → monoK y (rsE j e) k = monoK y e k := fun k => by
      induction k with
      | zero => intro _; rfl
      | succ k ih =>
        intro hk
        rw [monoK, monoK, ih (by omega), hset k, if_neg (by omega)]
    rw [monoK, monoK, hset k]
    by_cases h1 : k = j
    · subst h1
      rw [if_pos rfl, hlow k (Nat.le_refl _), show (e.getD k 0 + 1).toNat = (e.getD k 0).toNat + 1 by omega, Int.pow_succ]
      grind
    · rw [if_neg h1, monoK_rs y e hj h0 k (by omega)]
      grind
theorem rs_high {j : Nat} (h : j < 7) {P : Pl} (hP : Ok14 P) (g : List Int → Int) (y : List Int) : Ev (rsP (7 + j) P) (Hy g y) = y.getD j 0 * Ev P (Hy g y) := by
  rw [Ev_rs, ← Ev_mul]
  refine Ev_congr fun t ht => ?_
  obtain ⟨hl, hn⟩ := hP t ht
  have e1 : (rsE (7 + j) t.1).take 7 = t.1.take 7 := by
    unfold rsE
    rw [List.take_set_of_le (by omega)]
  have e2 : (rsE (7 + j) t.1).drop 7 = rsE j (t.1.drop 7) := by
    unfold rsE
    rw [List.drop_set, if_neg (by omega), show 7 + j - 7 = j by omega, List.getD_eq_getElem?_getD, List.getD_eq_getElem?_getD, List.getElem?_drop]
  unfold Hy
  rw [e1, e2]
  have : mono y (rsE j (t.1.drop 7)) = y.getD j 0 * mono y (t.1.drop 7) := monoK_rs y _ (by rw [List.length_drop]; omega) (by
    rw [List.getD_eq_getElem?_getD, List.getElem?_drop, ← List.getD_eq_getElem?_getD]
    exact hn _) 7 h
  rw [this]
  grind
theorem topJ_H {i : Nat} (hi : i < 7) {T Q : Pl} {y : List Int} (hQ : Ok14 Q) (h : ∀ g, Ev T g = Ev Q (Hy g y)) : ∀ m, m ≤ 7 → ∀ g, Ev (topJ i y m T) g = Ev (topSJ i m Q) (Hy g y)
  | 0, _, g => h g
  | m + 1, hm, g => by
    rw [topJ, topSJ, Ev_append, Ev_append, Ev_rs, Ev_scl, Ev_mul, Ev_scl, Ev_mul, rs_low hi, rs_high (by omega) (topSJ_ok hQ m), topJ_H hi hQ h m (by omega), topJ_H hi hQ h m (by omega)]
    grind
theorem topI_H {n : Nat} (hn : n ≤ 7) (y : List Int) : ∀ i, i ≤ n → ∀ g, Ev (topI n y i) g = Ev (topSI n i) (Hy g y)
  | 0, _, g => by
    rw [topI, topSI, Ev_cons, Ev_cons]
    simp [Ev, Hy, mono, monoK]
  | i + 1, hi, g => topJ_H (by omega) (topSI_ok n i) (topI_H hn y i (by omega)) _ (by omega) g
/-- a double polynomial, the numbers as variables -/
def symW (w : List Int) : Pl := lowN 10 w (nrm (topSI w.length w.length))
theorem sym_eq {w : List Int} (hw : w.length ≤ 7) (y : List Int) (g : List Int → Int) : Ev (dblP w y) g = Ev (symW w) (Hy g y) :=
  low_H (fun g => by rw [Ev_nrm]; exact topI_H hw y _ (Nat.le_refl _) g) 10 w hw g

end Go.Proofs.YtgebjjpcgakjgaaGreat

namespace Go.Proofs.YtgebjjpcgakjgaaGreat
set_option linter.all false
set_option maxRecDepth 100000
open Go.RowKit Go.Maps Go.WideMaps

/-- the polynomial of the longest permutation -/
def stE (n : Nat) : List Int := (List.range 7).map fun (i : Nat) => ((n - 1 - i : Nat) : Int)
def stP (n : Nat) : Pl := [(stE n, 1)]
/-- a permutation's polynomial, and the same merged -/
def schP (u : List Int) : Pl := lowP 10 (trimL u) (stP (trimL u).length)
def symS (u : List Int) : Pl := lowN 10 (trimL u) (stP (trimL u).length)
theorem symS_eq (u : List Int) (g : List Int → Int) : Ev (symS u) g = Ev (schP u) g := low_N _ _ g

/-! ### products of a polynomial in the variables and one in the numbers' negatives -/
def m1L : List Int := [-1, -1, -1, -1, -1, -1, -1]
def tens (A B : Pl) : Pl := A.flatMap fun s => B.map fun t => (s.1 ++ t.1, s.2 * (t.2 * mono m1L t.1))
theorem m1_getD {j : Nat} (h : j < 7) : m1L.getD j 0 = -1 := by
  match j, h with
  | 0, _ | 1, _ | 2, _ | 3, _ | 4, _ | 5, _ | 6, _ => rfl
theorem mono_neg {y less e : List Int} (h : ∀ j, less.getD j 0 = -(y.getD j 0)) : ∀ k, k ≤ 7 → monoK less e k = monoK m1L e k * monoK y e k
  | 0, _ => rfl
  | k + 1, hk => by
    rw [monoK, monoK, monoK, mono_neg h k (by omega), h, m1_getD (by omega), show -(y.getD k 0) = (-1) * y.getD k 0 by omega, Int.mul_pow]
    grind
theorem Ev_tens_one {y less : List Int} (h : ∀ j, less.getD j 0 = -(y.getD j 0)) (x : List Int) (s : List Int × Int) (hs : s.1.length = 7) : ∀ B : Pl, Ev (B.map fun t => (s.1 ++ t.1, s.2 * (t.2 * mono m1L t.1))) (Hy (mono x) y) = s.2 * mono x s.1 * Ev B (mono less)
  | [] => by simp [Ev]
  | t :: B => by
    rw [List.map_cons, Ev_cons, Ev_cons, Ev_tens_one h x s hs B]
    have e1 : (s.1 ++ t.1).take 7 = s.1 := by rw [← hs, List.take_left']; rfl
    have e2 : (s.1 ++ t.1).drop 7 = t.1 := by rw [← hs, List.drop_left']; rfl
    have e3 : mono less t.1 = mono m1L t.1 * mono y t.1 := mono_neg h 7 (Nat.le_refl _)
    simp only [Hy, e1, e2, e3]
    grind
theorem Ev_tens {y less : List Int} (h : ∀ j, less.getD j 0 = -(y.getD j 0)) (x : List Int) : ∀ (A : Pl) (B : Pl), (∀ s ∈ A, s.1.length = 7) → Ev (tens A B) (Hy (mono x) y) = Ev A (mono x) * Ev B (mono less)
  | [], _, _ => by simp [Ev, tens]
  | s :: A, B, hA => by
    show Ev ((B.map fun t => (s.1 ++ t.1, s.2 * (t.2 * mono m1L t.1))) ++ tens A B) _ = _
    rw [Ev_append, Ev_tens_one h x s (hA s List.mem_cons_self) B, Ev_tens h x A B fun t ht => hA t (List.mem_cons_of_mem _ ht), Ev_cons]
    grind

/-! ### what is reckoned -/
/-- the other part -/
def othL (w u : List Int) : List Int := cmpL w (invL u)
def wayB (w u : List Int) : Bool := decide (lenP u + lenP (othL w u) = lenP w)
def rhsW (w : List Int) : Pl := (permsL w.length).flatMap fun u => if wayB w u then tens (symS u) (symS (invL (othL w u))) else []
def cauB (w : List Int) : Bool := decide (w.length = 5) || (decide (nrm (symW w ++ sclP (-1) (rhsW w)) = []) && (permsL w.length).all fun u => (symS u).all fun s => decide (s.1.length = 7))
theorem cau_all : all5 cauB = true := by decide +kernel

end Go.Proofs.YtgebjjpcgakjgaaGreat

namespace Go.Proofs.YtgebjjpcgakjgaaGreat
set_option linter.all false
set_option maxRecDepth 100000
open Go.RowKit Go.Maps Go.WideMaps

def degN (e : List Int) : Nat → Nat
  | 0 => 0
  | k + 1 => degN e k + (e.getD k 0).toNat
theorem pow_abs (x : Int) (h : x.natAbs ≤ 9) : ∀ k, (x ^ k).natAbs ≤ 9 ^ k
  | 0 => by simp
  | k + 1 => by
    rw [Int.pow_succ, Int.natAbs_mul, Nat.pow_succ]
    exact Nat.mul_le_mul (pow_abs x h k) h
theorem monoK_abs {y : List Int} (hy : ∀ j, (y.getD j 0).natAbs ≤ 9) (e : List Int) : ∀ k, (monoK y e k).natAbs ≤ 9 ^ degN e k
  | 0 => by simp [monoK, degN]
  | k + 1 => by
    rw [monoK, degN, Int.natAbs_mul, Nat.pow_add]
    exact Nat.mul_le_mul (monoK_abs hy e k) (pow_abs _ (hy k) _)
/-- a bound of the number at an exponent, the numbers being from -9 to 9 -/
def bnd (e : List Int) : Pl → Nat
  | [] => 0
  | t :: P => (if t.1.take 7 = e then t.2.natAbs * 9 ^ degN (t.1.drop 7) 7 else 0) + bnd e P
theorem bnd_le {y : List Int} (hy : ∀ j, (y.getD j 0).natAbs ≤ 9) (e : List Int) : ∀ P : Pl, (Ev P (Hy (ind e) y)).natAbs ≤ bnd e P
  | [] => by simp [Ev]
  | t :: P => by
    have ih := bnd_le hy e P
    rw [Ev_cons, bnd]
    refine Nat.le_trans (Int.natAbs_add_le _ _) (Nat.add_le_add ?_ ih)
    unfold Hy ind
    by_cases h : t.1.take 7 = e
    · rw [if_pos h, if_pos h, Int.one_mul, Int.natAbs_mul]
      exact Nat.mul_le_mul (Nat.le_refl _) (monoK_abs hy _ 7)
    · rw [if_neg h, if_neg h]; simp
theorem bnd_zero (e : List Int) : ∀ P : Pl, (∀ t ∈ P, t.1.take 7 ≠ e) → bnd e P = 0
  | [], _ => rfl
  | t :: P, h => by rw [bnd, if_neg (h t List.mem_cons_self), bnd_zero e P fun s hs => h s (List.mem_cons_of_mem _ hs)]
def bndC (P : Pl) : Bool := decide (P.length ≤ 600) && P.all fun t => decide (bnd (t.1.take 7) P ≤ 1000000)
theorem bndB_all {P : Pl} (h : bndC P = true) (e : List Int) : bnd e P ≤ 1000000 := by
  unfold bndC at h
  rw [Bool.and_eq_true, List.all_eq_true] at h
  by_cases hx : ∃ t ∈ P, t.1.take 7 = e
  · obtain ⟨t, ht, rfl⟩ := hx
    exact of_decide_eq_true (h.2 t ht)
  · rw [bnd_zero e P fun t ht e2 => hx ⟨t, ht, e2⟩]; omega
/-- what closed asks of a polynomial -/
structure Fit6 (P : Pl) (S : List (List Int)) : Prop where
  co : ∀ e, -1000000 ≤ cfP P e ∧ cfP P e ≤ 1000000
  sup : ∀ e, cfP P e ≠ 0 → e ∈ S
  len : S.length ≤ 600
theorem fit_of {P Q : Pl} {y : List Int} (hy : ∀ j, (y.getD j 0).natAbs ≤ 9) (h : ∀ g, Ev P g = Ev Q (Hy g y)) (hb : bndC Q = true) : Fit6 P (Q.map fun t => t.1.take 7) where
  co e := by
    have h1 := bnd_le hy e Q
    have h2 := bndB_all hb e
    have e1 : cfP P e = Ev Q (Hy (ind e) y) := h _
    rw [← e1] at h1
    omega
  sup e he := by
    have e1 : cfP P e = Ev Q (Hy (ind e) y) := h _
    have h1 := bnd_le hy e Q
    by_cases hx : ∃ t ∈ Q, t.1.take 7 = e
    · obtain ⟨t, ht, rfl⟩ := hx
      exact List.mem_map.2 ⟨t, ht, rfl⟩
    · rw [bnd_zero e Q fun t ht e2 => hx ⟨t, ht, e2⟩, ← e1] at h1
      omega
  len := by
    unfold bndC at hb
    rw [Bool.and_eq_true] at hb
    rw [List.length_map]
    exact of_decide_eq_true hb.1
theorem Hy_nil {g : List Int → Int} {P : Pl} (h : ∀ t ∈ P, t.1.length = 7) : Ev P g = Ev P (Hy g []) := by
  refine Ev_congr fun t ht => ?_
  unfold Hy
  have hl := h t ht
  rw [← hl, List.take_length, List.drop_length]
  simp [mono, monoK]
def bdB (w : List Int) : Bool := decide (w.length = 5) || (bndC (symW w) && bndC (symS w))
theorem bd_all : all5 bdB = true := by decide +kernel
section
variable {n : Nat} {w : List Int}
theorem bd_at (hw : P5 n w) (h4 : n ≤ 4) : bndC (symW w) = true ∧ bndC (symS w) = true := by
  have := all5_at bd_all hw.ok (by have := hw.len; omega)
  unfold bdB at this
  rw [Bool.or_eq_true, Bool.and_eq_true] at this
  rcases this with h | h
  · have := of_decide_eq_true h
    have := hw.len
    omega
  · exact h
theorem cau_at (hw : P5 n w) (h4 : n ≤ 4) : nrm (symW w ++ sclP (-1) (rhsW w)) = [] ∧ ∀ u ∈ permsL n, ∀ s ∈ symS u, s.1.length = 7 := by
  have := all5_at cau_all hw.ok (by have := hw.len; omega)
  unfold cauB at this
  rw [Bool.or_eq_true, Bool.and_eq_true, List.all_eq_true] at this
  rcases this with h | h
  · have := of_decide_eq_true h
    have := hw.len
    omega
  · refine ⟨of_decide_eq_true h.1, fun u hu s hs => ?_⟩
    rw [hw.len] at h
    have := h.2 u hu
    rw [List.all_eq_true] at this
    exact of_decide_eq_true (this s hs)
theorem sch7 (hw : P5 n w) (h4 : n ≤ 4) : ∀ s ∈ symS w, s.1.length = 7 := by
  have h := (cau_at hw h4).2 w
  have hm := perm_mem hw.ok (by rw [hw.len]; omega)
  rw [hw.len] at hm
  exact h hm
theorem dbl_fit (hw : P5 n w) (h4 : n ≤ 4) {y : List Int} (hy : ∀ j, (y.getD j 0).natAbs ≤ 9) : Fit6 (dblP w y) ((symW w).map fun t => t.1.take 7) :=
  fit_of hy (sym_eq (by have := hw.len; omega) y) (bd_at hw h4).1
theorem sch_fit (hw : P5 n w) (h4 : n ≤ 4) : Fit6 (schP w) ((symS w).map fun t => t.1.take 7) :=
  fit_of (y := []) (fun j => by simp) (fun g => by rw [← symS_eq, Hy_nil (sch7 hw h4)]) (bd_at hw h4).2
/-- the way of a permutation in the sum -/
def cauT (w x less u : List Int) : Int := if wayB w u then Ev (schP u) (mono x) * Ev (schP (invL (othL w u))) (mono less) else 0
theorem cau_law (hw : P5 n w) (h4 : n ≤ 4) {y less : List Int} (h : ∀ j, less.getD j 0 = -(y.getD j 0)) (x : List Int) : Ev (dblP w y) (mono x) = ((permsL n).map (cauT w x less)).sum := by
  obtain ⟨h1, h2⟩ := cau_at hw h4
  have h3 : Ev (symW w ++ sclP (-1) (rhsW w)) (Hy (mono x) y) = 0 := by rw [← Ev_nrm, h1]; rfl
  rw [Ev_append, Ev_scl, Ev_mul] at h3
  rw [sym_eq (by have := hw.len; omega) y]
  have key : ∀ l : List (List Int), (∀ u ∈ l, ∀ s ∈ symS u, s.1.length = 7) → Ev (l.flatMap fun u => if wayB w u then tens (symS u) (symS (invL (othL w u))) else []) (Hy (mono x) y) = (l.map (cauT w x less)).sum := fun l => by
    induction l with
    | nil => intro _; rfl
    | cons u l ih =>
      intro hl
      rw [List.flatMap_cons, Ev_append, ih fun v hv => hl v (List.mem_cons_of_mem _ hv), List.map_cons, List.sum_cons]
      congr 1
      unfold cauT
      split
      · rw [Ev_tens h x _ _ (hl u List.mem_cons_self), symS_eq, symS_eq]
      · rfl
  have := key (permsL w.length) (by rw [hw.len]; exact h2)
  unfold rhsW at h3
  rw [this, hw.len] at h3
  omega
end

end Go.Proofs.YtgebjjpcgakjgaaGreat

namespace Go.Proofs.YtgebjjpcgakjgaaGreat
set_option linter.all false
set_option maxRecDepth 100000
open Go.RowKit Go.Maps Go.WideMaps

theorem info_tm : (Tryz.prog.info? 93).map (fun i => (i.zero, i.size, i.bytes)) = some (some (.agg #[.slice none 0 0, .int .i64 0]), 2, 32) := by kernel_rfl

theorem bel_grown {w w' : World} (h : Below w.heap.size w w') (r : Option Nat) : w.grownBy w' r := ⟨h.os, h.tape, h.output, h.size, fun i hi _ => h.block i hi⟩
/-- terms of the call's own stay while an iterator goes on -/
theorem OwnTd.keepIt {w w' : World} {lo hi r : Nat} {v : Value} {cs : List Cls} {b : Option Nat} {x1 : Nat} {x2 : Array Nat} {x3 : Nat} (h : OwnTd w lo hi v cs) (hr : w.heap[r]? = some (.mapIter b x1 x2 x3)) (hg : w.grownBy w' (some r)) : OwnTd w' lo hi v cs := by
  obtain ⟨f, g1, g2, g3⟩ := h
  have hne : ∀ {T : TypeId} {k : Nat}, (∃ c fz, w.heap[k]? = some (.cells c T fz)) → some k ≠ some r := fun {T k} ⟨c, fz, hk⟩ e => by
    injection e with e
    rw [e, hr] at hk
    cases hk
  have g1' := g1
  obtain ⟨xs, ho, hf⟩ := g1
  exact ⟨f, ⟨xs, ⟨ownsRow_of_block ho.1 fun k hk => hg.block k (Own.block ho hk).2.2 (hne (g1'.kind k hk)), ho.2⟩, hf⟩, fun i hi => ⟨ownsRow_of_block (g2 i hi).1 fun k hk => hg.block k (Own.block (g2 i hi) hk).2.2 (hne (OwnI.kind (g2 i hi) k hk)), (g2 i hi).2⟩, g3⟩

set_option maxHeartbeats 8000000 in
theorem closed_any (u : Value) (d n : Nat) (P : Pl) (w : World) (S : List (List Int)) (hf : PolV w u d n P) (hd : d ≤ 24) (hco : ∀ e, -1000000 ≤ cfP P e ∧ cfP P e ≤ 1000000) (hS : ∀ e, K7 d e → cfP P e ≠ 0 → e ∈ S) (h6 : S.length ≤ 600) :
    Calls Tryz.prog 45 #[u] w fun e w' => ∃ v ts, e = .returned (.tuple #[v, .bool true]) ∧ OwnTd w' w.heap.size w'.heap.size v ts ∧ TsOk ts ∧ (∀ g, Ev ts g = Ev P g) ∧ Below w.heap.size w w' := by
  obtain ⟨bf, Df, rfl, hf1, hf2⟩ := hf
  have hblf := hf1.lt
  have HF1 := Lib.hid hf1
  have HF2 := Lib.hid hf2
  have Hco := Lib.hid hco
  have HS := Lib.hid hS
  have hsz := size_le hf1 hf2 (by omega) hco hS
  have hz6 : Maps.size Df ≤ 600 := by omega
  have e1 : ¬ (600 : Int) < (Maps.size Df : Int) := by omega
  have e2 : decide ((600 : Int) < (Maps.size Df : Int)) = false := decide_eq_false e1
  have hG0 := Lib.hid (Gath.start (T := fun g => g) hf1 hf2)
  obtain ⟨B, hB⟩ : ∃ B, B = w.heap.size := ⟨_, rfl⟩
  have HB := Lib.hid hB
  have es1 : (w.alloc (.cells #[] 93)).heap.size = w.heap.size + 1 := by simp
  clear hf2 hco hS hsz hf1
  go_enter Tryz.func45, Tryz.ntmps45
  go_wp2_with (first
    | (at_len; refine wpList_len_own _ rfl _ 61 rfl 75 3 und41 _ bf n _ rfl HF1.out ?_)
    | (at_range; refine wpList_range_own _ rfl _ 61 rfl 75 3 klaw und41 _ bf n _ rfl (HF1.out.alloc _) ?_; intro w0 hrg0 hg0 hs0)
    | fail)
  rw [es1] at hrg0 hs0
  have hbel0 : Below w.heap.size w w0 := ((Below.refl _ _).alloc (Nat.le_refl _) _).grown hg0 (by simp) (fun j hj => by cases hj)
  have hown0 : OwnTd w0 w.heap.size (w.heap.size + 1) (.slice (some ⟨w.heap.size, 0, none⟩) 0 0) [] := (OwnTd.made0 w).keep fun k _ _ h3 => hg0.block k h3 (by simp)
  rw [← hB] at hrg0 hs0 hbel0 hown0 hblf ⊢
  have Hbel0 := Lib.hid hbel0
  have Hown0 := Lib.hid hown0
  clear hbel0 hown0 hg0 es1 hB e1 e2
  go_loopg [4, 5, 6] (Maps.size Df) (fun g s4 s5 s6 wr => ∃ (left : Lit → Bool) (A : List Cls), RanP wr bf (B + 1) n Df left g ∧ g ≤ Maps.size Df ∧ A.length + g ≤ Maps.size Df ∧ (∀ l, left l = true → has Df l = true) ∧
      Hid (OwnTd wr B wr.heap.size s4 A) ∧ Hid (Got d P left A) ∧ Hid (Gath Df P (fun g => g) left A) ∧ Hid (Below B w wr) ∧ B + 2 ≤ wr.heap.size)
  case atStart => exact ⟨_, [], hrg0, Nat.le_refl _, by simp, fun _ h => h, Lib.hid (Hown0.out.mono (Nat.le_refl _) (by omega)), Lib.hid (Got.nil _ _ _), hG0, Hbel0, by omega⟩
  case round =>
    obtain ⟨left, A, hrg, hgs, hal, hleft, hO, hgot, hga, hbel, hsz2⟩ := hrel
    obtain ⟨wx, rfl⟩ : ∃ x : World, x = wr := ⟨_, rfl⟩
    obtain ⟨p4, k4, rfl, _, _⟩ := hO.out.shape
    go_wp2_with (first
      | (at_next; refine wpList_next_poly _ rfl _ rfl bf (B + 1) n d Df P left gk rfl hrg HF2.out (by omega) hleft ?_ ?_)
      | fail)
    · intro hc0 hl0
      have hend := hgot.out.end hd Hco.out HS.out h6 (hga.out.end hl0)
      have Hend := Lib.hid hend
      have hnd := hgot.out.nod
      have hm7 : ∀ t ∈ A, t.1.length = 7 ∧ ∀ j, 0 ≤ t.1.getD j 0 ∧ t.1.getD j 0 ≤ 1000000 := fun t ht => by
        have := hend.1.2.1 t ((srtT_perm A).mem_iff.2 ht)
        exact ⟨this.1, fun j => by have := this.2.1 j; omega⟩
      have Hsf := Lib.hid (sortFT_any (.slice p4 A.length k4) A B wx.heap.size wx hO.out (by omega) hnd hm7)
      clear hend hnd hm7 hrg hleft hO hgot hga
      go_wp2_with fail
      refine Hsf.out.mono ?_
      rintro e w2 ⟨rfl, ho2, hf2⟩
      have Ho2 := Lib.hid ho2
      have Hf2 := Lib.hid hf2
      clear ho2 hf2
      go_wp2_with fail
      refine (PolyOk_yes (.slice p4 A.length k4) (srtT A) _ Ho2.out.rd Hend.out.1).mono ?_
      rintro e w3 ⟨rfl, hb3⟩
      have hs2 := Hf2.out.size
      have hs3 := hb3.size
      have Ho3 := Lib.hid ((Ho2.out.below hb3).mono (Nat.le_refl _) (show wx.heap.size ≤ w3.heap.size by omega))
      have Hb3 := Lib.hid ((hbel.out.trans (Hf2.out.below (Nat.le_refl _) (by omega))).trans (hb3.mono (by omega)))
      clear hb3
      go_wp2_with fail
      go_ret2
      exact ⟨_, _, rfl, HB.out ▸ Ho3.out, Hend.out.1, Hend.out.2, HB.out ▸ Hb3.out⟩
    · intro a0 a1 a2 a3 a4 a5 a6 c w1 cnt1 hK hlx hwf hat hrg1 hlt hgr1 hs1 hen
      have hit : ∃ x1 x2 x3, wx.heap[B + 1]? = some (.mapIter (some bf) x1 x2 x3) := by
        obtain ⟨_, _, x1, x2, x3, _, _, _, _, h5, _⟩ := hrg
        exact ⟨x1, x2, x3, h5⟩
      obtain ⟨x1, x2, x3, hit⟩ := hit
      have HO1 := Lib.hid (hO.out.keepIt hit hgr1)
      have Hbel1 := Lib.hid (hbel.out.grown hgr1 (by omega) (fun j hj => by cases hj; omega))
      have hc := at_cf HF1.out HF2.out (by omega) Hco.out hK (hleft _ hlx) hat
      have Hgot := Lib.hid (hgot.out.snoc (by omega) hK hlx hc)
      have Hga := Lib.hid (hga.out.step HF2.out.tidy hK (by omega) hlx hat (A' := A ++ [([a0, a1, a2, a3, a4, a5, a6], c)]) fun g => by
        rw [Ev_append]
        exact Cg.of _ _ (by simp [Ev]))
      rw [← hs1] at HO1
      have hal2 : A.length + 1 + cnt1 ≤ Maps.size Df := by omega
      have hsz3 : B + 2 ≤ w1.heap.size := by omega
      have Hleft := Lib.hid hleft
      clear hit hc hat hgr1 hrg hO hgot hga hbel hleft hs1
      go_wp2_with fail
      have hI : Ints (w1.alloc (.cells #[.int .i64 a0, .int .i64 a1, .int .i64 a2, .int .i64 a3, .int .i64 a4, .int .i64 a5, .int .i64 a6] 75)) (.slice (some ⟨w1.heap.size, 0, none⟩) 7 7) [a0, a1, a2, a3, a4, a5, a6] :=
        ⟨some ⟨w1.heap.size, 0, none⟩, 7, rfl, ⟨Nat.le_refl _, by unfold maxLen; omega⟩, fun _ => ⟨w1.heap.size, 0, rfl, fun j hj => match j, hj with
          | 0, _ => cell_of_blk (heap_alloc_top _ _) (j := 0) rfl
          | 1, _ => cell_of_blk (heap_alloc_top _ _) (j := 1) rfl
          | 2, _ => cell_of_blk (heap_alloc_top _ _) (j := 2) rfl
          | 3, _ => cell_of_blk (heap_alloc_top _ _) (j := 3) rfl
          | 4, _ => cell_of_blk (heap_alloc_top _ _) (j := 4) rfl
          | 5, _ => cell_of_blk (heap_alloc_top _ _) (j := 5) rfl
          | 6, _ => cell_of_blk (heap_alloc_top _ _) (j := 6) rfl⟩⟩
      refine (clone_any _ [a0, a1, a2, a3, a4, a5, a6] _ hI (by simp)).mono ?_
      clear hI
      rintro e w2 ⟨u2, rfl, ho2, hb2⟩
      obtain ⟨xs, hxs⟩ : ∃ x, x = [a0, a1, a2, a3, a4, a5, a6] := ⟨_, rfl⟩
      obtain ⟨p2, k2, e2, _, _⟩ := ho2.shape
      have e3 : u2 = .slice p2 7 k2 := e2
      subst e3
      rw [← hxs] at ho2 Hgot Hga
      rw [← hxs] at hrg1
      have hsa : (w1.alloc (.cells #[.int .i64 a0, .int .i64 a1, .int .i64 a2, .int .i64 a3, .int .i64 a4, .int .i64 a5, .int .i64 a6] 75)).heap.size = w1.heap.size + 1 := size_alloc _ _
      have hb12 : Below w1.heap.size w1 w2 := (below_alloc _ _).trans (hb2.mono (by rw [hsa]; omega))
      have hs2 : w1.heap.size + 1 ≤ w2.heap.size := by have := hb2.size; rw [hsa] at this; exact this
      rw [hsa] at ho2
      have hO2 := HO1.out.below hb12
      obtain ⟨f, g1, g2, g3⟩ := hO2
      have hal : Below w2.heap.size w2 (w2.alloc (.cells #[.slice p2 7 k2, .int .i64 c] 93)) := below_alloc w2 _
      have g1a := Lib.hid (g1.below hal)
      have g2a := Lib.hid (show ∀ i, i < A.length → OwnI 3 (w2.alloc (.cells #[.slice p2 7 k2, .int .i64 c] 93)) B w1.heap.size (f i) (A.getD i clD).1 from fun i hi => (g2 i hi).below hal)
      have G3 := Lib.hid g3
      have Hxt := Lib.hid (ho2.below hal)
      have Hcl := Lib.hid (show ∀ j, j < 2 → (w2.alloc (.cells #[.slice p2 7 k2, .int .i64 c] 93)).cell? ⟨w2.heap.size, j, none⟩ = some (match j with | 0 => .slice p2 7 k2 | _ => .int .i64 c) from fun j hj =>
        match j, hj with
        | 0, _ => cell_of_blk (heap_alloc_top w2 _) (j := 0) rfl
        | 1, _ => cell_of_blk (heap_alloc_top w2 _) (j := 1) rfl)
      have Hone := Lib.hid (show ∀ j, j < 2 → (match j with | 0 => Value.slice p2 7 k2 | _ => .int .i64 c).oneCell' = true from fun j hj =>
        match j, hj with
        | 0, _ => rfl
        | 1, _ => rfl)
      have Hn1 := Lib.hid (show A.length + 1 ≤ maxLen by unfold maxLen; omega)
      have Hn2 := Lib.hid (show (A.length + 1) * 32 ≤ 140737488355328 by omega)
      have Hlo := Lib.hid (show B ≤ (w2.alloc (.cells #[.slice p2 7 k2, .int .i64 c] 93)).heap.size by rw [size_alloc]; omega)
      have Hhi := Lib.hid (show w1.heap.size ≤ (w2.alloc (.cells #[.slice p2 7 k2, .int .i64 c] 93)).heap.size by rw [size_alloc]; omega)
      have Hb12 := Lib.hid hb12
      have Hrg := Lib.hid hrg1
      have Hhal := Lib.hid hal
      have Hxs := Lib.hid hxs
      clear g1 g2 g3 ho2 hb2 hb12 hsa hal hrg1 hen hxs hK hlx hwf
      go_wp2_with (at_builtin; go_must (refine wpList_append_S rfl (.tmp 18) (.tmp 23) 48 rfl 93 _ 2 32 Tryz.underlying48 info_tm rfl (by omega) B w1.heap.size _ A.length (clF A f) rfl g1a.out Hlo.out _ _ _ rfl Hcl.out Hone.out Hn1.out Hn2.out ?_; intro v' w' hv hg))
      have hg' : (w2.alloc (.cells #[.slice p2 7 k2, .int .i64 c] 93)).grownBy w' (Value.slice p4 A.length k4).ownBlock := hg
      clear hg
      have hO' := OwnTd.snoc (m := (xs, c)) (hi := w2.heap.size) g1a.out g2a.out G3.out (OwnI.mono Hxt.out (by omega : w1.heap.size ≤ w1.heap.size + 1) (Nat.le_refl _)) (by omega) (by omega) hg' (by have := hg'.size; rw [size_alloc] at this; omega) hv
      have hbw : Below B w w' := (Hbel1.out.trans (Hb12.out.mono (by omega))).trans ((Hhal.out.mono (by omega)).trans (grownBy_below hg' g1a.out.blocks (Nat.le_refl _) Hlo.out))
      have hr1 : RanP w2 bf (B + 1) n Df (fun z => left z && !z.sameKey (kl xs)) cnt1 := Hrg.out.kept (bel_grown Hb12.out none) (by simp) (by simp)
      have hr2 := hr1.alloc (.cells #[.slice p2 7 k2, .int .i64 c] 93)
      have hr3 : RanP w' bf (B + 1) n Df (fun z => left z && !z.sameKey (kl xs)) cnt1 := hr2.kept hg' (fun e => by have := (g1a.out.blocks _ e.symm).1; omega) (fun e => by
        obtain ⟨_, _, _, _, _, _, _, _, _, h5, _⟩ := hr2
        obtain ⟨c1, fz, hk⟩ := g1a.out.kind _ e.symm
        rw [hk] at h5
        cases h5)
      have hsz4 : B + 2 ≤ w'.heap.size := by have := hg'.size; rw [size_alloc] at this; omega
      have HO' := Lib.hid hO'
      have Hbw := Lib.hid hbw
      have Hr3 := Lib.hid hr3
      clear hO' hbw hr1 hr2 hr3 hv hg'
      go_roundg cnt1
      case measure => exact hlt
      case rel => exact ⟨_, A ++ [(xs, c)], Hr3.out, by omega, by rw [List.length_append, List.length_singleton]; omega, (fun l h => Hleft.out l (by rw [Bool.and_eq_true] at h; exact h.1)), HO'.out, Hgot.out, Hga.out, Hbw.out, hsz4⟩

end Go.Proofs.YtgebjjpcgakjgaaGreat
