/-
  The reference's code of a list, and its place among the permutations.
-/
import Derived.Test.YtajilmfaconjbaaGkS
namespace Go.Proofs.Ytajilmfaconjbaa
set_option linter.all false
open Go.RowKit

theorem cdK_yes {xs : List Int} {i t : Nat} (h : xs.getD (i + 1 + t) 0 < xs.getD i 0) : cdK xs i (t + 1) = cdK xs i t + 1 := by
  unfold cdK
  rw [List.range_succ, List.filter_append]
  simp only [List.filter_cons, List.filter_nil, h, decide_true, if_true, List.length_append, List.length_singleton]
theorem cdK_no {xs : List Int} {i t : Nat} (h : ¬ xs.getD (i + 1 + t) 0 < xs.getD i 0) : cdK xs i (t + 1) = cdK xs i t := by
  unfold cdK
  rw [List.range_succ, List.filter_append]
  have e : List.filter (fun (s : Nat) => decide (xs.getD (i + 1 + s) 0 < xs.getD i 0)) [t] = [] := by
    rw [List.filter_cons, decide_eq_false h]; rfl
  rw [e, List.append_nil]
theorem cdK_le (xs : List Int) (i t : Nat) : cdK xs i t ≤ t := by
  unfold cdK
  exact Nat.le_trans (List.length_filter_le _ _) (by simp)
def cdF (xs : List Int) (i t j : Nat) : Nat := if j < i then cdA xs j else if j = i then cdK xs i t else 0
def cdL (xs : List Int) : List Int := (List.range xs.length).map fun i => (cdA xs i : Int)
theorem cdL_length (xs : List Int) : (cdL xs).length = xs.length := by simp [cdL]
theorem cdL_getD {xs : List Int} {i : Nat} (h : i < xs.length) : (cdL xs).getD i 0 = (cdA xs i : Int) := by simp [cdL, List.getD_eq_getElem?_getD, h]

set_option maxRecDepth 100000 in
set_option maxHeartbeats 4000000 in
theorem l1Code_any (v : Value) (xs : List Int) (w : World) (h : Ints w v xs) (hl : xs.length ≤ 10) :
    Calls Try.prog 52 #[v] w (RetI w (cdL xs)) := by
  obtain ⟨p, cap, rfl, ⟨hx1, hx⟩, hxc⟩ := h
  unfold maxLen at hx
  obtain ⟨n, hn⟩ : ∃ n, n = xs.length := ⟨_, rfl⟩
  have hmk := run_make_row' (P := Try.prog) 22 3 (.int .i64 0) 8 Try.underlying22 info_int rfl .i64 .i64 n (by omega) (by omega)
  have Hn := Lib.hid hn
  rw [← hn] at hx1 hxc hl ⊢
  have Hxc := Lib.hid hxc
  clear hn hxc
  go_enter Try.func52, Try.ntmps52
  go_wp2_with fail
  go_loopg [4, 5] n (fun g s4 s5 wr => ∃ i : Nat, i ≤ n ∧ g = n - i ∧ s4 = .int .i64 i ∧ Hid (Below w.heap.size w wr) ∧ Hid (wr.rowIs w.heap.size 3 n (fun j => .int .i64 (cdF xs i 0 j : Nat))))
  case atStart =>
    refine ⟨0, Nat.zero_le _, rfl, rfl, Lib.hid (below_alloc _ _), Lib.hid ?_⟩
    exact (World.rowIs_made w (.int .i64 0) n 3).congr fun j _ => by
      unfold cdF cdK
      by_cases e : j = 0 <;> simp [e]
  case round =>
    obtain ⟨i, hi, rfl, rfl, hb, hrow⟩ := hrel
    by_cases hlt : i < n
    · have hlti : (i : Int) < (n : Int) := by omega
      obtain ⟨b, off, rfl, hc⟩ := Hxc.out (by omega)
      have Hc := Lib.hid hc
      obtain ⟨wo, rfl⟩ : ∃ x : World, x = wr := ⟨_, rfl⟩
      have Hb := Lib.hid hb.out
      have Hrow := Lib.hid hrow.out
      clear hc hb hrow
      go_wp2_with fail
      go_loopg [5] (n - (i + 1)) (fun g s5 wr => ∃ t : Nat, i + 1 + t ≤ n ∧ g = n - (i + 1) - t ∧ s5 = .int .i64 ((i : Int) + 1 + (t : Int)) ∧ Hid (Below w.heap.size w wr) ∧ Hid (wr.rowIs w.heap.size 3 n (fun j => .int .i64 (cdF xs i t j : Nat))))
      case atStart => exact ⟨0, by omega, rfl, by go_num, Hb, Hrow⟩
      case round =>
        obtain ⟨t, ht, rfl, rfl, hb, hrow⟩ := hrel
        by_cases htl : i + 1 + t < n
        · have hti : (i : Int) + 1 + (t : Int) < (n : Int) := by omega
          obtain ⟨x, hx'⟩ : ∃ x, x = xs.getD (i + 1 + t) 0 := ⟨_, rfl⟩
          obtain ⟨y, hy'⟩ : ∃ y, y = xs.getD i 0 := ⟨_, rfl⟩
          have c1 : wr.cell? ⟨b, off + (i + 1 + t), none⟩ = some (.int .i64 x) := by rw [hx']; exact cell_below hb.out (Hc.out (i + 1 + t) htl)
          have c2 : wr.cell? ⟨b, off + i, none⟩ = some (.int .i64 y) := by rw [hy']; exact cell_below hb.out (Hc.out i hlt)
          have hnat : ((i : Int) + 1 + (t : Int)).toNat = i + 1 + t := by omega
          have h0 : (0 : Int) ≤ (i : Int) + 1 + (t : Int) := by omega
          have d1 := hrow.out.cell hlt
          have d2 := hrow.out.frozen i
          obtain ⟨z, hz⟩ : ∃ z, z = cdF xs i t i := ⟨_, rfl⟩
          rw [← hz] at d1
          have hz2 : z = cdK xs i t := by rw [hz]; unfold cdF; rw [if_neg (Nat.lt_irrefl _), if_pos rfl]
          have hz3 : z ≤ 10 := by rw [hz2]; have := cdK_le xs i t; omega
          have Hx := Lib.hid hx'
          have Hy := Lib.hid hy'
          have Hz := Lib.hid hz2
          have Hb1 := Lib.hid hb.out
          have Hrow1 := Lib.hid hrow.out
          clear hx' hy' hz hz2 hb hrow
          go_wp2_with fail
          go_quiet (fail)
          have Hb2 := Lib.hid (Below.drewN Hb1.out nq)
          have Hrow2 := Lib.hid (show (wr.drewN nq).rowIs w.heap.size 3 n (fun j => .int .i64 (cdF xs i t j : Nat)) from Hrow1.out.of_block rfl)
          have d1' : (wr.drewN nq).cell? ⟨w.heap.size, i, none⟩ = some (.int .i64 (z : Int)) := d1
          have d2' : (wr.drewN nq).frozen? ⟨w.heap.size, i, none⟩ = false := d2
          generalize wr.drewN nq = wd at *
          by_cases hxy : x < y
          · have Hk := Lib.hid (show cdK xs i (t + 1) = z + 1 by rw [cdK_yes (by rw [← Hx.out, ← Hy.out]; exact hxy), Hz.out])
            go_wp2_with fail
            go_roundg (n - (i + 1) - (t + 1))
            case measure => omega
            case rel =>
              refine ⟨t + 1, by omega, rfl, by go_num, Lib.hid (Hb2.out.setCell (Nat.le_refl _) _), Lib.hid ((Hrow2.out.set i _).congr fun j _ => ?_)⟩
              by_cases e : j = i
              · subst e
                rw [if_pos rfl]
                unfold cdF
                rw [if_neg (Nat.lt_irrefl _), if_pos rfl, Hk.out]
                go_num
              · rw [if_neg e]
                unfold cdF
                rw [if_neg e, if_neg e]
          · have Hk := Lib.hid (show cdK xs i (t + 1) = cdK xs i t by rw [cdK_no (by rw [← Hx.out, ← Hy.out]; exact hxy)])
            go_wp2_with fail
            go_roundg (n - (i + 1) - (t + 1))
            case measure => omega
            case rel =>
              refine ⟨t + 1, by omega, rfl, by go_num, Hb2, Lib.hid (Hrow2.out.congr fun j _ => ?_)⟩
              unfold cdF
              rw [Hk.out]
        · have hti : ¬ (i : Int) + 1 + (t : Int) < (n : Int) := by omega
          have htn : t = n - (i + 1) := by omega
          have Hb1 := Lib.hid hb.out
          have Hrow1 := Lib.hid hrow.out
          have Htn := Lib.hid htn
          clear hb hrow htn
          go_wp2_with fail
          go_roundg (n - (i + 1))
          case measure => omega
          case rel =>
            refine ⟨i + 1, by omega, rfl, by go_num, Hb1, Lib.hid (Hrow1.out.congr fun j _ => ?_)⟩
            unfold cdF
            by_cases e1 : j < i
            · rw [if_pos e1, if_pos (show j < i + 1 by omega)]
            · by_cases e2 : j = i
              · subst e2
                rw [if_neg e1, if_pos rfl, if_pos (Nat.lt_succ_self j)]
                unfold cdA
                rw [← Hn.out, Htn.out]
              · rw [if_neg e1, if_neg e2, if_neg (show ¬ j < i + 1 by omega)]
                by_cases e3 : j = i + 1
                · rw [if_pos e3]; rfl
                · rw [if_neg e3]
    · obtain rfl : n = i := by omega
      have hlti : ¬ (n : Int) < (n : Int) := by omega
      have hr0 : wr.rowIs w.heap.size 3 n (iv (cdL xs)) := hrow.out.congr fun j hj => by
        rw [iv, cdL_getD (by rw [← Hn.out]; exact hj)]
        unfold cdF
        rw [if_pos hj]
      have ho := rowIs_ints (xs := cdL xs) (by rw [cdL_length, ← Hn.out]; exact hr0) (by rw [cdL_length, ← Hn.out]; unfold maxLen; omega)
      rw [cdL_length, ← Hn.out] at ho
      have Ho := Lib.hid ho
      clear ho hrow
      go_wp2_with fail
      go_ret
      exact ⟨_, rfl, Ho.out, hb.out⟩

set_option maxRecDepth 100000 in
set_option maxHeartbeats 4000000 in
theorem l1Place_any (v : Value) (xs : List Int) (w : World) (h : Ints w v xs) (hl : xs.length ≤ 4) (hb : ∀ i, i ≤ xs.length → plA xs i ≤ 1000000) :
    Calls Try.prog 22 #[v] w fun e w' => e = .returned (.int .i64 (plN xs : Nat)) ∧ Below w.heap.size w w' := by
  have Hh := Lib.hid h
  obtain ⟨p, cap, rfl, ⟨hx1, hx⟩, hxc⟩ := h
  unfold maxLen at hx
  have Hbb := Lib.hid hb
  clear hb hxc
  go_enter Try.func22, Try.ntmps22
  go_wp2_with fail
  refine (l1Code_any _ xs _ Hh.out (by omega)).mono ?_
  rintro e w1 ⟨u, rfl, ho, hb⟩
  have hI := ho.ints
  obtain ⟨pu, ku, rfl, hku, hku2⟩ := ho.shape
  unfold maxLen at hku2
  obtain ⟨n, hn⟩ : ∃ n, n = xs.length := ⟨_, rfl⟩
  rw [cdL_length, ← hn] at hku hI ⊢
  have HI := Lib.hid hI
  have Hn := Lib.hid hn
  rw [← hn] at hl
  clear ho hI hn
  go_wp2_with fail
  go_loopg [4, 5] n (fun g s4 s5 wr => ∃ i : Nat, i ≤ n ∧ g = n - i ∧ s5 = .int .i64 i ∧ s4 = .int .i64 (plA xs i : Nat) ∧ w1 = wr)
  case atStart => exact ⟨0, Nat.zero_le _, rfl, rfl, rfl, rfl⟩
  case round =>
    obtain ⟨i, hi, rfl, rfl, rfl, rfl⟩ := hrel
    obtain ⟨A, hA⟩ : ∃ A, A = plA xs i := ⟨_, rfl⟩
    have hAb := Hbb.out i (by rw [← Hn.out]; exact hi)
    rw [← hA] at hAb ⊢
    by_cases hlt : i < n
    · have hlti : (i : Int) < (n : Int) := by omega
      have hI := HI.out
      obtain ⟨_, _, e, _, hc0⟩ := hI
      injection e with e1 e2 e3
      subst e1 e3
      rw [cdL_length] at hc0
      obtain ⟨b, off, hpb, hc⟩ := hc0 (by rw [← Hn.out]; omega)
      subst hpb
      have c0 := hc i (by rw [← Hn.out]; exact hlt)
      unfold iv at c0
      rw [cdL_getD (by rw [← Hn.out]; exact hlt)] at c0
      obtain ⟨c, hcc⟩ : ∃ c, c = cdA xs i := ⟨_, rfl⟩
      rw [← hcc] at c0
      have hcb : c ≤ 4 := by rw [hcc]; unfold cdA; have := cdK_le xs i (xs.length - (i + 1)); have := Hn.out; omega
      obtain ⟨m, hm⟩ : ∃ m, m = n - i := ⟨_, rfl⟩
      have Hmi := Lib.hid (show (n : Int) - (i : Int) = (m : Int) by omega)
      obtain ⟨Y, hY, HY1, HY2⟩ := mul_named A m (by have := Nat.mul_le_mul hAb (show m ≤ 4 by omega); omega)
      have HY1' := Lib.hid HY1
      have HY2' := Lib.hid HY2
      clear HY1 HY2
      have hYb : Y ≤ 4000000 := by have := Nat.mul_le_mul hAb (show m ≤ 4 by omega); rw [hY]; omega
      have Hp := Lib.hid (show plA xs (i + 1) = Y + c by rw [plA, ← hA, ← hcc, hY, hm, Hn.out])
      have HT1 := Lib.hid (show wrap64 ((Y : Int) + (c : Int)) = (Y : Int) + (c : Int) from w64 (by omega) (by omega))
      have HT2 := Lib.hid (show IntKind.i64.wrap ((Y : Int) + (c : Int)) = (Y : Int) + (c : Int) from k64 (by omega) (by omega))
      clear hA hcc hm hY hc hc0 e2 hAb hYb hcb
      have h3 := HY1'.out
      have h4 := HY2'.out
      have h5 := HT1.out
      have h6 := HT2.out
      have h7 := Hmi.out
      go_wp2_with fail
      clear h3 h4 h5 h6 h7
      go_roundg (n - (i + 1))
      case measure => omega
      case rel => exact ⟨i + 1, by omega, rfl, by go_num, by rw [Hp.out]; rfl, rfl⟩
    · obtain rfl : n = i := by omega
      have hlti : ¬ (n : Int) < (n : Int) := by omega
      have HA := Lib.hid hA
      clear hA
      go_wp2_with fail
      go_ret
      refine ⟨?_, hb⟩
      unfold plN
      rw [← Hn.out, ← HA.out]
      rfl

end Go.Proofs.Ytajilmfaconjbaa
