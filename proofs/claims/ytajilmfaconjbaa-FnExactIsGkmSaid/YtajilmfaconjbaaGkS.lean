/-
  What the reference asks of numbers and values; its exchange of two places, codes and places.
-/
import Derived.Test.YtajilmfaconjbaaGkP
import Derived.Test.YtajilmfaconjbaaL7Copy
namespace Go.Proofs.Ytajilmfaconjbaa
set_option linter.all false
open Go.RowKit

theorem nm_no1 {N : Int} {y : List Int} (h : ¬ (1 ≤ N ∧ N ≤ 5)) : nmOk N y = false := by
  unfold nmOk
  by_cases h1 : 1 ≤ N
  · rw [decide_eq_false (show ¬ N ≤ 5 by omega)]; simp
  · rw [decide_eq_false h1]; simp
theorem nm_no2 {N : Int} {y : List Int} (h : ¬ (y.length : Int) = N) : nmOk N y = false := by
  unfold nmOk
  rw [decide_eq_false h]; simp
theorem nm_no3 {N : Int} {y : List Int} {k : Nat} (hk : k < y.length) (h : ¬ (-9 ≤ y.getD k 0 ∧ y.getD k 0 ≤ 9)) : nmOk N y = false := by
  unfold nmOk
  rw [decide_eq_false (show ¬ ∀ x ∈ y, -9 ≤ x ∧ x ≤ 9 from fun e => h (e _ (getD_mem hk)))]; simp
theorem all_of_getD {y : List Int} {Q : Int → Prop} (h : ∀ k, k < y.length → Q (y.getD k 0)) : ∀ x ∈ y, Q x := fun x hx => by
  obtain ⟨k, hk, rfl⟩ := List.mem_iff_getElem.1 hx
  have := h k hk
  rwa [getD_lt hk] at this
theorem nm_yes {N : Int} {y : List Int} (h : 1 ≤ N ∧ N ≤ 5) (hl : (y.length : Int) = N) (hk : ∀ k, k < y.length → -9 ≤ y.getD k 0 ∧ y.getD k 0 ≤ 9) : nmOk N y = true := by
  unfold nmOk
  rw [decide_eq_true h.1, decide_eq_true h.2, decide_eq_true hl, decide_eq_true (all_of_getD hk)]; rfl
theorem nm_facts {N : Int} {y : List Int} (h : nmOk N y = true) : ∃ n : Nat, N = n ∧ 1 ≤ n ∧ n ≤ 5 ∧ y.length = n ∧ ∀ k, k < n → -9 ≤ y.getD k 0 ∧ y.getD k 0 ≤ 9 := by
  unfold nmOk at h
  simp only [Bool.and_eq_true, decide_eq_true_eq] at h
  obtain ⟨⟨⟨h1, h2⟩, h3⟩, h4⟩ := h
  exact ⟨y.length, h3.symm, by omega, by omega, rfl, fun k hk => h4 _ (getD_mem hk)⟩

set_option maxRecDepth 100000 in
set_option maxHeartbeats 2000000 in
theorem l8Numbers_any (N : Int) (v : Value) (y : List Int) (w : World) (h : Ints w v y) :
    Calls Try.prog 47 #[.int .i64 N, v] w fun e w' => e = .returned (.bool (nmOk N y)) ∧ w = w' := by
  obtain ⟨p, cap, rfl, ⟨hx1, hx⟩, hxc⟩ := h
  unfold maxLen at hx
  go_enter Try.func47, Try.ntmps47
  go_wp2_with fail
  by_cases hN : 1 ≤ N ∧ N ≤ 5
  case neg =>
    refine (l1In_no _ _ _ _ hN).mono ?_
    rintro e w1 ⟨rfl, rfl⟩
    go_wp2_with fail
    go_ret
    exact ⟨ret_bool (nm_no1 hN).symm, rfl⟩
  refine (l1In_yes _ _ _ _ hN).mono ?_
  rintro e w1 ⟨rfl, rfl⟩
  by_cases hl : (y.length : Int) = N
  case neg =>
    go_wp2_with fail
    go_ret
    exact ⟨ret_bool (nm_no2 hl).symm, rfl⟩
  have HN := Lib.hid hN
  have Hl := Lib.hid hl
  subst hl
  clear hN
  go_wp2_with fail
  go_loopg [5] y.length (fun g s5 wr => ∃ k : Nat, k ≤ y.length ∧ g = y.length - k ∧ s5 = .int .i64 k ∧ w = wr ∧ Hid (∀ j, j < k → -9 ≤ y.getD j 0 ∧ y.getD j 0 ≤ 9))
  case atStart => exact ⟨0, Nat.zero_le _, rfl, rfl, rfl, Lib.hid fun j hj => absurd hj (Nat.not_lt_zero _)⟩
  case round =>
    obtain ⟨k, hk, rfl, rfl, rfl, hp⟩ := hrel
    by_cases hlt : k < y.length
    · obtain ⟨b, off, rfl, hc⟩ := hxc (by omega)
      obtain ⟨x, hx'⟩ : ∃ x, x = y.getD k 0 := ⟨_, rfl⟩
      have c1 := hc k hlt
      unfold iv at c1
      rw [← hx'] at c1
      have Hx := Lib.hid hx'
      have hk1 : (k : Int) < (y.length : Int) := by omega
      clear hx' hc hxc
      by_cases hr : -9 ≤ x ∧ x ≤ 9
      · go_wp2_with fail
        refine (l1In_yes _ _ _ _ hr).mono ?_
        rintro e w1 ⟨rfl, rfl⟩
        go_wp2_with fail
        go_roundg (y.length - (k + 1))
        case measure => omega
        case rel =>
          refine ⟨k + 1, by omega, rfl, by go_num, rfl, Lib.hid fun j hj => ?_⟩
          by_cases e : j = k
          · subst e; rw [← Hx.out]; exact hr
          · exact hp.out j (by omega)
      · go_wp2_with fail
        refine (l1In_no _ _ _ _ hr).mono ?_
        rintro e w1 ⟨rfl, rfl⟩
        go_wp2_with fail
        go_ret
        exact ⟨ret_bool (nm_no3 hlt (by rw [← Hx.out]; exact hr)).symm, rfl⟩
    · have hk1 : ¬ (k : Int) < (y.length : Int) := by omega
      go_wp2_with fail
      go_ret
      exact ⟨ret_bool (nm_yes HN.out rfl fun j hj => hp.out j (by omega)).symm, rfl⟩

theorem ints_takeP2 {w : World} {p : Option Addr} {cap : Nat} {xs : List Int} (h : Ints w (.slice p xs.length cap) xs) {i : Nat} (hi : i ≤ xs.length) : Ints w (.slice p i cap) (xs.take i) := h.take i hi
/-! ### different numbers -/
theorem ap_no1 {N : Int} {y : List Int} (h : nmOk N y = false) : apOk N y = false := by simp [apOk, h]
theorem ap_no2 {N : Int} {y : List Int} (h : ¬ N ≤ 4) : apOk N y = false := by simp [apOk, h]
theorem nodup_no {y : List Int} {k : Nat} (hk : k < y.length) (h : y.getD k 0 ∈ y.take k) : ¬ y.Nodup := fun hn => by
  obtain ⟨j, hj, e⟩ := List.mem_iff_getElem.1 h
  have hj' : j < k := by rw [List.length_take] at hj; omega
  rw [List.getElem_take, getD_lt hk] at e
  exact List.pairwise_iff_getElem.1 hn j k (by omega) hk hj' e
theorem nodup_yes {y : List Int} (h : ∀ k, k < y.length → ¬ y.getD k 0 ∈ y.take k) : y.Nodup := by
  refine List.pairwise_iff_getElem.2 fun i j hi hj hij e => h j hj ?_
  rw [getD_lt hj, ← e]
  exact List.mem_iff_getElem.2 ⟨i, by rw [List.length_take]; omega, by rw [List.getElem_take]⟩
theorem ap_no3 {N : Int} {y : List Int} {k : Nat} (hk : k < y.length) (h : y.getD k 0 ∈ y.take k) : apOk N y = false := by
  unfold apOk
  rw [decide_eq_false (nodup_no hk h)]; simp
theorem ap_yes {N : Int} {y : List Int} (h1 : nmOk N y = true) (h2 : N ≤ 4) (h : ∀ k, k < y.length → ¬ y.getD k 0 ∈ y.take k) : apOk N y = true := by
  unfold apOk
  rw [h1, decide_eq_true h2, decide_eq_true (nodup_yes h)]; rfl
theorem ap_facts {N : Int} {y : List Int} (h : apOk N y = true) : ∃ n : Nat, N = n ∧ 1 ≤ n ∧ n ≤ 4 ∧ y.length = n ∧ (∀ k, k < n → -9 ≤ y.getD k 0 ∧ y.getD k 0 ≤ 9) ∧ ∀ i j, i < n → j < n → i ≠ j → y.getD i 0 ≠ y.getD j 0 := by
  unfold apOk at h
  simp only [Bool.and_eq_true, decide_eq_true_eq] at h
  obtain ⟨⟨h1, h2⟩, h3⟩ := h
  obtain ⟨n, rfl, a, b, c, d⟩ := nm_facts h1
  refine ⟨n, rfl, a, by omega, c, d, fun i j hi hj hij e => ?_⟩
  rw [getD_lt (show i < y.length by omega), getD_lt (show j < y.length by omega)] at e
  rcases Nat.lt_or_gt_of_ne hij with h | h
  · exact List.pairwise_iff_getElem.1 h3 i j (by omega) (by omega) h e
  · exact List.pairwise_iff_getElem.1 h3 j i (by omega) (by omega) h e.symm

set_option maxRecDepth 100000 in
set_option maxHeartbeats 2000000 in
theorem l8Apart_any (N : Int) (v : Value) (y : List Int) (w : World) (h : Ints w v y) :
    Calls Try.prog 19 #[.int .i64 N, v] w fun e w' => e = .returned (.bool (apOk N y)) ∧ Qt w w' := by
  have Hh := Lib.hid h
  obtain ⟨p, cap, rfl, ⟨hx1, hx⟩, hxc⟩ := h
  unfold maxLen at hx
  go_enter Try.func19, Try.ntmps19
  go_wp2_with fail
  refine (l8Numbers_any _ _ y _ Hh.out).mono ?_
  rintro e w1 ⟨rfl, rfl⟩
  cases hn : nmOk N y with
  | false =>
    go_wp2_with fail
    go_ret
    exact ⟨ret_bool (ap_no1 hn).symm, Qt.refl _⟩
  | true =>
  by_cases h4 : N ≤ 4
  case neg =>
    go_wp2_with fail
    go_ret
    exact ⟨ret_bool (ap_no2 (by omega)).symm, Qt.refl _⟩
  obtain ⟨n, rfl, hn1, hn5, hyl, _⟩ := nm_facts hn
  have Hn := Lib.hid hn
  have Hyl := Lib.hid hyl
  have hn4 : n ≤ 4 := by omega
  have H4 := Lib.hid h4
  have hle : n ≤ cap := by omega
  have hd4 : decide ((4 : Int) < (n : Int)) = false := decide_eq_false (by omega)
  rw [hyl] at Hh hxc ⊢
  clear hn hyl
  go_wp2_with fail
  go_loopg [5] n (fun g s5 wr => ∃ k : Nat, k ≤ n ∧ g = n - k ∧ s5 = .int .i64 k ∧ Qt w wr ∧ Hid (∀ j, j < k → ¬ y.getD j 0 ∈ y.take j))
  case atStart => exact ⟨0, Nat.zero_le _, rfl, rfl, Qt.refl _, Lib.hid fun j hj => absurd hj (Nat.not_lt_zero _)⟩
  case round =>
    obtain ⟨k, hk, rfl, rfl, hq, hp⟩ := hrel
    by_cases hlt : k < n
    · obtain ⟨b, off, rfl, hc⟩ := hxc (by omega)
      obtain ⟨x, hx'⟩ : ∃ x, x = y.getD k 0 := ⟨_, rfl⟩
      have c1 := hq.cell (hc k hlt)
      unfold iv at c1
      rw [← hx'] at c1
      have Hx := Lib.hid hx'
      have hk1 : (k : Int) < (n : Int) := by omega
      have hk2 : (k : Int) ≤ (cap : Int) := by omega
      have HI := Lib.hid (show Ints wr (.slice (some ⟨b, off, none⟩) k cap) (y.take k) by
        have := Hh.out
        rw [← Hyl.out] at this
        exact (ints_takeP2 this (by rw [Hyl.out]; omega)).qt hq)
      obtain ⟨bb, hbb⟩ : ∃ bb, bb = decide (x ∈ y.take k) := ⟨_, rfl⟩
      have Hbb := Lib.hid hbb
      clear hx' hc hxc hbb
      go_wp2_with fail
      go_quiet (first | (go_at_call 48; exact quiet_q (v := .bool bb) ((l1Has_any _ (y.take k) x _ (HI.out.drewN _)).mono fun e w' ⟨h1, h2⟩ => ⟨by rw [h1, ← Hbb.out], h2⟩)))
      cases bb with
      | true =>
        go_wp2_with fail
        go_ret
        exact ⟨ret_bool (ap_no3 (k := k) (by rw [Hyl.out]; exact hlt) (by rw [← Hx.out]; exact of_decide_eq_true Hbb.out.symm)).symm, hq.drewN _⟩
      | false =>
        go_wp2_with fail
        go_roundg (n - (k + 1))
        case measure => omega
        case rel =>
          refine ⟨k + 1, by omega, rfl, by go_num, hq.drewN _, Lib.hid fun j hj => ?_⟩
          by_cases e : j = k
          · subst e; rw [← Hx.out]; exact of_decide_eq_false Hbb.out.symm
          · exact hp.out j (by omega)
    · have hk1 : ¬ (k : Int) < (n : Int) := by omega
      go_wp2_with fail
      go_ret
      exact ⟨ret_bool (ap_yes Hn.out H4.out fun j hj => hp.out j (by have := Hyl.out; omega)).symm, hq⟩

/-! ### values -/
theorem most_no {vs : List Int} {k : Nat} (hk : k < vs.length) (h : ¬ (-1000000000000 ≤ vs.getD k 0 ∧ vs.getD k 0 ≤ 1000000000000)) : mostB vs = false :=
  decide_eq_false fun e => h (e _ (getD_mem hk))
theorem most_yes {vs : List Int} (h : ∀ k, k < vs.length → -1000000000000 ≤ vs.getD k 0 ∧ vs.getD k 0 ≤ 1000000000000) : mostB vs = true := decide_eq_true (all_of_getD h)
theorem most_at {vs : List Int} (h : mostB vs = true) {k : Nat} (hk : k < vs.length) : -1000000000000 ≤ vs.getD k 0 ∧ vs.getD k 0 ≤ 1000000000000 := of_decide_eq_true h _ (getD_mem hk)

set_option maxRecDepth 100000 in
set_option maxHeartbeats 2000000 in
theorem l8Values_any (n : Nat) (v : Value) (vs : List Int) (w : World) (h : Ints w v vs) (hn : n ≤ 4) :
    Calls Try.prog 20 #[.int .i64 (n : Int), v] w fun e w' => e = .returned (.bool (decide (vs.length = fact n) && mostB vs)) ∧ Qt w w' := by
  obtain ⟨p, cap, rfl, ⟨hx1, hx⟩, hxc⟩ := h
  unfold maxLen at hx
  obtain ⟨F, hF⟩ : ∃ F, F = fact n := ⟨_, rfl⟩
  have hF24 : F ≤ 24 := by rw [hF]; exact Nat.le_trans (fact_le hn) (by decide)
  have HF := Lib.hid hF
  clear hF
  go_enter Try.func20, Try.ntmps20
  go_wp2_with fail
  refine (specFactorial_any n (by omega) _).mono ?_
  rintro e w1 ⟨rfl, hq1⟩
  rw [← HF.out]
  by_cases hl : vs.length = F
  case neg =>
    have hl2 : ¬ (vs.length : Int) = (F : Int) := by omega
    go_wp2_with fail
    go_ret
    exact ⟨ret_bool (by rw [decide_eq_false (show ¬ vs.length = fact n by rw [← HF.out]; exact hl)]; rfl), hq1⟩
  subst hl
  go_wp2_with fail
  go_loopg [5] vs.length (fun g s5 wr => ∃ k : Nat, k ≤ vs.length ∧ g = vs.length - k ∧ s5 = .int .i64 k ∧ Qt w wr ∧ Hid (∀ j, j < k → -1000000000000 ≤ vs.getD j 0 ∧ vs.getD j 0 ≤ 1000000000000))
  case atStart => exact ⟨0, Nat.zero_le _, rfl, rfl, hq1, Lib.hid fun j hj => absurd hj (Nat.not_lt_zero _)⟩
  case round =>
    obtain ⟨k, hk, rfl, rfl, hq, hp⟩ := hrel
    by_cases hlt : k < vs.length
    · obtain ⟨b, off, rfl, hc⟩ := hxc (by omega)
      obtain ⟨x, hx'⟩ : ∃ x, x = vs.getD k 0 := ⟨_, rfl⟩
      have c1 := hq.cell (hc k hlt)
      unfold iv at c1
      rw [← hx'] at c1
      have Hx := Lib.hid hx'
      have hk1 : (k : Int) < (vs.length : Int) := by omega
      clear hx' hc hxc
      by_cases hr : -1000000000000 ≤ x ∧ x ≤ 1000000000000
      · go_wp2_with fail
        refine (l1In_yes _ _ _ _ hr).mono ?_
        rintro e w2 ⟨rfl, rfl⟩
        go_wp2_with fail
        go_roundg (vs.length - (k + 1))
        case measure => omega
        case rel =>
          refine ⟨k + 1, by omega, rfl, by go_num, hq, Lib.hid fun j hj => ?_⟩
          by_cases e : j = k
          · subst e; rw [← Hx.out]; exact hr
          · exact hp.out j (by omega)
      · go_wp2_with fail
        refine (l1In_no _ _ _ _ hr).mono ?_
        rintro e w2 ⟨rfl, rfl⟩
        go_wp2_with fail
        go_ret
        exact ⟨ret_bool (by rw [most_no hlt (by rw [← Hx.out]; exact hr), Bool.and_false]), hq⟩
    · have hk1 : ¬ (k : Int) < (vs.length : Int) := by omega
      go_wp2_with fail
      go_ret
      exact ⟨ret_bool (by rw [decide_eq_true HF.out, most_yes fun j hj => hp.out j (by omega)]; rfl), hq⟩

/-! ### two places exchanged -/
theorem OwnI.setG {T : TypeId} {w : World} {lo hi g n cap t : Nat} {D : List Int} (h : OwnI T w lo hi (.slice (some ⟨g, 0, none⟩) n cap) D) (ht : t < D.length) (x : Int) : OwnI T (w.setCell ⟨g, t, none⟩ (.int .i64 x)) lo hi (.slice (some ⟨g, 0, none⟩) n cap) (D.set t x) := by
  refine OwnF.ints ?_
  rw [List.length_set]
  refine (h.fn.set t _).congr fun j hj => ?_
  unfold iv
  by_cases e : j = t
  · subst e; simp [List.getD_eq_getElem?_getD, ht]
  · simp [e, List.getD_eq_getElem?_getD, List.getElem?_set_ne (fun h => e h.symm)]

set_option maxRecDepth 100000 in
set_option maxHeartbeats 1000000 in
theorem l1Swap_any (v : Value) (xs : List Int) (i j : Nat) (w : World) (h : Ints w v xs) (hi : i < xs.length) (hj : j < xs.length) (hl : xs.length ≤ 1000) :
    Calls Try.prog 23 #[v, .int .i64 (i : Int), .int .i64 (j : Int)] w (RetI w (swapL xs i j)) := by
  have Hh := Lib.hid h
  obtain ⟨p, cap, rfl, ⟨hx1, hx⟩, hxc⟩ := h
  unfold maxLen at hx
  obtain ⟨b, off, rfl, hc⟩ := hxc (by omega)
  have Hc := Lib.hid hc
  clear hc hxc
  go_enter Try.func23, Try.ntmps23
  go_wp2_with fail
  refine (l1Ints_any _ xs _ Hh.out (by omega)).mono ?_
  rintro e w1 ⟨u, rfl, ho, hb⟩
  have hofn := ho.fn
  obtain ⟨pu, ku, rfl, hku, hku2⟩ := ho.shape
  unfold maxLen at hku2
  obtain ⟨g, rfl, hg1, hg2, hg3⟩ := hofn.at_ (by omega)
  obtain ⟨x, hx'⟩ : ∃ x, x = xs.getD i 0 := ⟨_, rfl⟩
  obtain ⟨y, hy'⟩ : ∃ y, y = xs.getD j 0 := ⟨_, rfl⟩
  have c1 : w1.cell? ⟨b, off + i, none⟩ = some (.int .i64 x) := by rw [hx']; exact cell_below hb (Hc.out i hi)
  have c2 : w1.cell? ⟨b, off + j, none⟩ = some (.int .i64 y) := by rw [hy']; exact cell_below hb (Hc.out j hj)
  have f1 := hofn.frozen i
  have f2 := hofn.frozen j
  have d1 := hofn.cell hi
  have d2 := hofn.cell hj
  obtain ⟨z, d3⟩ : ∃ z, (w1.setCell ⟨g, i, none⟩ (.int .i64 y)).cell? ⟨g, j, none⟩ = some z := ⟨_, (hofn.set i (.int .i64 y)).cell hj⟩
  have hgb : g ≠ b := fun e => by
    have := World.block_lt_of_cell? _ _ (Hc.out i hi)
    have : b < w.heap.size := this
    omega
  have hbg : b ≠ g := fun e => hgb e.symm
  obtain ⟨n, hn⟩ : ∃ n, n = xs.length := ⟨_, rfl⟩
  have Hn := Lib.hid hn
  have Ho := Lib.hid ho
  have Hb := Lib.hid hb
  have Hx := Lib.hid hx'
  have Hy := Lib.hid hy'
  have hi2 : (i : Int) < (n : Int) := by omega
  have hj2 : (j : Int) < (n : Int) := by omega
  rw [← hn] at hx1 hku hi hj ⊢
  clear hofn ho hb hn hx' hy' hgb
  go_wp2_with fail
  go_ret
  refine ⟨_, rfl, ?_, ((Hb.out.setCell (p := ⟨g, i, none⟩) hg1 _).setCell (p := ⟨g, j, none⟩) hg1 _)⟩
  unfold swapL
  rw [← Hx.out, ← Hy.out]
  have o1 := (Ho.out.setG (by rw [← Hn.out]; exact hi) y).setG (t := j) (by rw [List.length_set, ← Hn.out]; exact hj) x
  rw [← Hn.out] at o1
  have := o1.mono (Nat.le_refl _) (show w1.heap.size ≤ ((w1.setCell ⟨g, i, none⟩ (.int .i64 y)).setCell ⟨g, j, none⟩ (.int .i64 x)).heap.size by simp)
  exact this

end Go.Proofs.Ytajilmfaconjbaa
