/-
  What a permutation is: the reference's and the program's tests answer alike.
  Plain lists: rows put behind one another. No program, no memory.
  slices.Concat at []int, and the matrix of some rows.
  PermMatrix, the reference's and the program's: both give the matrix with 1 where the permutation says.
-/
import Derived.Test.YtklpaannmdbmiaaProg
import Derived.Test.YtklpaannmdbmiaaJ1
import Derived.StillTailTactics
namespace Go.Proofs.Ytklpaannmdbmiaa
set_option linter.all false
open Go.RowKit

/-- a permutation: from 1 to 7 numbers, each from 0 on and below their count, none twice -/
def permOk (w : List Int) : Bool := decide (1 ≤ w.length ∧ w.length ≤ 7 ∧ (∀ x ∈ w, 0 ≤ x ∧ x < (w.length : Int)) ∧ w.Nodup)
/-- the numbers of the first k places are in range and none is there twice -/
def permUpto (w : List Int) (k : Nat) : Prop := (∀ x ∈ w.take k, 0 ≤ x ∧ x < (w.length : Int)) ∧ (w.take k).Nodup

theorem take_snoc (xs : List Int) (k : Nat) (h : k < xs.length) : xs.take (k + 1) = xs.take k ++ [xs.getD k 0] := by
  rw [List.take_succ_eq_append_getElem h]; simp [List.getD_eq_getElem?_getD, h]
theorem permUpto_zero (w : List Int) : permUpto w 0 := by simp [permUpto]
theorem permUpto_succ {w : List Int} {k : Nat} (hk : k < w.length) (h : permUpto w k) (h0 : 0 ≤ w.getD k 0) (h1 : w.getD k 0 < (w.length : Int)) (h2 : w.getD k 0 ∉ w.take k) : permUpto w (k + 1) := by
  unfold permUpto
  rw [take_snoc w k hk]
  refine ⟨fun x hx => ?_, ?_⟩
  · rcases List.mem_append.1 hx with hx | hx
    · exact h.1 x hx
    · obtain rfl := List.mem_singleton.1 hx
      exact ⟨h0, h1⟩
  · rw [List.nodup_append]
    refine ⟨h.2, by simp, fun a ha b hb => ?_⟩
    obtain rfl := List.mem_singleton.1 hb
    exact fun e => h2 (e ▸ ha)
theorem permOk_of_upto {w : List Int} (h1 : 1 ≤ w.length) (h7 : w.length ≤ 7) (h : permUpto w w.length) : permOk w = true := by
  unfold permUpto at h
  rw [List.take_length] at h
  simp only [permOk, decide_eq_true_eq]
  exact ⟨h1, h7, h.1, h.2⟩
theorem getD_mem {w : List Int} {k : Nat} (hk : k < w.length) : w.getD k 0 ∈ w := by
  simp [List.getD_eq_getElem?_getD, hk]
theorem not_permOk_len {w : List Int} (h : ¬ (1 ≤ w.length ∧ w.length ≤ 7)) : permOk w = false := by
  simp only [permOk, decide_eq_false_iff_not]
  exact fun e => h ⟨e.1, e.2.1⟩
theorem not_permOk_range {w : List Int} {k : Nat} (hk : k < w.length) (h : ¬ (0 ≤ w.getD k 0 ∧ w.getD k 0 < (w.length : Int))) : permOk w = false := by
  simp only [permOk, decide_eq_false_iff_not]
  exact fun e => h (e.2.2.1 _ (getD_mem hk))
theorem not_permOk_twice {w : List Int} {k : Nat} (hk : k < w.length) (h : w.getD k 0 ∈ w.take k) : permOk w = false := by
  simp only [permOk, decide_eq_false_iff_not]
  intro e
  have hn := e.2.2.2
  rw [← List.take_append_drop k w, List.nodup_append] at hn
  refine hn.2.2 _ h _ ?_ rfl
  rw [List.mem_iff_getElem?]
  exact ⟨0, by simp [List.getD_eq_getElem?_getD, hk]⟩

set_option maxHeartbeats 400000 in
theorem l1In_any (a b c : Int) (w : World) :
    Calls Try.prog 56 #[.int .i64 a, .int .i64 b, .int .i64 c] w fun e w' => e = .returned (.bool (decide (b ≤ a ∧ a ≤ c))) ∧ w = w' := by
  go_enter Try.func56, Try.ntmps56
  go_wp2
  all_goals go_ret
  · refine ⟨ret_bool ?_, rfl⟩; simp; omega
  · refine ⟨ret_bool ?_, rfl⟩; simp; omega

theorem l1In_yes (a b c : Int) (w : World) (h : b ≤ a ∧ a ≤ c) :
    Calls Try.prog 56 #[.int .i64 a, .int .i64 b, .int .i64 c] w fun e w' => e = .returned (.bool true) ∧ w = w' := by
  have := l1In_any a b c w
  rwa [decide_eq_true h] at this
theorem l1In_no (a b c : Int) (w : World) (h : ¬ (b ≤ a ∧ a ≤ c)) :
    Calls Try.prog 56 #[.int .i64 a, .int .i64 b, .int .i64 c] w fun e w' => e = .returned (.bool false) ∧ w = w' := by
  have := l1In_any a b c w
  rwa [decide_eq_false h] at this

theorem Rd.take {w : World} {p : Option Addr} {n cap : Nat} {f : Nat → Value} (h : Rd w (.slice p n cap) n f) (k : Nat) (hk : k ≤ n) : Rd w (.slice p k cap) k f := by
  obtain ⟨p', cap', e, hm, h⟩ := h
  injection e with e1 e2 e3
  subst e1 e3
  exact ⟨p, cap, rfl, by omega, fun h0 => by obtain ⟨b, off, hp, hc⟩ := h (by omega); exact ⟨b, off, hp, fun j hj => hc j (by omega)⟩⟩
theorem Ints.take {w : World} {p : Option Addr} {cap : Nat} {xs : List Int} (h : Ints w (.slice p xs.length cap) xs) (k : Nat) (hk : k ≤ xs.length) : Ints w (.slice p k cap) (xs.take k) := by
  have hl : (xs.take k).length = k := by rw [List.length_take]; omega
  unfold Ints
  rw [hl]
  exact (Rd.take h k hk).congr fun j hj => by simp [iv, List.getD_eq_getElem?_getD, List.getElem?_take, hj]

set_option maxHeartbeats 400000 in
theorem l1Has_any (v : Value) (xs : List Int) (x : Int) (w : World) (h : Ints w v xs) :
    Calls Try.prog 49 #[v, .int .i64 x] w fun e w' => e = .returned (.bool (decide (x ∈ xs))) ∧ Qt w w' := by
  obtain ⟨p, cap, rfl, ⟨hx1, hx⟩, hxc⟩ := h
  unfold maxLen at hx
  go_enter Try.func49, Try.ntmps49
  go_wp2
  go_loopg [5] xs.length (fun g i wr => ∃ k : Nat, k ≤ xs.length ∧ g = xs.length - k ∧ i = .int .i64 k ∧ wr = w ∧ Hid (x ∉ xs.take k))
  case atStart => exact ⟨0, Nat.zero_le _, rfl, rfl, rfl, by simp [Hid]⟩
  case round =>
    obtain ⟨k, hk, rfl, rfl, rfl, hp⟩ := hrel
    by_cases hlt : k < xs.length
    · obtain ⟨b, off, rfl, hc⟩ := hxc (by omega)
      have c1 := hc k hlt
      unfold iv at c1
      clear hxc hc
      go_wp2
      · have ht : (xs[k] == x) = true := by assumption
        go_ret
        refine ⟨ret_bool ?_, Qt.refl _⟩
        symm
        simp only [decide_eq_true_eq]
        rw [beq_iff_eq] at ht
        subst ht
        exact List.getElem_mem hlt
      · have ht : (xs[k] == x) = false := by assumption
        go_roundg (xs.length - (k + 1))
        case measure => omega
        case rel =>
          refine ⟨k + 1, by omega, rfl, by go_num, rfl, ?_⟩
          unfold Hid
          rw [take_snoc xs k hlt, List.mem_append]
          rintro (e | e)
          · exact hp.out e
          · rw [beq_eq_false_iff_ne] at ht
            simp [List.getD_eq_getElem?_getD, hlt] at e
            exact ht e.symm
    · go_wp2
      go_ret
      obtain rfl : k = xs.length := by omega
      refine ⟨ret_bool ?_, Qt.refl _⟩
      symm
      simp only [decide_eq_false_iff_not]
      have := hp.out
      rwa [List.take_length] at this

set_option maxHeartbeats 1000000 in
theorem specIsPerm_any (v : Value) (xs : List Int) (w : World) (h : Ints w v xs) :
    Calls Try.prog 55 #[v] w fun e w' => e = .returned (.bool (permOk xs)) ∧ Qt w w' := by
  have hI := h
  obtain ⟨p, cap, rfl, ⟨hx1, hx⟩, hxc⟩ := h
  unfold maxLen at hx
  by_cases hl : 1 ≤ xs.length ∧ xs.length ≤ 7
  · obtain ⟨hl1, hl7⟩ := hl
    go_enter Try.func55, Try.ntmps55
    go_wp2_with (go_at_call 56; refine (l1In_yes _ _ _ _ (by omega)).mono ?_; rintro e w' ⟨rfl, rfl⟩)
    go_loopg [3] xs.length (fun g i wr => ∃ k : Nat, k ≤ xs.length ∧ g = xs.length - k ∧ i = .int .i64 k ∧ Qt w wr ∧ Hid (permUpto xs k))
    case atStart => exact ⟨0, Nat.zero_le _, rfl, rfl, Qt.refl _, permUpto_zero xs⟩
    case round =>
      obtain ⟨k, hk, rfl, rfl, hq, hp⟩ := hrel
      by_cases hlt : k < xs.length
      · obtain ⟨b, off, rfl, hc⟩ := hxc (by omega)
        have c1 := hq.cell (hc k hlt)
        unfold iv at c1
        clear hxc hc
        have hT := (hI.take k hk).qt hq
        have hwr : IntKind.i64.wrap ((xs.length : Int) - 1) = (xs.length : Int) - 1 := IntWalk.i64_in _ (by omega)
        by_cases hin : 0 ≤ xs.getD k 0 ∧ xs.getD k 0 < (xs.length : Int)
        · have hd : Hid (0 ≤ xs[k] ∧ xs[k] ≤ (xs.length : Int) - 1) := by
            simp [List.getD_eq_getElem?_getD, hlt] at hin; unfold Hid; omega
          have Hin := Lib.hid hin
          clear hin
          go_wp2_with fail
          go_quiet (first
            | (go_at_call 56; exact quiet_same (l1In_yes _ _ _ _ hd.out))
            | (go_at_call 49; exact quiet_q (l1Has_any _ _ _ _ (hT.drewN _))))
          clear hd hwr
          go_wp2_with fail
          · have ht : xs[k] ∈ List.take k xs := by assumption
            go_ret
            exact ⟨ret_bool (not_permOk_twice hlt (by rw [getD_lt hlt]; exact ht)).symm, hq.drewN _⟩
          · have ht : ¬ xs[k] ∈ List.take k xs := by assumption
            go_roundg (xs.length - (k + 1))
            case measure => omega
            case rel => exact ⟨k + 1, by omega, rfl, by go_num, hq.drewN _, permUpto_succ hlt hp.out Hin.out.1 Hin.out.2 (by rw [getD_lt hlt]; exact ht)⟩
        · have hd : Hid (¬ (0 ≤ xs[k] ∧ xs[k] ≤ (xs.length : Int) - 1)) := by
            rw [getD_lt hlt] at hin; unfold Hid; omega
          have Hin := Lib.hid hin
          clear hin
          go_wp2_with fail
          go_quiet (first
            | (go_at_call 56; exact quiet_same (l1In_no _ _ _ _ hd.out)))
          clear hd hwr
          go_wp2_with fail
          go_ret
          exact ⟨ret_bool (not_permOk_range hlt Hin.out).symm, hq.drewN _⟩
      · go_wp2_with fail
        go_ret
        obtain rfl : k = xs.length := by omega
        refine ⟨ret_bool ?_, hq⟩
        exact (permOk_of_upto hl1 hl7 hp.out).symm
  · go_enter Try.func55, Try.ntmps55
    go_wp2_with (go_at_call 56; refine (l1In_no _ _ _ _ (by omega)).mono ?_; rintro e w' ⟨rfl, rfl⟩)
    go_ret
    exact ⟨ret_bool (not_permOk_len hl).symm, Qt.refl _⟩

theorem mem_take_succ {xs : List Int} {k : Nat} (h : k < xs.length) (x : Int) : x ∈ xs.take (k + 1) ↔ x ∈ xs.take k ∨ x = xs.getD k 0 := by
  rw [take_snoc xs k h, List.mem_append, List.mem_singleton]

set_option maxHeartbeats 1000000 in
theorem implIsPerm_any (v : Value) (xs : List Int) (w : World) (h : Ints w v xs) :
    Calls Try.prog 25 #[v] w fun e w' => e = .returned (.bool (permOk xs)) ∧ Below w.heap.size w w' := by
  obtain ⟨p, cap, rfl, ⟨hx1, hx⟩, hxc⟩ := h
  unfold maxLen at hx
  by_cases hl : 1 ≤ xs.length ∧ xs.length ≤ 7
  · obtain ⟨hl1, hl7⟩ := hl
    have e1 : decide ((xs.length : Int) < 1) = false := by simp; omega
    have e2 : decide (7 < (xs.length : Int)) = false := by simp; omega
    go_enter Try.func25, Try.ntmps25
    go_wp2
    clear e1 e2
    go_loopg [17] xs.length (fun g i wr => ∃ k : Nat, k ≤ xs.length ∧ g = xs.length - k ∧ i = .int .i64 k ∧ Below w.heap.size w wr ∧ wr.rowIs w.heap.size 63 7 (fun j => .bool (decide ((j : Int) ∈ xs.take k))) ∧ Hid (permUpto xs k))
    case atStart =>
      refine ⟨0, Nat.zero_le _, rfl, rfl, (Below.refl _ _).alloc (Nat.le_refl _) _, World.rowIs_alloc w _ _ _ fun i hi => ?_, permUpto_zero xs⟩
      simp at hi
      match i, hi with
      | 0, _ | 1, _ | 2, _ | 3, _ | 4, _ | 5, _ | 6, _ => simp
    case round =>
      obtain ⟨k, hk, rfl, rfl, hb, hr, hp⟩ := hrel
      by_cases hlt : k < xs.length
      · obtain ⟨b, off, rfl, hc⟩ := hxc (by omega)
        have c1 : wr.cell? ⟨b, off + k, none⟩ = some (.int .i64 (xs.getD k 0)) := by
          rw [hb.cell (p := ⟨b, off + k, none⟩) (World.block_lt_of_cell? _ _ (hc k hlt))]; exact hc k hlt
        clear hxc hc
        by_cases hin : 0 ≤ xs.getD k 0 ∧ xs.getD k 0 < (xs.length : Int)
        · obtain ⟨m, hm⟩ := Int.eq_ofNat_of_zero_le hin.1
          have Hin := Lib.hid hin
          have hml : m < xs.length := by omega
          have Hm := Lib.hid hm
          rw [hm] at c1
          have c2 := hr.cell (i := m) (by omega)
          have c3 := hr.frozen m
          have hs := hr.lt
          clear hin hm
          by_cases hmet : (m : Int) ∈ xs.take k
          · have ht : decide ((m : Int) ∈ xs.take k) = true := decide_eq_true hmet
            rw [ht] at c2
            have Hmet := Lib.hid hmet
            clear ht hmet
            go_wp2
            go_ret
            exact ⟨ret_bool (not_permOk_twice hlt (by rw [Hm.out]; exact Hmet.out)).symm, hb⟩
          · have ht : decide ((m : Int) ∈ xs.take k) = false := decide_eq_false hmet
            rw [ht] at c2
            have Hmet := Lib.hid hmet
            clear ht hmet
            go_wp2
            go_roundg (xs.length - (k + 1))
            case measure => omega
            case rel =>
              refine ⟨k + 1, by omega, rfl, by go_num, hb.setCell (Nat.le_refl _) _, (hr.set m _).congr fun j hj => ?_, permUpto_succ hlt hp.out Hin.out.1 Hin.out.2 (by rw [Hm.out]; exact Hmet.out)⟩
              by_cases e : j = m
              · subst e
                simp only [if_true]
                congr 1
                symm
                rw [decide_eq_true_eq, mem_take_succ hlt]
                exact .inr Hm.out.symm
              · have e' : (j : Int) ≠ xs.getD k 0 := by rw [Hm.out]; omega
                simp only [e, if_false]
                congr 1
                rw [decide_eq_decide, mem_take_succ hlt]
                exact ⟨.inl, fun h => h.resolve_right e'⟩
        · have Hin := Lib.hid hin
          rw [getD_lt hlt] at hin
          by_cases hneg : xs[k] < 0
          · clear hin
            go_wp2
            all_goals
              go_ret
              exact ⟨ret_bool (not_permOk_range hlt Hin.out).symm, hb⟩
          · have hge : (xs.length : Int) ≤ xs[k] := by omega
            clear hin
            go_wp2
            all_goals
              go_ret
              exact ⟨ret_bool (not_permOk_range hlt Hin.out).symm, hb⟩
      · go_wp2
        go_ret
        obtain rfl : k = xs.length := by omega
        exact ⟨ret_bool (permOk_of_upto hl1 hl7 hp.out).symm, hb⟩
  · go_enter Try.func25, Try.ntmps25
    by_cases h1 : (xs.length : Int) < 1
    · go_wp2
      all_goals
        go_ret
        exact ⟨ret_bool (not_permOk_len hl).symm, Below.refl _ _⟩
    · have h7 : (7 : Int) < xs.length := by omega
      go_wp2
      all_goals
        go_ret
        exact ⟨ret_bool (not_permOk_len hl).symm, Below.refl _ _⟩

end Go.Proofs.Ytklpaannmdbmiaa

namespace Go.Proofs.Ytklpaannmdbmiaa
set_option linter.all false

theorem flat_length {α : Type} {n : Nat} : ∀ {rows : List (List α)}, (∀ r ∈ rows, r.length = n) → rows.flatten.length = rows.length * n
  | [], _ => by simp
  | r :: rs, h => by
    have h1 := h r (by simp)
    have h2 := flat_length (rows := rs) (fun x hx => h x (by simp [hx]))
    simp only [List.flatten_cons, List.length_append, List.length_cons, h1, h2, Nat.add_mul]
    omega

theorem flat_getElem? {α : Type} {n : Nat} (hn : 0 < n) : ∀ {rows : List (List α)}, (∀ r ∈ rows, r.length = n) → ∀ t, rows.flatten[t]? = (rows[t / n]?).bind fun r => r[t % n]?
  | [], _, t => by simp
  | r :: rs, h, t => by
    have h1 := h r (by simp)
    have ih := flat_getElem? hn (rows := rs) (fun x hx => h x (by simp [hx]))
    simp only [List.flatten_cons]
    by_cases ht : t < n
    · rw [List.getElem?_append_left (by omega), Nat.div_eq_of_lt ht, Nat.mod_eq_of_lt ht]
      simp
    · rw [List.getElem?_append_right (by omega), ih, h1]
      have e1 : t / n = (t - n) / n + 1 := by
        rw [Nat.div_eq, if_pos (by omega)]
      have e2 : t % n = (t - n) % n := Nat.mod_eq_sub_mod (by omega)
      rw [e1, e2]
      simp

theorem flat_getD {n : Nat} (hn : 0 < n) {rows : List (List Int)} (h : ∀ r ∈ rows, r.length = n) (t : Nat) : rows.flatten.getD t 0 = (rows.getD (t / n) []).getD (t % n) 0 := by
  simp only [List.getD_eq_getElem?_getD, flat_getElem? hn h t]
  cases rows[t / n]? <;> simp

/-- row i of a matrix that is given row by row -/
def rowAt (C : Nat) (D : List Int) (i : Nat) : List Int := (D.drop (i * C)).take C
def rowsOf (R C : Nat) (D : List Int) : List (List Int) := (List.range R).map (rowAt C D)

theorem rowAt_length {C : Nat} {D : List Int} {i : Nat} (h : (i + 1) * C ≤ D.length) : (rowAt C D i).length = C := by
  simp only [rowAt, List.length_take, List.length_drop]
  rw [Nat.add_mul] at h
  omega
theorem rowAt_getD {C : Nat} {D : List Int} {i j : Nat} (hj : j < C) : (rowAt C D i).getD j 0 = D.getD (i * C + j) 0 := by
  simp only [rowAt, List.getD_eq_getElem?_getD, List.getElem?_take, if_pos hj, List.getElem?_drop]
theorem rowsOf_length (R C : Nat) (D : List Int) : (rowsOf R C D).length = R := by simp [rowsOf]
theorem rowsOf_getD {R C : Nat} {D : List Int} {i : Nat} (hi : i < R) : (rowsOf R C D).getD i [] = rowAt C D i := by
  simp [rowsOf, List.getD_eq_getElem?_getD, hi]
theorem mul_le_of {i R C : Nat} (h : i < R) : (i + 1) * C ≤ R * C := Nat.mul_le_mul_right _ h
theorem rowsOf_each {R C : Nat} {D : List Int} (h : D.length = R * C) : ∀ r ∈ rowsOf R C D, r.length = C := by
  intro r hr
  simp only [rowsOf, List.mem_map, List.mem_range] at hr
  obtain ⟨i, hi, rfl⟩ := hr
  exact rowAt_length (by rw [h]; exact mul_le_of hi)
theorem rowsOf_flat {R C : Nat} {D : List Int} (h : D.length = R * C) : (rowsOf R C D).flatten = D := by
  rcases Nat.eq_zero_or_pos C with rfl | hC
  · have h0 : D = [] := List.eq_nil_of_length_eq_zero (by omega)
    subst h0
    apply List.eq_nil_of_length_eq_zero
    rw [flat_length (n := 0) (rowsOf_each h)]; omega
  · have hl := flat_length (rowsOf_each h)
    rw [rowsOf_length] at hl
    apply List.ext_getElem?
    intro t
    rw [flat_getElem? hC (rowsOf_each h)]
    by_cases ht : t < R * C
    · have hd : t / C < R := Nat.div_lt_of_lt_mul (by rwa [Nat.mul_comm])
      have hm : t % C < C := Nat.mod_lt _ hC
      rw [show (rowsOf R C D)[t / C]? = some (rowAt C D (t / C)) by simp [rowsOf, hd]]
      simp only [Option.bind_some, rowAt, List.getElem?_take, if_pos hm, List.getElem?_drop]
      congr 1
      rw [Nat.mul_comm]
      exact Nat.div_add_mod t C
    · have hd : ¬ t / C < R := fun hd => ht (by
        have := Nat.div_add_mod t C
        have hm : t % C < C := Nat.mod_lt _ hC
        have h2 := Nat.mul_le_mul_right C hd
        rw [Nat.succ_mul] at h2
        have h3 : C * (t / C) = t / C * C := Nat.mul_comm _ _
        omega)
      rw [show (rowsOf R C D)[t / C]? = none by simp [rowsOf]; omega]
      simp
      omega
theorem rowsOf_of_flat {C : Nat} {rows : List (List Int)} (h : ∀ r ∈ rows, r.length = C) : rowsOf rows.length C rows.flatten = rows := by
  apply List.ext_getElem (by rw [rowsOf_length])
  intro i h1 h2
  rw [rowsOf_length] at h1
  have hr : (rowsOf rows.length C rows.flatten)[i] = rowAt C rows.flatten i := by simp [rowsOf]
  rw [hr]
  have hl : rows[i].length = C := h _ (List.getElem_mem h2)
  have hfl := flat_length h
  apply List.ext_getElem (by rw [rowAt_length (by rw [hfl]; exact mul_le_of h1), hl])
  intro j h3 h4
  rw [hl] at h4
  have hC : 0 < C := by omega
  have e1 : (rowAt C rows.flatten i)[j]? = rows[i][j]? := by
    simp only [rowAt, List.getElem?_take, if_pos h4, List.getElem?_drop]
    rw [flat_getElem? hC h, show (i * C + j) / C = i by rw [Nat.mul_comm, Nat.mul_add_div hC, Nat.div_eq_of_lt h4]; rfl,
      show (i * C + j) % C = j by rw [Nat.mul_comm, Nat.mul_add_mod, Nat.mod_eq_of_lt h4], List.getElem?_eq_getElem h2]
    rfl
  rw [List.getElem?_eq_getElem h3, List.getElem?_eq_getElem (by omega)] at e1
  exact Option.some.inj e1

/-- row i of a matrix with 1 where a permutation says -/
def unitRow (n : Nat) (x : Int) : List Int := (List.range n).map fun (j : Nat) => if (j : Int) = x then 1 else 0
def permRows (w : List Int) : List (List Int) := w.map (unitRow w.length)

theorem unitRow_length (n : Nat) (x : Int) : (unitRow n x).length = n := by simp [unitRow]
theorem unitRow_getD {n : Nat} {x : Int} {j : Nat} (h : j < n) : (unitRow n x).getD j 0 = if (j : Int) = x then 1 else 0 := by
  simp [unitRow, List.getD_eq_getElem?_getD, h]
theorem permRows_each (w : List Int) : ∀ r ∈ permRows w, r.length = w.length := by
  intro r hr
  simp only [permRows, List.mem_map] at hr
  obtain ⟨x, _, rfl⟩ := hr
  exact unitRow_length _ _
theorem permRows_length (w : List Int) : (permRows w).length = w.length := by simp [permRows]
theorem permRows_flat_length (w : List Int) : (permRows w).flatten.length = w.length * w.length := by
  rw [flat_length (permRows_each w), permRows_length]
theorem permRows_flat_getD {w : List Int} {t : Nat} (h : t < w.length * w.length) : (permRows w).flatten.getD t 0 = if ((t % w.length : Nat) : Int) = w.getD (t / w.length) 0 then 1 else 0 := by
  have hn : 0 < w.length := by
    rcases Nat.eq_zero_or_pos w.length with h0 | h0
    · rw [h0] at h; omega
    · exact h0
  have hd : t / w.length < w.length := Nat.div_lt_of_lt_mul h
  rw [flat_getD hn (permRows_each w)]
  have : (permRows w).getD (t / w.length) [] = unitRow w.length (w.getD (t / w.length) 0) := by
    simp [permRows, List.getD_eq_getElem?_getD, hd]
  rw [this, unitRow_getD (Nat.mod_lt _ hn)]

theorem div_at {n k m : Nat} (h : m < n) : (k * n + m) / n = k ∧ (k * n + m) % n = m := by
  have hn : 0 < n := by omega
  refine ⟨?_, ?_⟩
  · rw [Nat.mul_comm, Nat.mul_add_div hn, Nat.div_eq_of_lt h]; rfl
  · rw [Nat.mul_comm, Nat.mul_add_mod, Nat.mod_eq_of_lt h]
/-- the permutation's matrix: one row more has its 1 -/
theorem pm_step {xs : List Int} {k m t : Nat} (hm : xs.getD k 0 = (m : Int)) (hml : m < xs.length) :
    (if t = k * xs.length + m then (1 : Int) else if t / xs.length < k ∧ ((t % xs.length : Nat) : Int) = xs.getD (t / xs.length) 0 then 1 else 0) =
      if t / xs.length < k + 1 ∧ ((t % xs.length : Nat) : Int) = xs.getD (t / xs.length) 0 then 1 else 0 := by
  obtain ⟨e1, e2⟩ := div_at (k := k) hml
  by_cases e : t = k * xs.length + m
  · subst e
    rw [if_pos rfl, if_pos]
    rw [e1, e2, hm]
    exact ⟨by omega, rfl⟩
  · rw [if_neg e]
    by_cases h1 : t / xs.length < k
    · have h2 : t / xs.length < k + 1 := by omega
      simp only [h1, h2, true_and]
    · by_cases h3 : t / xs.length = k
      · rw [if_neg (fun h => h1 h.1), if_neg]
        rintro ⟨_, h4⟩
        rw [h3, hm] at h4
        have h5 : t % xs.length = m := by omega
        apply e
        have := Nat.div_add_mod t xs.length
        rw [h3, h5, Nat.mul_comm] at this
        exact this.symm
      · rw [if_neg (fun h => h1 h.1), if_neg (fun h => by omega)]

theorem take_flat_succ {rows : List (List Int)} {k : Nat} (h : k < rows.length) : (rows.take (k + 1)).flatten = (rows.take k).flatten ++ rows.getD k [] := by
  rw [List.take_succ_eq_append_getElem h, List.flatten_append]; simp [List.getD_eq_getElem?_getD, h]
theorem take_flat_le (rows : List (List Int)) (k : Nat) : (rows.take k).flatten.length ≤ rows.flatten.length := by
  have : rows.flatten = (rows.take k).flatten ++ (rows.drop k).flatten := by rw [← List.flatten_append, List.take_append_drop]
  rw [this, List.length_append]; omega
theorem take_flat_len {rows : List (List Int)} {k : Nat} (h : k < rows.length) : (rows.take k).flatten.length + (rows.getD k []).length = (rows.take (k + 1)).flatten.length := by
  rw [take_flat_succ h, List.length_append]

theorem permRows_take_succ {xs : List Int} {k : Nat} (h : k < xs.length) : (permRows xs).take (k + 1) = (permRows xs).take k ++ [unitRow xs.length (xs.getD k 0)] := by
  rw [List.take_succ_eq_append_getElem (by rw [permRows_length]; exact h)]
  simp [permRows, List.getD_eq_getElem?_getD, h]

end Go.Proofs.Ytklpaannmdbmiaa

namespace Go.Proofs.Ytklpaannmdbmiaa
set_option linter.all false
open Go.RowKit

theorem info_sl : (Try.prog.info? 24).map (fun i => (i.zero, i.size, i.bytes)) = some (some (.slice none 0 0), 1, 24) := by kernel_rfl

theorem run_append_make_nil {P : Program} (w : World) (t ti ty e : TypeId) (z : Value) (bytes : Nat) (ht : P.underlying t = some (.slice e)) (hti : P.underlying ti = some (.int .i64))
    (hinfo : (P.info? e).map (fun i => (i.zero, i.size, i.bytes)) = some (some z, 1, bytes)) (hzs : z.cells.size = 1) (n : Nat) (h0 : 0 < n) (hn : n ≤ 1000000) (hb : bytes ≤ 1000) (hb0 : 0 < bytes) :
    ∃ cap w', (Builtin.append_ #[t, ti] ty #[.slice none 0 0, .int .i64 (n : Int)]).run P w = .ok (.slice (some ⟨w.heap.size, 0, none⟩) n cap) w' ∧ n ≤ cap ∧ cap ≤ maxLen ∧
      (∃ F, w'.rowIs w.heap.size e cap F) ∧ Below w.heap.size w w' ∧ w'.heap.size = w.heap.size + 1 := by
  obtain ⟨i, hi, hz, hsz, hby⟩ := info_parts hinfo
  have hge := grownCap_ge w n 0 e
  have hle := grownCap_le_maxLen w n 0 e (by unfold maxLen; omega)
  have hwr : IntKind.i64.wrap (n : Int) = (n : Int) := k64 (by omega) (by omega)
  have hnb : n * bytes ≤ 1000000 * 1000 := Nat.mul_le_mul hn hb
  have h1 : ¬ ((n : Int) < 0) := by omega
  have h3 : ¬ (281474976710656 < Builtin.nextslicecap n 0 * i.bytes) := by rw [nextslicecap_zero h0, hby]; omega
  have h4 : ¬ (281474976710656 < (n : Int) * (i.bytes : Int)) := by
    rw [hby]
    have : ((n * bytes : Nat) : Int) = (n : Int) * (bytes : Int) := Int.natCast_mul _ _
    omega
  have h5 : ¬ (9223372036854775807 < (n : Int)) := by omega
  have h6 : n ≠ 0 := by omega
  refine ⟨grownCap w n 0 e, w.drew.alloc (.cells (Builtin.zeroCells z.cells n ++ Builtin.zeroCells z.cells (grownCap w n 0 e - n)) e), ?_, hge, hle, ⟨fun j => (Builtin.zeroCells z.cells n ++ Builtin.zeroCells z.cells (grownCap w n 0 e - n)).getD j undef, ?_⟩, ?_, by simp⟩
  · simp [Builtin.append_, run_underlying ht, run_underlying hti, sizeOf, typeInfo, zeroValue, hi, hz, hsz, Builtin.firstCells, asInt, asIntOf, hwr, h1, h3, h4, h5, h6, Question.forced, newRow, grownCap, loadCells, loadCellsFrom]
  · have hs : (Builtin.zeroCells z.cells n ++ Builtin.zeroCells z.cells (grownCap w n 0 e - n)).size = grownCap w n 0 e := by
      rw [Array.size_append, size_zeroCells, size_zeroCells, hzs]; omega
    exact ⟨_, heap_alloc_new w.drew _, hs, fun j hj => by simp only [Array.getD_eq_getD_getElem?]; rw [Array.getElem?_eq_getElem (by omega)]; rfl⟩
  · exact ((Below.refl _ _).drew).alloc (by simp) _

theorem wpList_append_make_nil {P : Program} {w : World} {ops : Array Oper} {rest : List Oper} {o : Oper} {a : Act} {Q : Exit → Act → World → Prop} (hgd : o.guard = none) (s x : Operand) (t ti : TypeId)
    (ho : o.op = .call { callee := .builtin .append, args := #[s, x], argTypes := #[t, ti] })
    (e : TypeId) (z : Value) (bytes : Nat) (ht : P.underlying t = some (.slice e)) (hti : P.underlying ti = some (.int .i64))
    (hinfo : (P.info? e).map (fun i => (i.zero, i.size, i.bytes)) = some (some z, 1, bytes)) (hzs : z.cells.size = 1) (n : Nat) (h0 : 0 < n) (hn : n ≤ 1000000) (hb : bytes ≤ 1000) (hb0 : 0 < bytes)
    (hs : a.eval s = .slice none 0 0) (hx : a.eval x = .int .i64 (n : Int))
    (h : ∀ cap w' F, n ≤ cap → cap ≤ maxLen → w'.rowIs w.heap.size e cap F → Below w.heap.size w w' → wpList P ops Q rest (a.put o.dst (.slice (some ⟨w.heap.size, 0, none⟩) n cap)) w') :
    wpList P ops Q (o :: rest) a w := by
  refine wpList_plain hgd fun K hK' => ?_
  obtain ⟨cap, w', hr, h1, h2, ⟨F, hF⟩, hbw, _⟩ := run_append_make_nil (P := P) w t ti o.type e z bytes ht hti hinfo hzs n h0 hn hb hb0
  unfold Oper.wp
  simp [execOp, ho, resolve, invoke, builtin, hs, hx, hr, Result.andThen]
  exact hK' _ _ (h cap w' F h1 h2 hF hbw)

set_option maxRecDepth 100000 in
set_option maxHeartbeats 400000 in
/-- slices.Grow at nil: room for so many -/
theorem grow_nil (n : Nat) (w : World) (hn : n ≤ 1000000) :
    Calls Try.prog 52 #[.slice none 0 0, .int .i64 (n : Int)] w fun e w' => ∃ v, e = .returned v ∧ OwnF w' w.heap.size w'.heap.size 3 v 0 (fun _ => undef) ∧ Below w.heap.size w w' := by
  by_cases h0 : n = 0
  · subst h0
    go_enter Try.func52, Try.ntmps52
    go_wp2
    go_ret
    exact ⟨_, rfl, OwnF.nil _ _ _ _ _, Below.refl _ _⟩
  · have hpos : (0 : Int) < n := by omega
    go_enter Try.func52, Try.ntmps52
    go_wp2_with (at_builtin; refine wpList_append_make_nil rfl (.tmp 20) (.tmp 21) 24 3 rfl 3 (.int .i64 0) 8 Try.underlying24 Try.underlying3 info_int rfl n (by omega) hn (by omega) (by omega) rfl rfl ?_; intro cap w1 F h1 h2 hF hb)
    go_ret
    exact ⟨_, rfl, OwnF.mk' hF (Nat.le_refl _) hF.lt (Nat.zero_le _) h2 (fun j hj => absurd hj (Nat.not_lt_zero _)), hb⟩

theorem iv_append {xs ys : List Int} {n : Nat} (hn : n = xs.length) (j : Nat) : (if j < n then iv xs j else iv ys (j - n)) = iv (xs ++ ys) j := by
  subst hn
  unfold iv
  by_cases h : j < xs.length
  · rw [if_pos h]; simp [List.getD_eq_getElem?_getD, List.getElem?_append_left h]
  · rw [if_neg h]; simp [List.getD_eq_getElem?_getD, List.getElem?_append_right (Nat.le_of_not_lt h)]
theorem iv_one (xs : List Int) (j : Nat) : (iv xs j).oneCell' = true := rfl

set_option maxRecDepth 100000 in
set_option maxHeartbeats 1000000 in
/-- slices.Concat: the lists behind one another, in new memory -/
theorem concat_any (v : Value) (rows : List (List Int)) (w : World) (h : RdII w v rows) (hl : rows.flatten.length ≤ 1000000) :
    Calls Try.prog 37 #[v] w fun e w' => ∃ u, e = .returned u ∧ OwnI 3 w' w.heap.size w'.heap.size u rows.flatten ∧ Below w.heap.size w w' := by
  obtain ⟨f, ⟨p, cap, rfl, ⟨hx1, hx⟩, hxc⟩, hrows⟩ := h
  have Hrows := Lib.hid hrows
  have Hxc := Lib.hid hxc
  clear hrows hxc
  unfold maxLen at hx
  go_enter Try.func37, Try.ntmps37
  go_wp2_with fail
  go_loopg [3, 11] rows.length (fun g s3 i wr => ∃ k : Nat, k ≤ rows.length ∧ g = rows.length - k ∧ i = .int .i64 k ∧ s3 = .int .i64 ((rows.take k).flatten.length : Nat) ∧ wr = w)
  case atStart => exact ⟨0, Nat.zero_le _, rfl, rfl, by simp, rfl⟩
  case round =>
    obtain ⟨k, hk, rfl, rfl, rfl, rfl⟩ := hrel
    have hle := take_flat_le rows k
    by_cases hlt : k < rows.length
    · obtain ⟨b, off, rfl, hc⟩ := Hxc.out (by omega)
      obtain ⟨q, cq, e, ⟨hq1, hq2⟩, _⟩ := Hrows.out k hlt
      have c1 := hc k hlt
      rw [e] at c1
      have hsum := take_flat_len hlt
      have hle2 := take_flat_le rows (k + 1)
      obtain ⟨A, hA⟩ : ∃ A, A = (rows.take k).flatten.length := ⟨_, rfl⟩
      obtain ⟨L, hL⟩ : ∃ L, L = (rows.getD k []).length := ⟨_, rfl⟩
      rw [← hA] at hsum hle ⊢
      rw [← hL] at c1 hsum
      have HA := Lib.hid hA
      have HL := Lib.hid hL
      have hAL : A + L ≤ 1000000 := by omega
      have Hsum := Lib.hid hsum
      clear hA hL hsum hc e
      go_wp2_with fail
      all_goals
        go_roundg (rows.length - (k + 1))
        case measure => omega
        case rel => exact ⟨k + 1, by omega, rfl, by go_num, by rw [← Hsum.out]; go_num, rfl⟩
    · obtain rfl : k = rows.length := by omega
      rw [List.take_length] at hle ⊢
      obtain ⟨A, hA⟩ : ∃ A, A = rows.flatten.length := ⟨_, rfl⟩
      rw [← hA] at hl ⊢
      have HA := Lib.hid hA
      clear hA hle
      obtain ⟨wo, rfl⟩ : ∃ wo : World, wo = wr := ⟨_, rfl⟩
      go_wp2_with (go_at_call 52; refine (grow_nil _ _ hl).mono ?_; rintro e w1 ⟨v0, rfl, ho, hb⟩)
      go_loopg [6, 27] rows.length (fun g s6 i wx => ∃ k : Nat, k ≤ rows.length ∧ g = rows.length - k ∧ i = .int .i64 k ∧ Below wo.heap.size wo wx ∧
        OwnF wx wo.heap.size wx.heap.size 3 s6 (rows.take k).flatten.length (iv (rows.take k).flatten))
      case atStart => exact ⟨0, Nat.zero_le _, rfl, rfl, hb, by simpa using ho.congr fun j hj => absurd hj (Nat.not_lt_zero _)⟩
      case round =>
        obtain ⟨k, hk, rfl, rfl, hbx, hox⟩ := hrel
        clear ho hb
        have hle := take_flat_le rows k
        by_cases hlt : k < rows.length
        · obtain ⟨b, off, rfl, hc⟩ := Hxc.out (by omega)
          have hri := (Hrows.out k hlt).below hbx
          obtain ⟨q, cq, e, ⟨hq1, hq2⟩, _⟩ := Hrows.out k hlt
          have c1 : wr.cell? ⟨b, off + k, none⟩ = some (f k) := by
            rw [hbx.cell (p := ⟨b, off + k, none⟩) (World.block_lt_of_cell? _ _ (hc k hlt))]; exact hc k hlt
          rw [e] at c1 hri
          have hsum := take_flat_len hlt
          have hle2 := take_flat_le rows (k + 1)
          have hys := take_flat_succ hlt
          obtain ⟨ys, hy⟩ : ∃ ys, ys = rows.getD k [] := ⟨_, rfl⟩
          rw [← hy] at c1 hri hsum hq1 hys
          have Hys := Lib.hid hys
          have Hb1 := Lib.hid (show (rows.take k).flatten.length + ys.length ≤ maxLen by unfold maxLen; have := HA.out; omega)
          have Hb2 := Lib.hid (show ((rows.take k).flatten.length + ys.length) * 8 ≤ 140737488355328 by have := HA.out; omega)
          have Hri := Lib.hid hri
          have Hox := Lib.hid hox
          clear hsum hc e hle2 hle hri hox hy hys
          go_wp2_with (at_builtin; refine wpList_append_F rfl (.tmp 31) (.tmp 32) 24 rfl 3 (.int .i64 0) 8 Try.underlying24 info_int rfl wo.heap.size wr.heap.size _ _ _ rfl Hox.out hbx.size (Nat.le_refl _) _ _ _ rfl Hri.out (fun j _ => iv_one _ j) Hb1.out Hb2.out ?_; intro v' w' ho' hg')
          go_roundg (rows.length - (k + 1))
          case measure => omega
          case rel =>
            refine ⟨k + 1, by omega, rfl, by go_num, hbx.trans (grownBy_below hg' Hox.out.blocks (Nat.le_refl _) hbx.size), ?_⟩
            rw [Hys.out, List.length_append]
            exact ho'.congr fun j _ => iv_append rfl j
        · go_wp2_with fail
          go_ret
          obtain rfl : k = rows.length := by omega
          rw [List.take_length] at hox
          exact ⟨_, rfl, hox.ints, hbx⟩

set_option maxRecDepth 100000 in
set_option maxHeartbeats 400000 in
theorem matrixOf_any (p c : Int) (v : Value) (rows : List (List Int)) (w : World) (h : RdII w v rows) (hl : rows.flatten.length ≤ 1000000) :
    Calls Try.prog 26 #[.int .i64 p, .int .i64 c, v] w (RetM w ⟨p, rows.length, c, rows.flatten⟩) := by
  obtain ⟨q, cap, e⟩ : ∃ q cap, v = .slice q rows.length cap := by
    obtain ⟨f, ⟨q, cap, e, _⟩, _⟩ := h
    exact ⟨q, cap, e⟩
  subst e
  have Hn := Lib.hid fun o => concat_any _ rows (w.alloc o) (h.below (below_alloc w o)) hl
  go_enter Try.func26, Try.ntmps26
  go_wp2_with fail
  refine (Hn.out _).mono ?_
  rintro e w1 ⟨u, rfl, ho, hb⟩
  have hbw := (below_alloc w _).trans (hb.mono (by simp))
  have b0 : w1.heap[w.heap.size]? = some (.cells #[.int .i64 0, .int .i64 0, .int .i64 0, .slice none 0 0] 26) := by
    rw [hb.block _ (by simp)]; exact heap_alloc_top _ _
  obtain ⟨c00, c01, c02, c03, c0f, hz0⟩ := blk4 b0
  have ho' : OwnI 3 w1 (w.heap.size + 1) w1.heap.size u rows.flatten := ho.mono (by simp) (Nat.le_refl _)
  obtain ⟨up, ucap, rfl, _, _⟩ := ho'.shape
  clear hb ho b0 h
  have Ho := Lib.hid ho'
  clear ho'
  go_wp2_with fail
  refine bodyPost_ret (v := .agg #[.int .i64 p, .int .i64 rows.length, .int .i64 c, .slice up rows.flatten.length ucap]) (by simp [results, Try.results26, go_sem, c00, c01, c02, c03, hz0]) rfl ⟨_, rfl, ?_, ?_⟩
  · exact (own_set4 Ho.out (.inl (by omega)) _ _ _ _).mono (by omega) (by simp only [size_setCell]; omega)
  · exact below_set4 hbw (Nat.le_refl _) _ _ _ _

end Go.Proofs.Ytklpaannmdbmiaa

namespace Go.Proofs.Ytklpaannmdbmiaa
set_option linter.all false
open Go.RowKit

def primeOk (p : Int) : Bool := decide (p = 2 ∨ p = 3 ∨ p = 5 ∨ p = 7)

theorem info_mx : (Try.prog.info? 26).map (fun i => (i.zero, i.size, i.bytes)) = some (some (.agg #[.int .i64 0, .int .i64 0, .int .i64 0, .slice none 0 0]), 4, 48) := by kernel_rfl

set_option maxRecDepth 100000 in
set_option maxHeartbeats 1000000 in
theorem l7Perm_any (p : Int) (v : Value) (xs : List Int) (w : World) (h : Ints w v xs) (hp : permOk xs = true) :
    Calls Try.prog 20 #[.int .i64 p, v] w fun e w' =>
      ∃ u, e = .returned (.agg #[.int .i64 p, .int .i64 xs.length, .int .i64 xs.length, u]) ∧ OwnI 3 w' w.heap.size w'.heap.size u (permRows xs).flatten ∧ Below w.heap.size w w' := by
  have hw := Lib.hid h
  obtain ⟨q, cap, rfl, ⟨hx1, hx⟩, hxc⟩ := h
  obtain ⟨hl1, hl7, hr, _⟩ := of_decide_eq_true hp
  have Hp := Lib.hid hp
  clear hp
  have hsq : xs.length * xs.length ≤ 7 * 7 := Nat.mul_le_mul hl7 hl7
  obtain ⟨N, hN, hwr, hwk⟩ := mul_named xs.length xs.length (by omega)
  have hN49 : N ≤ 49 := by omega
  have HN := Lib.hid hN
  have Hr := Lib.hid hr
  have hmk := run_make_row' (P := Try.prog) 24 3 (.int .i64 0) 8 Try.underlying24 info_int rfl .i64 .i64 N (by omega) (by omega)
  clear hr hsq hN
  unfold maxLen at hx
  have Hxc := Lib.hid hxc
  clear hxc
  go_enter Try.func20, Try.ntmps20
  go_wp2
  clear hmk hwr hwk
  go_loopg [7] xs.length (fun g i wr => ∃ k : Nat, k ≤ xs.length ∧ g = xs.length - k ∧ i = .int .i64 k ∧ Below w.heap.size w wr ∧
    wr.heap[w.heap.size]? = some (.cells #[.int .i64 0, .int .i64 0, .int .i64 0, .slice none 0 0] 26) ∧
    wr.heap[w.heap.size + 1 + 1]? = some (.cells #[.int .i64 p, .int .i64 xs.length, .int .i64 xs.length, .slice (some ⟨w.heap.size + 1, 0, none⟩) N N] 26) ∧
    wr.rowIs (w.heap.size + 1) 3 N (fun t => .int .i64 (if t / xs.length < k ∧ ((t % xs.length : Nat) : Int) = xs.getD (t / xs.length) 0 then 1 else 0)))
  case atStart =>
    refine ⟨0, Nat.zero_le _, rfl, rfl, below_alloc3 _ _ _ _, ?_, ?_, ?_⟩
    · rw [heap_alloc_low _ _ (by simp; omega), heap_alloc_low _ _ (by simp)]; exact heap_alloc_top _ _
    · exact heap_alloc_at _ _ (by simp)
    · have := World.rowIs_made (w.alloc (.cells #[.int .i64 0, .int .i64 0, .int .i64 0, .slice none 0 0] 26)) (.int .i64 0) N 3
      rw [size_alloc] at this
      exact (this.alloc _).congr fun j _ => by simp
  case round =>
    obtain ⟨k, hk, rfl, rfl, hb, hB0, hB2, hrow⟩ := hrel
    by_cases hlt : k < xs.length
    · obtain ⟨b, off, rfl, hc⟩ := Hxc.out (by omega)
      have hx0 := Hr.out _ (getD_mem hlt)
      obtain ⟨m, hm⟩ := Int.eq_ofNat_of_zero_le hx0.1
      have c1 : wr.cell? ⟨b, off + k, none⟩ = some (.int .i64 (m : Int)) := by
        rw [hb.cell (p := ⟨b, off + k, none⟩) (World.block_lt_of_cell? _ _ (hc k hlt)), hc k hlt]; simp only [iv, hm]
      have hml : m < xs.length := by omega
      have hKn : k * xs.length + m < N := by
        have := HN.out
        have h2 := Nat.mul_le_mul_right xs.length hlt
        rw [Nat.succ_mul] at h2
        omega
      obtain ⟨K, hK, hkr, hkk⟩ := mul_named k xs.length (by omega)
      have Hkr := Lib.hid hkr
      have Hkk := Lib.hid hkk
      clear hkr hkk
      have HK := Lib.hid hK
      have hKm : K + m < N := by omega
      have hb0 : -1000000000000000000 ≤ (K : Int) + (m : Int) := by omega
      have hb1 : (K : Int) + (m : Int) ≤ 1000000000000000000 := by omega
      have Hm := Lib.hid hm
      have hi0 : (0 : Int) ≤ (K : Int) + m := by omega
      have hi1 : (K : Int) + m < (N : Int) := by omega
      have hi2 : ((K : Int) + (m : Int)).toNat = K + m := by omega
      obtain ⟨z, c3⟩ : ∃ z, wr.cell? ⟨w.heap.size + 1, K + m, none⟩ = some (.int .i64 z) := ⟨_, hrow.cell hKm⟩
      have c4 := hrow.frozen (K + m)
      obtain ⟨c20, c21, c22, c23, c2f, hz2⟩ := blk4 hB2
      have Hrow := Lib.hid hrow
      have HB0 := Lib.hid hB0
      have HB2 := Lib.hid hB2
      clear hc hx0 hm hK hKn hrow hB0 hB2
      have hkr := Hkr.out
      have hkk := Hkk.out
      have hs1 := w64 hb0 hb1
      have hs2 := k64 hb0 hb1
      clear hb0 hb1
      go_wp2
      go_still_tail 11, (by kernel_rfl)
      change wpList _ _ _ _ _ wr.drew
      go_wp2
      clear hkr hkk hs1 hs2
      go_roundg (xs.length - (k + 1))
      case measure => omega
      case rel =>
        refine ⟨k + 1, by omega, rfl, by go_num, (hb.setCell (by simp) _).drew, ?_, ?_, ((Hrow.out.set (K + m) _).congr fun t ht => ?_).drew⟩
        · exact (Below.heap_setCell _ _ _ _ (by simp)).trans HB0.out
        · exact (Below.heap_setCell _ _ _ _ (by simp)).trans HB2.out
        · rw [← pm_step Hm.out hml, ← HK.out]
          by_cases e : t = K + m <;> simp [e]
    · obtain ⟨c20, c21, c22, c23, c2f, hz2⟩ := blk4 hB2
      obtain ⟨c00, c01, c02, c03, c0f, hz0⟩ := blk4 hB0
      obtain rfl : k = xs.length := by omega
      have Hrow := Lib.hid hrow
      clear hrow hB0 hB2
      go_wp2
      have hown : OwnI 3 wr (w.heap.size + 1) (w.heap.size + 1 + 1) (.slice (some ⟨w.heap.size + 1, 0, none⟩) N N) (permRows xs).flatten := by
        have hl : (permRows xs).flatten.length = N := by rw [permRows_flat_length]; exact HN.out.symm
        refine OwnF.ints ?_
        rw [hl]
        refine OwnF.mk' (Hrow.out) (Nat.le_refl _) (by omega) (Nat.le_refl _) (by unfold maxLen; omega) fun t ht => ?_
        have ht' : t < xs.length * xs.length := by rw [← HN.out]; exact ht
        rw [iv, permRows_flat_getD ht']
        have hd : t / xs.length < xs.length := Nat.div_lt_of_lt_mul ht'
        simp [hd]
      refine bodyPost_ret (v := .agg #[.int .i64 p, .int .i64 xs.length, .int .i64 xs.length, .slice (some ⟨w.heap.size + 1, 0, none⟩) N N]) (by simp [results, Try.results20, go_sem, c00, c01, c02, c03, hz0]) rfl ⟨_, rfl, ?_, ?_⟩
      · exact (own_set4 hown (.inl (by omega)) _ _ _ _).mono (by omega) (by simp only [size_setCell]; omega)
      · exact below_set4 hb (Nat.le_refl _) _ _ _ _

def permMx (p : Int) (xs : List Int) : Mx := if primeOk p && permOk xs then ⟨p, xs.length, xs.length, (permRows xs).flatten⟩ else mxZero

theorem specIsPerm_b (v : Value) (xs : List Int) (b : Bool) (hb : permOk xs = b) (w : World) (h : Ints w v xs) :
    Calls Try.prog 55 #[v] w fun e w' => e = .returned (.bool b) ∧ Qt w w' := hb ▸ specIsPerm_any v xs w h
theorem implIsPerm_b (v : Value) (xs : List Int) (b : Bool) (hb : permOk xs = b) (w : World) (h : Ints w v xs) :
    Calls Try.prog 25 #[v] w fun e w' => e = .returned (.bool b) ∧ Below w.heap.size w w' := hb ▸ implIsPerm_any v xs w h

/-- the block of the result, still zero -/
theorem zero_blk {w w1 : World} {T : TypeId} {x0 x1 x2 x3 : Value} (hb : Below (w.alloc (.cells #[x0, x1, x2, x3] T)).heap.size (w.alloc (.cells #[x0, x1, x2, x3] T)) w1) :
    w1.heap[w.heap.size]? = some (.cells #[x0, x1, x2, x3] T (0, 0)) ∧ Below w.heap.size w w1 := by
  refine ⟨?_, (below_alloc w _).trans (hb.mono (by simp))⟩
  rw [hb.block _ (by simp)]; exact heap_alloc_top _ _

theorem permMx_no {p : Int} {xs : List Int} (h : primeOk p = false ∨ permOk xs = false) : permMx p xs = mxZero := by
  unfold permMx
  rcases h with h | h <;> simp [h]
theorem permMx_yes {p : Int} {xs : List Int} (h1 : primeOk p = true) (h2 : permOk xs = true) : permMx p xs = ⟨p, xs.length, xs.length, (permRows xs).flatten⟩ := by simp [permMx, h1, h2]

set_option maxHeartbeats 400000 in
theorem isPrime_b (p : Int) (b : Bool) (hb : primeOk p = b) (w : World) :
    Calls Try.prog 24 #[.int .i64 p] w fun e w' => e = .returned (.bool b) ∧ w = w' := by
  subst hb
  by_cases h2 : p = 2
  · subst h2
    go_enter Try.func24, Try.ntmps24
    go_wp2
    go_ret
    exact ⟨rfl, rfl⟩
  by_cases h3 : p = 3
  · subst h3
    go_enter Try.func24, Try.ntmps24
    go_wp2
    go_ret
    exact ⟨rfl, rfl⟩
  by_cases h5 : p = 5
  · subst h5
    go_enter Try.func24, Try.ntmps24
    go_wp2
    go_ret
    exact ⟨rfl, rfl⟩
  by_cases h7 : p = 7
  · subst h7
    go_enter Try.func24, Try.ntmps24
    go_wp2
    go_ret
    exact ⟨rfl, rfl⟩
  · have e2 : (p == 2) = false := by simp [h2]
    have e3 : (p == 3) = false := by simp [h3]
    have e5 : (p == 5) = false := by simp [h5]
    have e7 : (p == 7) = false := by simp [h7]
    go_enter Try.func24, Try.ntmps24
    go_wp2
    go_ret
    exact ⟨ret_bool (by simp [primeOk, h2, h3, h5, h7]), rfl⟩

set_option maxRecDepth 100000 in
set_option maxHeartbeats 1000000 in
theorem implPermMatrix_any (p : Int) (v : Value) (xs : List Int) (w : World) (h : Ints w v xs) :
    Calls Try.prog 8 #[.int .i64 p, v] w (RetM w (permMx p xs)) := by
  have h1 := fun o => h.below (below_alloc w o)
  have H1 := Lib.hid h1
  clear h1
  cases hp : primeOk p with
  | false =>
    have Hm := Lib.hid (permMx_no (xs := xs) (.inl hp))
    have Hp := Lib.hid hp
    clear hp h
    go_enter Try.func8, Try.ntmps8
    go_wp2_with (go_at_call 24; refine (isPrime_b _ _ Hp.out _).mono ?_; rintro e w' ⟨rfl, rfl⟩)
    rw [Hm.out]
    refine bodyPost_ret (v := .agg #[.int .i64 0, .int .i64 0, .int .i64 0, .slice none 0 0]) (by simp [results, Try.results8, go_sem]) rfl ⟨_, rfl, ?_, ?_⟩
    · exact ⟨World.ownsRow_nil _ _ _ _, fun k hk => by simp [Value.ownBlock] at hk⟩
    · exact below_alloc w _
  | true =>
    have Hp := Lib.hid hp
    cases hx : permOk xs with
    | false =>
      have Hm := Lib.hid (permMx_no (p := p) (.inr hx))
      have Hx := Lib.hid hx
      clear hp hx h
      go_enter Try.func8, Try.ntmps8
      go_wp2_with (first
        | (go_at_call 24; refine (isPrime_b _ _ Hp.out _).mono ?_; rintro e w' ⟨rfl, rfl⟩)
        | (go_at_call 25; refine (implIsPerm_b _ xs _ Hx.out _ (H1.out _)).mono ?_; rintro e w1 ⟨rfl, hb⟩; obtain ⟨hz0, hbw⟩ := zero_blk hb; obtain ⟨c00, c01, c02, c03, c0f, hz⟩ := blk4 hz0; clear hz0 hb))
      rw [Hm.out]
      refine bodyPost_ret (v := .agg #[.int .i64 0, .int .i64 0, .int .i64 0, .slice none 0 0]) (by simp [results, Try.results8, go_sem, c00, c01, c02, c03, hz]) rfl ⟨_, rfl, ?_, ?_⟩
      · exact ⟨World.ownsRow_nil _ _ _ _, fun k hk => by simp [Value.ownBlock] at hk⟩
      · exact below_set4 hbw (Nat.le_refl _) _ _ _ _
    | true =>
      have Hm := Lib.hid (permMx_yes hp hx)
      have Hx := Lib.hid hx
      obtain ⟨hl1, hl7, hr, _⟩ := of_decide_eq_true hx
      have Hr := Lib.hid hr
      clear hp hx h hr
      obtain ⟨q, cap, rfl, ⟨hx1, hx2⟩, hxc⟩ := H1.out default
      clear hxc
      unfold maxLen at hx2
      go_enter Try.func8, Try.ntmps8
      go_wp2_with (first
        | (go_at_call 24; refine (isPrime_b _ _ Hp.out _).mono ?_; rintro e w' ⟨rfl, rfl⟩)
        | (go_at_call 25; refine (implIsPerm_b _ xs _ Hx.out _ (H1.out _)).mono ?_; rintro e w1 ⟨rfl, hb⟩; have H2 := Lib.hid ((H1.out _).below hb); obtain ⟨hz0, hbw⟩ := zero_blk hb; have Hz0 := Lib.hid hz0; clear hz0 hb))
      have hmk := run_make_row' (P := Try.prog) 24 3 (.int .i64 0) 8 Try.underlying24 info_int rfl .i64 .i64 xs.length (by omega) (by omega)
      have Hmk := Lib.hid hmk
      clear hmk
      go_loopg [5, 21] xs.length (fun g s5 i wr => ∃ k : Nat, k ≤ xs.length ∧ g = xs.length - k ∧ i = .int .i64 k ∧ Below w1.heap.size w1 wr ∧
        OwnII 24 3 wr w1.heap.size wr.heap.size s5 ((permRows xs).take k))
      case atStart =>
        exact ⟨0, Nat.zero_le _, rfl, rfl, below_alloc _ _, fun _ => undef, (OwnF.made0 w1 24 _).mono (Nat.le_refl _) (by simp), fun i hi => absurd hi (by simp), fun i j _ hj => absurd hj (by simp)⟩
      case round =>
        obtain ⟨k, hk, rfl, rfl, hb, f, g1, g2, g3⟩ := hrel
        by_cases hlt : k < xs.length
        · obtain ⟨_, _, e, _, hxc⟩ := H2.out
          injection e with e1 e2 e3
          subst e1 e3
          obtain ⟨b, off, rfl, hc⟩ := hxc (by omega)
          have hx0 := Hr.out _ (getD_mem hlt)
          obtain ⟨m, hm⟩ := Int.eq_ofNat_of_zero_le hx0.1
          have c1 : wr.cell? ⟨b, off + k, none⟩ = some (.int .i64 (m : Int)) := by
            rw [hb.cell (p := ⟨b, off + k, none⟩) (World.block_lt_of_cell? _ _ (hc k hlt)), hc k hlt]; simp only [iv, hm]
          have hml : m < xs.length := by omega
          have Hm' := Lib.hid hm
          have hmk := Hmk.out
          clear hxc hx0 hc hm
          have hcm : (madeCells #[Value.int .i64 0] xs.length)[m]? = some (.int .i64 0) := by simp [madeCells, hml, Nat.mod_one]
          have hlen : ((permRows xs).take k).length = k := by rw [List.length_take, permRows_length]; omega
          rw [hlen] at g1 g2 g3
          have G1 := Lib.hid g1
          have G2 := Lib.hid g2
          have G3 := Lib.hid g3
          have hsz := hb.size
          have hk7 : k + 1 ≤ 7 := by omega
          have Hb1 := Lib.hid (show k + 1 ≤ maxLen by unfold maxLen; omega)
          have Hb2 := Lib.hid (show (k + 1) * 24 ≤ 140737488355328 by omega)
          have hO := Lib.hid fun o o' => g1.below (below_alloc2 wr o o')
          have Hlen := Lib.hid hlen
          clear g1 g2 g3 hlen
          go_wp2_with (at_builtin; go_must (refine wpList_append_F rfl (.tmp 31) (.tmp 33) 51 rfl 24 (.slice none 0 0) 24 Try.underlying51 info_sl rfl w1.heap.size wr.heap.size u5 k f rfl (hO.out _ _) (by simp; omega) (by simp; omega) _ _ _ rfl (rd_one _ _ _ (by simp)) (fun j _ => rfl) Hb1.out Hb2.out ?_; intro v' w' ho' hg'))
          clear hmk hcm
          have hrow : OwnI 3 ((wr.alloc (.cells ((madeCells #[Value.int .i64 0] xs.length).setIfInBounds m (.int .i64 1)) 3)).alloc (.cells #[.slice (some ⟨wr.heap.size, 0, none⟩) xs.length xs.length] 24)) wr.heap.size (wr.heap.size + 1)
              (.slice (some ⟨wr.heap.size, 0, none⟩) xs.length xs.length) (unitRow xs.length (xs.getD k 0)) := by
            have hu := unitRow_length xs.length (xs.getD k 0)
            refine OwnF.ints ?_
            rw [hu]
            have hr0 : World.rowIs (wr.alloc (.cells ((madeCells #[Value.int .i64 0] xs.length).setIfInBounds m (.int .i64 1)) 3)) wr.heap.size 3 xs.length (fun j => .int .i64 (if j = m then 1 else 0)) := by
              have := World.rowIs_alloc wr ((madeCells #[Value.int .i64 0] xs.length).setIfInBounds m (.int .i64 1)) 3 (fun j => .int .i64 (if j = m then 1 else 0)) (fun i hi => by
                simp [madeCells] at hi
                by_cases e : i = m
                · subst e; simp [madeCells, hml]
                · simp [madeCells, Array.getElem?_setIfInBounds, hi, e, Nat.mod_one, show ¬ m = i by omega])
              simpa [madeCells] using this
            refine OwnF.mk' (hr0.alloc _) (Nat.le_refl _) (by omega) (Nat.le_refl _) (by unfold maxLen; omega) fun j hj => ?_
            rw [iv, unitRow_getD hj, Hm'.out]
            by_cases e : j = m
            · subst e; simp
            · rw [if_neg e, if_neg (by omega)]
          go_roundg (xs.length - (k + 1))
          case measure => omega
          case rel =>
            refine ⟨k + 1, by omega, rfl, by go_num, (hb.trans (below_alloc2 wr _ _ |>.mono hsz)).trans (grownBy_below hg' (hO.out default default).blocks (Nat.le_refl _) (by simp; omega)), ?_⟩
            rw [permRows_take_succ hlt]
            have hs := hg'.size
            simp only [size_alloc] at hs
            refine OwnII.snoc (mid := wr.heap.size) (hi := wr.heap.size + 1) (f := f) ?_ ?_ ?_ hrow hsz (by omega) (by decide) hg' (by omega) ?_
            · rw [Hlen.out]; exact hO.out _ _
            · rw [Hlen.out]; exact fun i hi => (G2.out i hi).below (below_alloc2 wr _ _)
            · rw [Hlen.out]; exact G3.out
            · rw [Hlen.out]; exact ho'
        · obtain rfl : k = xs.length := by omega
          rw [List.take_of_length_le (by rw [permRows_length]; exact Nat.le_refl _)] at g1 g2 g3
          have hII : OwnII 24 3 wr w1.heap.size wr.heap.size u5 (permRows xs) := ⟨f, g1, g2, g3⟩
          have hz2 := blk_later Hz0.out (hb.mono (Nat.le_refl _))
          have hfl : (permRows xs).flatten.length ≤ 1000000 := by
            rw [permRows_flat_length]
            have := Nat.mul_le_mul hl7 hl7
            omega
          have HII := Lib.hid hII
          have Hz2 := Lib.hid hz2
          have Hfl := Lib.hid hfl
          clear hII hz2 g1 g2 g3 hfl
          go_wp2_with (go_at_call 26; refine (matrixOf_any _ _ _ _ _ HII.out.rd Hfl.out).mono ?_; rintro e w2 ⟨u, rfl, ho, hb2⟩; obtain ⟨c00, c01, c02, c03, c0f, hz⟩ := blk4 (blk_later Hz2.out hb2); obtain ⟨up, ucap, rfl, _, _⟩ := ho.shape; have Ho := Lib.hid ho; clear ho)
          rw [Hm.out]
          have hz1 := blk_lt Hz0.out
          have hz3 := hb.size
          refine bodyPost_ret (v := .agg #[.int .i64 p, .int .i64 xs.length, .int .i64 xs.length, .slice up (permRows xs).flatten.length ucap]) (by simp [results, Try.results8, go_sem, c00, c01, c02, c03, hz, permRows_length]) rfl ⟨_, rfl, ?_, ?_⟩
          · exact (own_set4 Ho.out (.inl (by omega)) _ _ _ _).mono (by omega) (by simp only [size_setCell]; omega)
          · exact below_set4 ((hbw.trans (hb.mono (by omega))).trans (hb2.mono (by omega))) (Nat.le_refl _) _ _ _ _

theorem permMx_len (p : Int) (xs : List Int) : (permMx p xs).D.length ≤ 1000000 := by
  unfold permMx
  split
  · rename_i h
    simp only [Bool.and_eq_true] at h
    obtain ⟨_, h7, _⟩ := of_decide_eq_true h.2
    show (permRows xs).flatten.length ≤ _
    rw [permRows_flat_length]
    have := Nat.mul_le_mul h7 h7
    omega
  · simp [mxZero]

end Go.Proofs.Ytklpaannmdbmiaa
