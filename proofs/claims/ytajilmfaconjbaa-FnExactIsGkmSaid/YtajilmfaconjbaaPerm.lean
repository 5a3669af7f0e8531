/-
  What a permutation is: the reference's and the program's tests answer alike.
-/
import Derived.Test.YtajilmfaconjbaaProg
import Derived.Test.YtajilmfaconjbaaMem
namespace Go.Proofs.Ytajilmfaconjbaa
set_option linter.all false
open Go.RowKit

/-- a permutation: from 1 to 7 numbers, each from 0 on and below their count, none twice -/
def permOk (w : List Int) : Bool := decide (1 ≤ w.length ∧ w.length ≤ 7 ∧ (∀ x ∈ w, 0 ≤ x ∧ x < (w.length : Int)) ∧ w.Nodup)
/-- the numbers of the first k places are in range and none is there twice -/
def permUpto (w : List Int) (k : Nat) : Prop := (∀ x ∈ w.take k, 0 ≤ x ∧ x < (w.length : Int)) ∧ (w.take k).Nodup

theorem take_snoc (xs : List Int) (k : Nat) (h : k < xs.length) : xs.take (k + 1) = xs.take k ++ [xs.getD k 0] := by
  rw [List.take_succ_eq_append_getElem h]; simp [List.getD_eq_getElem?_getD, h]
theorem permUpto_zero (w : List Int) : permUpto w 0 := by simp [permUpto]
theorem permUpto_succ {w : List Int} {k : Nat} (hk : k < w.length) (h : permUpto w k) (h0 : 0 ≤ w.getD k 0) (h1 : w.getD k 0 < (w.length : Int)) (h2 : w.getD k 0 ∉ w.take k) : permUpto w (k + 1) := by
  unfold permUpto
  rw [take_snoc w k hk]
  refine ⟨fun x hx => ?_, ?_⟩
  · rcases List.mem_append.1 hx with hx | hx
    · exact h.1 x hx
    · obtain rfl := List.mem_singleton.1 hx
      exact ⟨h0, h1⟩
  · rw [List.nodup_append]
    refine ⟨h.2, by simp, fun a ha b hb => ?_⟩
    obtain rfl := List.mem_singleton.1 hb
    exact fun e => h2 (e ▸ ha)
theorem permOk_of_upto {w : List Int} (h1 : 1 ≤ w.length) (h7 : w.length ≤ 7) (h : permUpto w w.length) : permOk w = true := by
  unfold permUpto at h
  rw [List.take_length] at h
  simp only [permOk, decide_eq_true_eq]
  exact ⟨h1, h7, h.1, h.2⟩
theorem getD_mem {w : List Int} {k : Nat} (hk : k < w.length) : w.getD k 0 ∈ w := by
  simp [List.getD_eq_getElem?_getD, hk]
theorem not_permOk_len {w : List Int} (h : ¬ (1 ≤ w.length ∧ w.length ≤ 7)) : permOk w = false := by
  simp only [permOk, decide_eq_false_iff_not]
  exact fun e => h ⟨e.1, e.2.1⟩
theorem not_permOk_range {w : List Int} {k : Nat} (hk : k < w.length) (h : ¬ (0 ≤ w.getD k 0 ∧ w.getD k 0 < (w.length : Int))) : permOk w = false := by
  simp only [permOk, decide_eq_false_iff_not]
  exact fun e => h (e.2.2.1 _ (getD_mem hk))
theorem not_permOk_twice {w : List Int} {k : Nat} (hk : k < w.length) (h : w.getD k 0 ∈ w.take k) : permOk w = false := by
  simp only [permOk, decide_eq_false_iff_not]
  intro e
  have hn := e.2.2.2
  rw [← List.take_append_drop k w, List.nodup_append] at hn
  refine hn.2.2 _ h _ ?_ rfl
  rw [List.mem_iff_getElem?]
  exact ⟨0, by simp [List.getD_eq_getElem?_getD, hk]⟩

set_option maxHeartbeats 400000 in
theorem l1In_any (a b c : Int) (w : World) :
    Calls Try.prog 50 #[.int .i64 a, .int .i64 b, .int .i64 c] w fun e w' => e = .returned (.bool (decide (b ≤ a ∧ a ≤ c))) ∧ w = w' := by
  go_enter Try.func50, Try.ntmps50
  go_wp2
  all_goals go_ret
  · refine ⟨ret_bool ?_, rfl⟩; simp; omega
  · refine ⟨ret_bool ?_, rfl⟩; simp; omega

theorem l1In_yes (a b c : Int) (w : World) (h : b ≤ a ∧ a ≤ c) :
    Calls Try.prog 50 #[.int .i64 a, .int .i64 b, .int .i64 c] w fun e w' => e = .returned (.bool true) ∧ w = w' := by
  have := l1In_any a b c w
  rwa [decide_eq_true h] at this
theorem l1In_no (a b c : Int) (w : World) (h : ¬ (b ≤ a ∧ a ≤ c)) :
    Calls Try.prog 50 #[.int .i64 a, .int .i64 b, .int .i64 c] w fun e w' => e = .returned (.bool false) ∧ w = w' := by
  have := l1In_any a b c w
  rwa [decide_eq_false h] at this

theorem Rd.take {w : World} {p : Option Addr} {n cap : Nat} {f : Nat → Value} (h : Rd w (.slice p n cap) n f) (k : Nat) (hk : k ≤ n) : Rd w (.slice p k cap) k f := by
  obtain ⟨p', cap', e, hm, h⟩ := h
  injection e with e1 e2 e3
  subst e1 e3
  exact ⟨p, cap, rfl, by omega, fun h0 => by obtain ⟨b, off, hp, hc⟩ := h (by omega); exact ⟨b, off, hp, fun j hj => hc j (by omega)⟩⟩
theorem Ints.take {w : World} {p : Option Addr} {cap : Nat} {xs : List Int} (h : Ints w (.slice p xs.length cap) xs) (k : Nat) (hk : k ≤ xs.length) : Ints w (.slice p k cap) (xs.take k) := by
  have hl : (xs.take k).length = k := by rw [List.length_take]; omega
  unfold Ints
  rw [hl]
  exact (Rd.take h k hk).congr fun j hj => by simp [iv, List.getD_eq_getElem?_getD, List.getElem?_take, hj]

set_option maxHeartbeats 400000 in
theorem l1Has_any (v : Value) (xs : List Int) (x : Int) (w : World) (h : Ints w v xs) :
    Calls Try.prog 48 #[v, .int .i64 x] w fun e w' => e = .returned (.bool (decide (x ∈ xs))) ∧ Qt w w' := by
  obtain ⟨p, cap, rfl, ⟨hx1, hx⟩, hxc⟩ := h
  unfold maxLen at hx
  go_enter Try.func48, Try.ntmps48
  go_wp2
  go_loopg [5] xs.length (fun g i wr => ∃ k : Nat, k ≤ xs.length ∧ g = xs.length - k ∧ i = .int .i64 k ∧ wr = w ∧ Hid (x ∉ xs.take k))
  case atStart => exact ⟨0, Nat.zero_le _, rfl, rfl, rfl, by simp [Hid]⟩
  case round =>
    obtain ⟨k, hk, rfl, rfl, rfl, hp⟩ := hrel
    by_cases hlt : k < xs.length
    · obtain ⟨b, off, rfl, hc⟩ := hxc (by omega)
      have c1 := hc k hlt
      unfold iv at c1
      clear hxc hc
      go_wp2
      · have ht : (xs[k] == x) = true := by assumption
        go_ret
        refine ⟨ret_bool ?_, Qt.refl _⟩
        symm
        simp only [decide_eq_true_eq]
        rw [beq_iff_eq] at ht
        subst ht
        exact List.getElem_mem hlt
      · have ht : (xs[k] == x) = false := by assumption
        go_roundg (xs.length - (k + 1))
        case measure => omega
        case rel =>
          refine ⟨k + 1, by omega, rfl, by go_num, rfl, ?_⟩
          unfold Hid
          rw [take_snoc xs k hlt, List.mem_append]
          rintro (e | e)
          · exact hp.out e
          · rw [beq_eq_false_iff_ne] at ht
            simp [List.getD_eq_getElem?_getD, hlt] at e
            exact ht e.symm
    · go_wp2
      go_ret
      obtain rfl : k = xs.length := by omega
      refine ⟨ret_bool ?_, Qt.refl _⟩
      symm
      simp only [decide_eq_false_iff_not]
      have := hp.out
      rwa [List.take_length] at this

set_option maxHeartbeats 1000000 in
theorem specIsPerm_any (v : Value) (xs : List Int) (w : World) (h : Ints w v xs) :
    Calls Try.prog 78 #[v] w fun e w' => e = .returned (.bool (permOk xs)) ∧ Qt w w' := by
  have hI := h
  obtain ⟨p, cap, rfl, ⟨hx1, hx⟩, hxc⟩ := h
  unfold maxLen at hx
  by_cases hl : 1 ≤ xs.length ∧ xs.length ≤ 7
  · obtain ⟨hl1, hl7⟩ := hl
    go_enter Try.func78, Try.ntmps78
    go_wp2_with (go_at_call 50; refine (l1In_yes _ _ _ _ (by omega)).mono ?_; rintro e w' ⟨rfl, rfl⟩)
    go_loopg [3] xs.length (fun g i wr => ∃ k : Nat, k ≤ xs.length ∧ g = xs.length - k ∧ i = .int .i64 k ∧ Qt w wr ∧ Hid (permUpto xs k))
    case atStart => exact ⟨0, Nat.zero_le _, rfl, rfl, Qt.refl _, permUpto_zero xs⟩
    case round =>
      obtain ⟨k, hk, rfl, rfl, hq, hp⟩ := hrel
      by_cases hlt : k < xs.length
      · obtain ⟨b, off, rfl, hc⟩ := hxc (by omega)
        have c1 := hq.cell (hc k hlt)
        unfold iv at c1
        clear hxc hc
        have hT := (hI.take k hk).qt hq
        have hwr : IntKind.i64.wrap ((xs.length : Int) - 1) = (xs.length : Int) - 1 := IntWalk.i64_in _ (by omega)
        by_cases hin : 0 ≤ xs.getD k 0 ∧ xs.getD k 0 < (xs.length : Int)
        · have hd : Hid (0 ≤ xs[k] ∧ xs[k] ≤ (xs.length : Int) - 1) := by
            simp [List.getD_eq_getElem?_getD, hlt] at hin; unfold Hid; omega
          have Hin := Lib.hid hin
          clear hin
          go_wp2_with fail
          go_quiet (first
            | (go_at_call 50; exact quiet_same (l1In_yes _ _ _ _ hd.out))
            | (go_at_call 48; exact quiet_q (l1Has_any _ _ _ _ (hT.drewN _))))
          clear hd hwr
          go_wp2_with fail
          · have ht : xs[k] ∈ List.take k xs := by assumption
            go_ret
            exact ⟨ret_bool (not_permOk_twice hlt (by rw [getD_lt hlt]; exact ht)).symm, hq.drewN _⟩
          · have ht : ¬ xs[k] ∈ List.take k xs := by assumption
            go_roundg (xs.length - (k + 1))
            case measure => omega
            case rel => exact ⟨k + 1, by omega, rfl, by go_num, hq.drewN _, permUpto_succ hlt hp.out Hin.out.1 Hin.out.2 (by rw [getD_lt hlt]; exact ht)⟩
        · have hd : Hid (¬ (0 ≤ xs[k] ∧ xs[k] ≤ (xs.length : Int) - 1)) := by
            rw [getD_lt hlt] at hin; unfold Hid; omega
          have Hin := Lib.hid hin
          clear hin
          go_wp2_with fail
          go_quiet (first
            | (go_at_call 50; exact quiet_same (l1In_no _ _ _ _ hd.out)))
          clear hd hwr
          go_wp2_with fail
          go_ret
          exact ⟨ret_bool (not_permOk_range hlt Hin.out).symm, hq.drewN _⟩
      · go_wp2_with fail
        go_ret
        obtain rfl : k = xs.length := by omega
        refine ⟨ret_bool ?_, hq⟩
        exact (permOk_of_upto hl1 hl7 hp.out).symm
  · go_enter Try.func78, Try.ntmps78
    go_wp2_with (go_at_call 50; refine (l1In_no _ _ _ _ (by omega)).mono ?_; rintro e w' ⟨rfl, rfl⟩)
    go_ret
    exact ⟨ret_bool (not_permOk_len hl).symm, Qt.refl _⟩

theorem mem_take_succ {xs : List Int} {k : Nat} (h : k < xs.length) (x : Int) : x ∈ xs.take (k + 1) ↔ x ∈ xs.take k ∨ x = xs.getD k 0 := by
  rw [take_snoc xs k h, List.mem_append, List.mem_singleton]

set_option maxHeartbeats 1000000 in
theorem implIsPerm_any (v : Value) (xs : List Int) (w : World) (h : Ints w v xs) :
    Calls Try.prog 40 #[v] w fun e w' => e = .returned (.bool (permOk xs)) ∧ Below w.heap.size w w' := by
  obtain ⟨p, cap, rfl, ⟨hx1, hx⟩, hxc⟩ := h
  unfold maxLen at hx
  by_cases hl : 1 ≤ xs.length ∧ xs.length ≤ 7
  · obtain ⟨hl1, hl7⟩ := hl
    have e1 : decide ((xs.length : Int) < 1) = false := by simp; omega
    have e2 : decide (7 < (xs.length : Int)) = false := by simp; omega
    go_enter Try.func40, Try.ntmps40
    go_wp2
    clear e1 e2
    go_loopg [17] xs.length (fun g i wr => ∃ k : Nat, k ≤ xs.length ∧ g = xs.length - k ∧ i = .int .i64 k ∧ Below w.heap.size w wr ∧ wr.rowIs w.heap.size 77 7 (fun j => .bool (decide ((j : Int) ∈ xs.take k))) ∧ Hid (permUpto xs k))
    case atStart =>
      refine ⟨0, Nat.zero_le _, rfl, rfl, (Below.refl _ _).alloc (Nat.le_refl _) _, World.rowIs_alloc w _ _ _ fun i hi => ?_, permUpto_zero xs⟩
      simp at hi
      match i, hi with
      | 0, _ | 1, _ | 2, _ | 3, _ | 4, _ | 5, _ | 6, _ => simp
    case round =>
      obtain ⟨k, hk, rfl, rfl, hb, hr, hp⟩ := hrel
      by_cases hlt : k < xs.length
      · obtain ⟨b, off, rfl, hc⟩ := hxc (by omega)
        have c1 : wr.cell? ⟨b, off + k, none⟩ = some (.int .i64 (xs.getD k 0)) := by
          rw [hb.cell (p := ⟨b, off + k, none⟩) (World.block_lt_of_cell? _ _ (hc k hlt))]; exact hc k hlt
        clear hxc hc
        by_cases hin : 0 ≤ xs.getD k 0 ∧ xs.getD k 0 < (xs.length : Int)
        · obtain ⟨m, hm⟩ := Int.eq_ofNat_of_zero_le hin.1
          have Hin := Lib.hid hin
          have hml : m < xs.length := by omega
          have Hm := Lib.hid hm
          rw [hm] at c1
          have c2 := hr.cell (i := m) (by omega)
          have c3 := hr.frozen m
          have hs := hr.lt
          clear hin hm
          by_cases hmet : (m : Int) ∈ xs.take k
          · have ht : decide ((m : Int) ∈ xs.take k) = true := decide_eq_true hmet
            rw [ht] at c2
            have Hmet := Lib.hid hmet
            clear ht hmet
            go_wp2
            go_ret
            exact ⟨ret_bool (not_permOk_twice hlt (by rw [Hm.out]; exact Hmet.out)).symm, hb⟩
          · have ht : decide ((m : Int) ∈ xs.take k) = false := decide_eq_false hmet
            rw [ht] at c2
            have Hmet := Lib.hid hmet
            clear ht hmet
            go_wp2
            go_roundg (xs.length - (k + 1))
            case measure => omega
            case rel =>
              refine ⟨k + 1, by omega, rfl, by go_num, hb.setCell (Nat.le_refl _) _, (hr.set m _).congr fun j hj => ?_, permUpto_succ hlt hp.out Hin.out.1 Hin.out.2 (by rw [Hm.out]; exact Hmet.out)⟩
              by_cases e : j = m
              · subst e
                simp only [if_true]
                congr 1
                symm
                rw [decide_eq_true_eq, mem_take_succ hlt]
                exact .inr Hm.out.symm
              · have e' : (j : Int) ≠ xs.getD k 0 := by rw [Hm.out]; omega
                simp only [e, if_false]
                congr 1
                rw [decide_eq_decide, mem_take_succ hlt]
                exact ⟨.inl, fun h => h.resolve_right e'⟩
        · have Hin := Lib.hid hin
          rw [getD_lt hlt] at hin
          by_cases hneg : xs[k] < 0
          · clear hin
            go_wp2
            all_goals
              go_ret
              exact ⟨ret_bool (not_permOk_range hlt Hin.out).symm, hb⟩
          · have hge : (xs.length : Int) ≤ xs[k] := by omega
            clear hin
            go_wp2
            all_goals
              go_ret
              exact ⟨ret_bool (not_permOk_range hlt Hin.out).symm, hb⟩
      · go_wp2
        go_ret
        obtain rfl : k = xs.length := by omega
        exact ⟨ret_bool (permOk_of_upto hl1 hl7 hp.out).symm, hb⟩
  · go_enter Try.func40, Try.ntmps40
    by_cases h1 : (xs.length : Int) < 1
    · go_wp2
      all_goals
        go_ret
        exact ⟨ret_bool (not_permOk_len hl).symm, Below.refl _ _⟩
    · have h7 : (7 : Int) < xs.length := by omega
      go_wp2
      all_goals
        go_ret
        exact ⟨ret_bool (not_permOk_len hl).symm, Below.refl _ _⟩

end Go.Proofs.Ytajilmfaconjbaa
