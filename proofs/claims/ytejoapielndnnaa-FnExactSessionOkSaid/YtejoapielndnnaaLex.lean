/-
  Lists of numbers compared; permutations trimmed: both sides.
-/
import Derived.Test.YtejoapielndnnaaPerm
import Derived.Test.YtejoapielndnnaaL7Copy
import Derived.Test.YtejoapielndnnaaLines
namespace Go.Proofs.Ytejoapielndnnaa
set_option linter.all false
open Go.RowKit

/-- at the first difference, or a proper beginning first -/
def ltB : List Int → List Int → Bool
  | [], [] => false
  | [], _ :: _ => true
  | _ :: _, [] => false
  | x :: xs, y :: ys => if x < y then true else if y < x then false else ltB xs ys
def cmpB : List Int → List Int → Int
  | [], [] => 0
  | [], _ :: _ => -1
  | _ :: _, [] => 1
  | x :: xs, y :: ys => if x < y then -1 else if y < x then 1 else cmpB xs ys
theorem cmpB_lt : ∀ xs ys, decide (0 ≤ cmpB xs ys) = !ltB xs ys
  | [], [] => rfl
  | [], _ :: _ => rfl
  | _ :: _, [] => rfl
  | x :: xs, y :: ys => by
    unfold cmpB ltB
    by_cases h1 : x < y
    · simp [h1]
    · by_cases h2 : y < x
      · simp [h1, h2]
      · simp only [h1, h2, if_false]; exact cmpB_lt xs ys
theorem cmpB_cases : ∀ xs ys, cmpB xs ys = -1 ∨ cmpB xs ys = 0 ∨ cmpB xs ys = 1
  | [], [] => by simp [cmpB]
  | [], _ :: _ => by simp [cmpB]
  | _ :: _, [] => by simp [cmpB]
  | x :: xs, y :: ys => by
    unfold cmpB
    by_cases h1 : x < y
    · simp [h1]
    · by_cases h2 : y < x
      · simp [h1, h2]
      · simp only [h1, h2, if_false]; exact cmpB_cases xs ys
theorem drop_at {xs : List Int} {k : Nat} (h : k < xs.length) : xs.drop k = xs.getD k 0 :: xs.drop (k + 1) := by
  rw [List.drop_eq_getElem_cons h, List.getD_eq_getElem?_getD, List.getElem?_eq_getElem h]; rfl
theorem drop_end {xs : List Int} {k : Nat} (h : xs.length ≤ k) : xs.drop k = [] := List.drop_eq_nil_iff.2 h

/-- how many places are left when those at the end are struck that are not moved -/
def trimN (xs : List Int) : Nat → Nat
  | 0 => 0
  | n + 1 => if 1 ≤ n ∧ xs.getD n 0 = (n : Int) then trimN xs n else n + 1
theorem trimN_le (xs : List Int) : ∀ n, trimN xs n ≤ n
  | 0 => Nat.le_refl _
  | n + 1 => by
    unfold trimN
    split
    · exact Nat.le_trans (trimN_le xs n) (Nat.le_succ _)
    · exact Nat.le_refl _
def trimL (xs : List Int) : List Int := xs.take (trimN xs xs.length)
theorem trimL_length (xs : List Int) : (trimL xs).length = trimN xs xs.length := by
  unfold trimL; rw [List.length_take]; have := trimN_le xs xs.length; omega

/-- the first numbers of a list, as a slice -/
theorem ints_take2 {w : World} {p : Option Addr} {cap : Nat} {xs : List Int} (h : Ints w (.slice p xs.length cap) xs) {i : Nat} (hi : i ≤ xs.length) : Ints w (.slice p i cap) (xs.take i) := by
  obtain ⟨q, c, e, ⟨h1, h2⟩, h3⟩ := h
  injection e with e1 e2 e3
  subst e1 e3
  have hl : (xs.take i).length = i := by rw [List.length_take]; omega
  refine ⟨p, cap, by rw [hl], ⟨by omega, h2⟩, fun h0 => ?_⟩
  obtain ⟨b, off, hp, hx⟩ := h3 (by omega)
  refine ⟨b, off, hp, fun j hj => ?_⟩
  rw [hx j (by omega)]
  unfold iv
  rw [List.getD_eq_getElem?_getD, List.getD_eq_getElem?_getD, List.getElem?_take_of_lt (by omega)]

set_option maxRecDepth 100000 in
theorem isNaN_any (n : Int) (w : World) : Calls Try.prog 104 #[.int .i64 n] w fun e w' => e = .returned (.bool false) ∧ w = w' := by
  have h : (n != n) = false := by simp
  go_enter Try.func104, Try.ntmps104
  go_wp2
  go_ret
  exact ⟨rfl, rfl⟩
set_option maxRecDepth 100000 in
theorem cmpInt_any (a b : Int) (w : World) : Calls Try.prog 97 #[.int .i64 a, .int .i64 b] w fun e w' => e = .returned (.int .i64 (if a < b then -1 else if b < a then 1 else 0)) ∧ w = w' := by
  go_enter Try.func97, Try.ntmps97
  by_cases h1 : a < b
  · go_wp2_with (go_at_call 104; refine (isNaN_any _ _).mono ?_; rintro e w' ⟨rfl, rfl⟩)
    go_ret
    exact ⟨ret_int (by simp [h1]), rfl⟩
  · by_cases h2 : b < a
    · go_wp2_with (go_at_call 104; refine (isNaN_any _ _).mono ?_; rintro e w' ⟨rfl, rfl⟩)
      go_ret
      exact ⟨ret_int (by simp [h1, h2]), rfl⟩
    · go_wp2_with (go_at_call 104; refine (isNaN_any _ _).mono ?_; rintro e w' ⟨rfl, rfl⟩)
      go_ret
      exact ⟨ret_int (by simp [h1, h2]), rfl⟩

set_option maxRecDepth 100000 in
set_option maxHeartbeats 1000000 in
theorem compare_any (u v : Value) (xs ys : List Int) (w : World) (h1 : Ints w u xs) (h2 : Ints w v ys) :
    Calls Try.prog 81 #[u, v] w fun e w' => e = .returned (.int .i64 (cmpB xs ys)) ∧ w = w' := by
  obtain ⟨p, cap, rfl, ⟨hx1, hx⟩, hxc⟩ := h1
  obtain ⟨q, cap', rfl, ⟨hy1, hy⟩, hyc⟩ := h2
  unfold maxLen at hx hy
  have Hxc := Lib.hid hxc
  have Hyc := Lib.hid hyc
  clear hxc hyc
  go_enter Try.func81, Try.ntmps81
  go_wp2
  go_loop [11] (fun s => ∃ k : Nat, k ≤ xs.length ∧ k ≤ ys.length ∧ s = .int .i64 k ∧ Hid (cmpB xs ys = cmpB (xs.drop k) (ys.drop k))) (fun s => xs.length - (intOf s).toNat)
  case atStart => exact ⟨0, Nat.zero_le _, Nat.zero_le _, rfl, rfl⟩
  case round =>
    obtain ⟨k, hk, hk2, rfl, hc⟩ := hrel
    by_cases hlt : k < xs.length
    · have hlt1 : (k : Int) < (xs.length : Int) := by omega
      have hlt0 : (0 : Int) ≤ (k : Int) := by omega
      obtain ⟨b, off, rfl, hcx⟩ := Hxc.out (by omega)
      have c1 := hcx k hlt
      unfold iv at c1
      by_cases hlt2 : k < ys.length
      · have hlt3 : ¬ (ys.length : Int) ≤ (k : Int) := by omega
        have hlt4 : (k : Int) < (ys.length : Int) := by omega
        obtain ⟨b', off', rfl, hcy⟩ := Hyc.out (by omega)
        have c2 := hcy k hlt2
        unfold iv at c2
        have Hd := Lib.hid (show cmpB xs ys = if xs.getD k 0 < ys.getD k 0 then -1 else if ys.getD k 0 < xs.getD k 0 then 1 else cmpB (xs.drop (k + 1)) (ys.drop (k + 1)) by rw [hc.out, drop_at hlt, drop_at hlt2]; rfl)
        obtain ⟨x, hx'⟩ : ∃ x, x = xs.getD k 0 := ⟨_, rfl⟩
        obtain ⟨y, hy'⟩ : ∃ y, y = ys.getD k 0 := ⟨_, rfl⟩
        rw [← hx', ← hy'] at Hd
        rw [← hx'] at c1
        rw [← hy'] at c2
        clear hx' hy' hcx hcy hc
        go_wp2_with fail
        refine (cmpInt_any _ _ _).mono ?_
        rintro e w' ⟨rfl, rfl⟩
        by_cases h1 : x < y
        · rw [if_pos h1]
          have Hf := Lib.hid (show cmpB xs ys = -1 by rw [Hd.out, if_pos h1])
          go_wp2_with fail
          go_ret
          exact ⟨ret_int Hf.out.symm, rfl⟩
        · by_cases h2 : y < x
          · rw [if_neg h1, if_pos h2]
            have Hf := Lib.hid (show cmpB xs ys = 1 by rw [Hd.out, if_neg h1, if_pos h2])
            go_wp2_with fail
            go_ret
            exact ⟨ret_int Hf.out.symm, rfl⟩
          · rw [if_neg h1, if_neg h2]
            have Hf := Lib.hid (show cmpB xs ys = cmpB (xs.drop (k + 1)) (ys.drop (k + 1)) by rw [Hd.out, if_neg h1, if_neg h2])
            clear Hd
            go_wp2_with fail
            go_round
            case rel => exact ⟨k + 1, by omega, by omega, by go_num, Hf.out⟩
            case measure => simp [intOf]; omega
      · obtain rfl : k = ys.length := by omega
        have hlt3 : (ys.length : Int) ≤ (ys.length : Int) := by omega
        have Hf := Lib.hid (show cmpB xs ys = 1 by rw [hc.out, drop_at hlt, drop_end (Nat.le_refl _)]; rfl)
        clear hc
        go_wp2_with fail
        go_ret
        exact ⟨ret_int Hf.out.symm, rfl⟩
    · obtain rfl : k = xs.length := by omega
      have hlt1 : ¬ (xs.length : Int) < (xs.length : Int) := by omega
      by_cases hl : xs.length < ys.length
      · have hl2 : (xs.length : Int) < (ys.length : Int) := by omega
        have Hf := Lib.hid (show cmpB xs ys = -1 by rw [hc.out, drop_end (Nat.le_refl _), drop_at hl]; rfl)
        clear hc
        go_wp2_with fail
        go_ret
        exact ⟨ret_int Hf.out.symm, rfl⟩
      · have hl2 : ¬ (xs.length : Int) < (ys.length : Int) := by omega
        have Hf := Lib.hid (show cmpB xs ys = 0 by rw [hc.out, drop_end (Nat.le_refl _), drop_end (by omega)]; rfl)
        have hl3 : decide (xs.length < ys.length) = false := by simp; omega
        clear hc
        go_wp2_with fail
        go_ret
        exact ⟨ret_int Hf.out.symm, rfl⟩

set_option maxRecDepth 100000 in
set_option maxHeartbeats 1000000 in
theorem l1Less_any (u v : Value) (xs ys : List Int) (w : World) (h1 : Ints w u xs) (h2 : Ints w v ys) :
    Calls Try.prog 76 #[u, v] w fun e w' => e = .returned (.bool (ltB xs ys)) ∧ Qt w w' := by
  obtain ⟨p, cap, rfl, ⟨hx1, hx⟩, hxc⟩ := h1
  obtain ⟨q, cap', rfl, ⟨hy1, hy⟩, hyc⟩ := h2
  unfold maxLen at hx hy
  have Hxc := Lib.hid hxc
  have Hyc := Lib.hid hyc
  clear hxc hyc
  go_enter Try.func76, Try.ntmps76
  go_wp2
  go_loopg [5] xs.length (fun g s wr => ∃ k : Nat, k ≤ xs.length ∧ k ≤ ys.length ∧ g = xs.length - k ∧ s = .int .i64 k ∧ Qt w wr ∧ Hid (ltB xs ys = ltB (xs.drop k) (ys.drop k)))
  case atStart => exact ⟨0, Nat.zero_le _, Nat.zero_le _, rfl, rfl, Qt.refl _, rfl⟩
  case round =>
    obtain ⟨k, hk, hk2, rfl, rfl, hq, hc⟩ := hrel
    by_cases hlt : k < xs.length
    · have hlt1 : (k : Int) < (xs.length : Int) := by omega
      have hlt0 : (0 : Int) ≤ (k : Int) := by omega
      obtain ⟨b, off, rfl, hcx⟩ := Hxc.out (by omega)
      have c1 := hq.cell (hcx k hlt)
      unfold iv at c1
      by_cases hlt2 : k < ys.length
      · have hlt4 : (k : Int) < (ys.length : Int) := by omega
        obtain ⟨b', off', rfl, hcy⟩ := Hyc.out (by omega)
        have c2 := hq.cell (hcy k hlt2)
        unfold iv at c2
        have Hd := Lib.hid (show ltB xs ys = if xs.getD k 0 < ys.getD k 0 then true else if ys.getD k 0 < xs.getD k 0 then false else ltB (xs.drop (k + 1)) (ys.drop (k + 1)) by rw [hc.out, drop_at hlt, drop_at hlt2]; rfl)
        obtain ⟨x, hx'⟩ : ∃ x, x = xs.getD k 0 := ⟨_, rfl⟩
        obtain ⟨y, hy'⟩ : ∃ y, y = ys.getD k 0 := ⟨_, rfl⟩
        rw [← hx', ← hy'] at Hd
        rw [← hx'] at c1
        rw [← hy'] at c2
        clear hx' hy' hcx hcy hc
        by_cases he : x = y
        · subst he
          have Hf := Lib.hid (show ltB xs ys = ltB (xs.drop (k + 1)) (ys.drop (k + 1)) by rw [Hd.out, if_neg (by omega), if_neg (by omega)])
          have hz : (x != x) = false := by simp
          clear Hd
          go_wp2_with fail
          go_quiet (fail)
          go_wp2_with fail
          go_roundg (xs.length - (k + 1))
          case measure => omega
          case rel => exact ⟨k + 1, by omega, by omega, rfl, by go_num, hq.drewN _, Hf.out⟩
        · have hz : (x != y) = true := by simp [he]
          by_cases h1 : x < y
          · have Hf := Lib.hid (show ltB xs ys = true by rw [Hd.out, if_pos h1])
            clear Hd
            go_wp2_with fail
            go_quiet (fail)
            go_wp2_with fail
            go_quiet (fail)
            go_wp2_with fail
            go_ret
            exact ⟨ret_bool Hf.out.symm, (hq.drewN _).drewN _⟩
          · have Hf := Lib.hid (show ltB xs ys = false by rw [Hd.out, if_neg h1, if_pos (by omega)])
            clear Hd
            go_wp2_with fail
            go_quiet (fail)
            go_wp2_with fail
            go_quiet (fail)
            go_wp2_with fail
            go_ret
            exact ⟨ret_bool (by rw [Hf.out]; exact decide_eq_false (by omega)), (hq.drewN _).drewN _⟩
      · obtain rfl : k = ys.length := by omega
        have hlt3 : ¬ (ys.length : Int) < (ys.length : Int) := by omega
        have Hf := Lib.hid (show ltB xs ys = false by rw [hc.out, drop_at hlt, drop_end (Nat.le_refl _)]; rfl)
        have hl3 : ¬ (xs.length : Int) < (ys.length : Int) := by omega
        have hl4 : decide (xs.length < ys.length) = false := by simp; omega
        clear hc
        go_wp2_with fail
        go_ret
        exact ⟨ret_bool Hf.out.symm, hq⟩
    · obtain rfl : k = xs.length := by omega
      have hlt1 : ¬ (xs.length : Int) < (xs.length : Int) := by omega
      by_cases hl : xs.length < ys.length
      · have hl2 : (xs.length : Int) < (ys.length : Int) := by omega
        have Hf := Lib.hid (show ltB xs ys = true by rw [hc.out, drop_end (Nat.le_refl _), drop_at hl]; rfl)
        have hl4 : decide (xs.length < ys.length) = true := by simp; omega
        clear hc
        go_wp2_with fail
        go_ret
        exact ⟨ret_bool Hf.out.symm, hq⟩
      · have hl2 : ¬ (xs.length : Int) < (ys.length : Int) := by omega
        have Hf := Lib.hid (show ltB xs ys = false by rw [hc.out, drop_end (Nat.le_refl _), drop_end (by omega)]; rfl)
        have hl4 : decide (xs.length < ys.length) = false := by simp; omega
        clear hc
        go_wp2_with fail
        go_ret
        exact ⟨ret_bool Hf.out.symm, hq⟩

set_option maxRecDepth 100000 in
set_option maxHeartbeats 1000000 in
theorem implTrim_yes (v : Value) (xs : List Int) (w : World) (h : Ints w v xs) (hp : permOk xs = true) :
    Calls Try.prog 80 #[v] w (RetI w (trimL xs)) := by
  have hl : xs.length ≤ 7 := (of_decide_eq_true hp).2.1
  have Hp := Lib.hid hp
  clear hp
  have Hh := Lib.hid h
  obtain ⟨p, cap, rfl, ⟨hx1, hx⟩, hxc⟩ := h
  unfold maxLen at hx
  clear hxc
  go_enter Try.func80, Try.ntmps80
  go_wp2_with fail
  refine (implIsPerm_b _ xs _ Hp.out _ Hh.out).mono ?_
  rintro e w1 ⟨rfl, hb⟩
  have Hb := Lib.hid hb
  have Hh1 := Lib.hid (Hh.out.below hb)
  clear hb
  go_wp2_with fail
  go_loop [3] (fun s => ∃ n : Nat, n ≤ xs.length ∧ s = .int .i64 n ∧ Hid (trimN xs xs.length = trimN xs n)) (fun s => (intOf s).toNat)
  case atStart => exact ⟨xs.length, Nat.le_refl _, rfl, rfl⟩
  case round =>
    obtain ⟨n, hn, rfl, ht⟩ := hrel
    have fin : trimN xs n = n → Hid (trimN xs xs.length = n) := fun h => by rw [Hid, ht.out, h]
    by_cases h1 : 1 < n
    · have h2 : (1 : Int) < (n : Int) := by omega
      have i1 : (0 : Int) ≤ (n : Int) - 1 := by omega
      have i2 : (n : Int) - 1 < (xs.length : Int) := by omega
      have i3 : ((n : Int) - 1).toNat = n - 1 := by omega
      obtain ⟨_, _, e, _, hxc⟩ := Hh1.out
      injection e with e1 e2 e3
      subst e1 e3
      obtain ⟨b, off, rfl, hc⟩ := hxc (by omega)
      have c1 := hc (n - 1) (by omega)
      unfold iv at c1
      obtain ⟨x, hx'⟩ : ∃ x, x = xs.getD (n - 1) 0 := ⟨_, rfl⟩
      rw [← hx'] at c1
      have Ht := Lib.hid (show trimN xs n = if 1 ≤ n - 1 ∧ x = ((n - 1 : Nat) : Int) then trimN xs (n - 1) else n by
        obtain ⟨m, rfl⟩ : ∃ m, n = m + 1 := ⟨n - 1, by omega⟩
        rw [hx']; rfl)
      clear hx' hxc hc
      by_cases he : x = (n : Int) - 1
      · subst he
        have Hf := Lib.hid (show trimN xs xs.length = trimN xs (n - 1) by rw [ht.out, Ht.out, if_pos ⟨by omega, by omega⟩])
        clear Ht ht fin
        go_wp2_with fail
        go_round
        case rel => exact ⟨n - 1, by omega, by congr 1; omega, Hf.out⟩
        case measure => simp [intOf]; omega
      · have hz : (x == (n : Int) - 1) = false := by simp [he]
        have Hn := fin (by rw [Ht.out, if_neg (by rintro ⟨_, h⟩; omega)])
        have j1 : (0 : Int) ≤ (n : Int) := by omega
        have j2 : (n : Int) ≤ (cap : Int) := by omega
        clear Ht ht fin
        go_wp2_with fail
        refine (clone_any _ (xs.take n) _ (ints_take2 Hh1.out hn) (by rw [List.length_take]; omega)).mono ?_
        rintro e w2 ⟨u, rfl, ho, hb2⟩
        obtain ⟨pv, kv, rfl, _, _⟩ := ho.shape
        rw [show (xs.take n).length = n by rw [List.length_take]; omega] at ho ⊢
        have Ho := Lib.hid ho
        clear ho
        go_wp2_with fail
        go_ret
        refine ⟨_, rfl, ?_, ?_⟩
        · show OwnI _ _ _ _ _ (xs.take (trimN xs xs.length))
          rw [Hn.out]
          exact Ho.out.mono Hb.out.size (Nat.le_refl _)
        · exact Hb.out.trans (hb2.mono Hb.out.size)
    · have h2 : ¬ (1 : Int) < (n : Int) := by omega
      have Hn := fin (by
        match n, h1 with
        | 0, _ => rfl
        | 1, _ => rfl
        | n + 2, h => omega)
      have j1 : (0 : Int) ≤ (n : Int) := by omega
      have j2 : (n : Int) ≤ (cap : Int) := by omega
      clear ht fin
      go_wp2_with fail
      refine (clone_any _ (xs.take n) _ (ints_take2 Hh1.out hn) (by rw [List.length_take]; omega)).mono ?_
      rintro e w2 ⟨u, rfl, ho, hb2⟩
      obtain ⟨pv, kv, rfl, _, _⟩ := ho.shape
      rw [show (xs.take n).length = n by rw [List.length_take]; omega] at ho ⊢
      have Ho := Lib.hid ho
      clear ho
      go_wp2_with fail
      go_ret
      refine ⟨_, rfl, ?_, ?_⟩
      · show OwnI _ _ _ _ _ (xs.take (trimN xs xs.length))
        rw [Hn.out]
        exact Ho.out.mono Hb.out.size (Nat.le_refl _)
      · exact Hb.out.trans (hb2.mono Hb.out.size)

set_option maxRecDepth 100000 in
set_option maxHeartbeats 1000000 in
theorem l1Trim_any (v : Value) (xs : List Int) (w : World) (h : Ints w v xs) (hl : xs.length ≤ 1000000) :
    Calls Try.prog 75 #[v] w (RetI w (trimL xs)) := by
  have Hh := Lib.hid h
  obtain ⟨p, cap, rfl, ⟨hx1, hx⟩, hxc⟩ := h
  unfold maxLen at hx
  clear hxc
  go_enter Try.func75, Try.ntmps75
  have Hh1 := Hh
  go_wp2_with fail
  go_loop [3] (fun s => ∃ n : Nat, n ≤ xs.length ∧ s = .int .i64 n ∧ Hid (trimN xs xs.length = trimN xs n)) (fun s => (intOf s).toNat)
  case atStart => exact ⟨xs.length, Nat.le_refl _, rfl, rfl⟩
  case round =>
    obtain ⟨n, hn, rfl, ht⟩ := hrel
    have fin : trimN xs n = n → Hid (trimN xs xs.length = n) := fun h => by rw [Hid, ht.out, h]
    by_cases h1 : 1 < n
    · have h2 : (1 : Int) < (n : Int) := by omega
      have i1 : (0 : Int) ≤ (n : Int) - 1 := by omega
      have i2 : (n : Int) - 1 < (xs.length : Int) := by omega
      have i3 : ((n : Int) - 1).toNat = n - 1 := by omega
      obtain ⟨_, _, e, _, hxc⟩ := Hh1.out
      injection e with e1 e2 e3
      subst e1 e3
      obtain ⟨b, off, rfl, hc⟩ := hxc (by omega)
      have c1 := hc (n - 1) (by omega)
      unfold iv at c1
      obtain ⟨x, hx'⟩ : ∃ x, x = xs.getD (n - 1) 0 := ⟨_, rfl⟩
      rw [← hx'] at c1
      have Ht := Lib.hid (show trimN xs n = if 1 ≤ n - 1 ∧ x = ((n - 1 : Nat) : Int) then trimN xs (n - 1) else n by
        obtain ⟨m, rfl⟩ : ∃ m, n = m + 1 := ⟨n - 1, by omega⟩
        rw [hx']; rfl)
      clear hx' hxc hc
      by_cases he : x = (n : Int) - 1
      · subst he
        have Hf := Lib.hid (show trimN xs xs.length = trimN xs (n - 1) by rw [ht.out, Ht.out, if_pos ⟨by omega, by omega⟩])
        clear Ht ht fin
        go_wp2_with fail
        go_round
        case rel => exact ⟨n - 1, by omega, by congr 1; omega, Hf.out⟩
        case measure => simp [intOf]; omega
      · have hz : (x == (n : Int) - 1) = false := by simp [he]
        have Hn := fin (by rw [Ht.out, if_neg (by rintro ⟨_, h⟩; omega)])
        have j1 : (0 : Int) ≤ (n : Int) := by omega
        have j2 : (n : Int) ≤ (cap : Int) := by omega
        clear Ht ht fin
        go_wp2_with fail
        refine (l1Ints_any _ (xs.take n) _ (ints_take2 Hh1.out hn) (by rw [List.length_take]; omega)).mono ?_
        rintro e w2 ⟨u, rfl, ho, hb2⟩
        obtain ⟨pv, kv, rfl, _, _⟩ := ho.shape
        rw [show (xs.take n).length = n by rw [List.length_take]; omega] at ho ⊢
        have Ho := Lib.hid ho
        clear ho
        go_wp2_with fail
        go_ret
        refine ⟨_, rfl, ?_, ?_⟩
        · show OwnI _ _ _ _ _ (xs.take (trimN xs xs.length))
          rw [Hn.out]
          exact Ho.out
        · exact hb2
    · have h2 : ¬ (1 : Int) < (n : Int) := by omega
      have Hn := fin (by
        match n, h1 with
        | 0, _ => rfl
        | 1, _ => rfl
        | n + 2, h => omega)
      have j1 : (0 : Int) ≤ (n : Int) := by omega
      have j2 : (n : Int) ≤ (cap : Int) := by omega
      clear ht fin
      go_wp2_with fail
      refine (l1Ints_any _ (xs.take n) _ (ints_take2 Hh1.out hn) (by rw [List.length_take]; omega)).mono ?_
      rintro e w2 ⟨u, rfl, ho, hb2⟩
      obtain ⟨pv, kv, rfl, _, _⟩ := ho.shape
      rw [show (xs.take n).length = n by rw [List.length_take]; omega] at ho ⊢
      have Ho := Lib.hid ho
      clear ho
      go_wp2_with fail
      go_ret
      refine ⟨_, rfl, ?_, ?_⟩
      · show OwnI _ _ _ _ _ (xs.take (trimN xs xs.length))
        rw [Hn.out]
        exact Ho.out
      · exact hb2

end Go.Proofs.Ytejoapielndnnaa
