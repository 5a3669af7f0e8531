/-
  The draws: the cursor over the bytes, a number below another one.
  What a permutation is: the reference's and the program's tests answer alike.
  Plain lists: rows put behind one another. No program, no memory.
  slices.Concat at []int, and the matrix of some rows.
-/
import Derived.Test.YtoodgbflaaabmaaJ1
import Derived.Test.YtoodgbflaaabmaaProg
namespace Go.Proofs.Ytoodgbflaaabmaa
set_option linter.all false
open Go.RowKit

theorem blk3 {w : World} {b : Nat} {x0 x1 x2 : Value} {T : TypeId} (h : w.heap[b]? = some (.cells #[x0, x1, x2] T (0, 0))) :
    w.cell? ⟨b, 0, none⟩ = some x0 ∧ w.cell? ⟨b, 1, none⟩ = some x1 ∧ w.cell? ⟨b, 2, none⟩ = some x2 ∧ (∀ j, w.frozen? ⟨b, j, none⟩ = false) ∧ b < w.heap.size :=
  ⟨cell_of_blk h rfl, cell_of_blk h rfl, cell_of_blk h rfl, free_of_blk h, (Array.getElem?_eq_some_iff.1 h).1⟩

theorem and255 (x : Int) : 0 ≤ bits .and .i64 x 255 ∧ bits .and .i64 x 255 ≤ 255 := by
  have h1 : (BitVec.ofInt 64 x).toNat &&& 255 < 2 ^ 8 := Nat.and_lt_two_pow _ (by decide)
  have e : bits .and .i64 x 255 = IntKind.i64.wrap (((BitVec.ofInt 64 x).toNat &&& 255 : Nat) : Int) := by
    simp only [bits, BitVec.toNat_and]
    rfl
  have e2 : IntKind.i64.wrap (((BitVec.ofInt 64 x).toNat &&& 255 : Nat) : Int) = (((BitVec.ofInt 64 x).toNat &&& 255 : Nat) : Int) := k64 (by omega) (by omega)
  rw [e, e2]
  omega

/-- bytes that can be read -/
def Byts (w : World) (v : Value) (n : Nat) : Prop := ∃ f : Nat → Int, Rd w v n fun j => .int .u8 (f j)
theorem Byts.below {w w' : World} {v : Value} {n : Nat} (h : Byts w v n) (hb : Below w.heap.size w w') : Byts w' v n := by
  obtain ⟨f, h⟩ := h
  exact ⟨f, h.below hb⟩

theorem Byts.frm {w w' : World} {p : Option Addr} {n cap k : Nat} (h : Byts w (.slice p n cap) n) (hf : Frm k (k + 1) w w') (hne : 0 < n → ∀ a, p = some a → a.block < k) : Byts w' (.slice p n cap) n := by
  obtain ⟨f, p', cap', e, hm, hx⟩ := h
  injection e with e1 _ e3
  subst e1 e3
  refine ⟨f, p, cap, rfl, hm, fun h0 => ?_⟩
  obtain ⟨b, off, hp, hc⟩ := hx h0
  refine ⟨b, off, hp, fun j hj => ?_⟩
  have hb := World.block_lt_of_cell? w _ (hc j hj)
  have h1 := hne h0 _ hp
  rw [World.cell?_of_block (w := w) (hf.block b hb (by dsimp only at h1; omega))]
  exact hc j hj

/-- the cursor in block k -/
def Cur (w : World) (k : Nat) : Prop :=
  ∃ (p : Option Addr) (n cap i : Nat) (h : Int), w.heap[k]? = some (.cells #[.slice p n cap, .int .i64 (i : Int), .int .i64 h] 78 (0, 0)) ∧ i ≤ n ∧ Byts w (.slice p n cap) n ∧ (0 < n → ∀ a, p = some a → a.block < k)
theorem Cur.lt {w : World} {k : Nat} (h : Cur w k) : k < w.heap.size := by
  obtain ⟨_, _, _, _, _, h, _⟩ := h
  exact blk_lt h
theorem Cur.keepB {w w' : World} {k B : Nat} (h : Cur w k) (hb : Below B w w') (hB : k < B) : Cur w' k := by
  have hk := h.lt
  obtain ⟨p, n, cap, i, x, h1, h2, ⟨f, p', cap', e, hm, h3⟩, h4⟩ := h
  injection e with e1 _ e3
  subst e1 e3
  refine ⟨p, n, cap, i, x, by rw [hb.block k hB]; exact h1, h2, ⟨f, p, cap, rfl, hm, fun h0 => ?_⟩, h4⟩
  obtain ⟨b, off, hp, hc⟩ := h3 h0
  have hlt := h4 h0 _ hp
  dsimp only at hlt
  exact ⟨b, off, hp, fun j hj => by rw [World.cell?_of_block (w := w) (hb.block b (by omega))]; exact hc j hj⟩
theorem Frm.thenB {lo hi B : Nat} {a b c : World} (h : Frm lo hi a b) (hb : Below B b c) (hB : a.heap.size ≤ B) : Frm lo hi a c :=
  ⟨hb.os.trans h.os, hb.tape.trans h.tape, hb.output.trans h.output, Nat.le_trans h.size hb.size, fun k hk ho => (hb.block k (by omega)).trans (h.block k hk ho)⟩
theorem OwnI.setOther {T : TypeId} {w : World} {lo hi : Nat} {v : Value} {xs : List Int} (h : OwnI T w lo hi v xs) {a : Addr} (hne : v.ownBlock ≠ some a.block) (u : Value) : OwnI T (w.setCell a u) lo hi v xs :=
  ⟨ownsRow_of_block h.1 fun b hb => Below.heap_setCell _ _ _ _ fun e => hne (by rw [hb, e]), h.2⟩
theorem Cur.below {w w' : World} {k : Nat} (h : Cur w k) (hb : Below w.heap.size w w') : Cur w' k := by
  obtain ⟨p, n, cap, i, x, h1, h2, h3, h4⟩ := h
  exact ⟨p, n, cap, i, x, blk_later h1 hb, h2, h3.below hb, h4⟩

set_option maxRecDepth 100000 in
set_option maxHeartbeats 2000000 in
theorem l1Byte_any (k : Nat) (w : World) (h : Cur w k) :
    Calls Try.prog 65 #[.pointer (some ⟨k, 0, none⟩)] w fun e w' => ∃ x : Int, e = .returned (.int .i64 x) ∧ 0 ≤ x ∧ x ≤ 255 ∧ Cur w' k ∧ Frm k (k + 1) w w' := by
  obtain ⟨p, n, cap, i, x, h1, h2, ⟨f, h3⟩, h4⟩ := h
  obtain ⟨c0, c1, c2, cf, cz⟩ := blk3 h1
  obtain ⟨_, _, e, ⟨hx1, hx2⟩, hxc⟩ := h3
  injection e with e1 e2 e3
  subst e1 e3
  unfold maxLen at hx2
  have Hxc := Lib.hid hxc
  clear hxc e2
  go_enter Try.func65, Try.ntmps65
  go_wp2_with fail
  go_quiet (fail)
  obtain ⟨X, hX⟩ : ∃ X, X = wrap64 (wrap64 (x * 6364136223846793005) + 1442695040888963407) := ⟨_, rfl⟩
  rw [← hX]
  obtain ⟨Y, hY⟩ : ∃ Y, Y = bits BinOp.and IntKind.i64 (bits BinOp.xor IntKind.i64 (X / 8589934592) (X / 35184372088832)) 255 := ⟨_, rfl⟩
  rw [← hY]
  have hY2 := and255 (bits BinOp.xor IntKind.i64 (X / 8589934592) (X / 35184372088832))
  rw [← hY] at hY2
  clear hX hY
  have hf2 : Frm k (k + 1) w ((w.setCell ⟨k, 2, none⟩ (.int .i64 X)).drewN nq) := ((Frm.refl k (k + 1) w).setCell (Nat.le_refl _) (Nat.lt_succ_self _) _).drewN nq
  have hh2 : ((w.setCell ⟨k, 2, none⟩ (.int .i64 X)).drewN nq).heap[k]? = some (.cells #[.slice p n cap, .int .i64 (i : Int), .int .i64 X] 78 (0, 0)) := heap_setCell_at h1 2 _
  have hB2 : Byts ((w.setCell ⟨k, 2, none⟩ (.int .i64 X)).drewN nq) (.slice p n cap) n := Byts.frm ⟨f, _, _, rfl, ⟨hx1, by unfold maxLen; omega⟩, Hxc.out⟩ hf2 h4
  generalize (w.setCell ⟨k, 2, none⟩ (.int .i64 X)).drewN nq = w2 at *
  clear c0 c1 c2 cf cz Hxc f
  obtain ⟨c0, c1, c2, cf, cz⟩ := blk3 hh2
  have HB2 := Lib.hid hB2
  have Hf2 := Lib.hid hf2
  obtain ⟨f, p', cap', e, _, hxc⟩ := hB2
  injection e with e1 _ e3
  subst e1 e3
  clear hf2
  by_cases hlt : i < n
  · obtain ⟨b, off, rfl, hc⟩ := hxc (by omega)
    have cb := hc i hlt
    have hlt2 : (i : Int) < (n : Int) := by omega
    clear hxc hc
    go_wp2_with fail
    go_quiet (fail)
    go_wp2_with fail
    go_quiet (fail)
    obtain ⟨Z, hZ⟩ : ∃ Z, Z = bits BinOp.and IntKind.i64 (wrap64 (Y + wrap64 (f i))) 255 := ⟨_, rfl⟩
    rw [← hZ]
    have hZ2 := and255 (wrap64 (Y + wrap64 (f i)))
    rw [← hZ] at hZ2
    clear hZ
    have hcast : (i : Int) + 1 = ((i + 1 : Nat) : Int) := by omega
    have Hcast := Lib.hid hcast
    clear hcast
    go_wp2_with fail
    go_ret
    rw [Hcast.out]
    refine ⟨Z, rfl, hZ2.1, hZ2.2, ⟨_, n, cap, i + 1, X, by exact heap_setCell_at hh2 1 _, by omega, ?_, h4⟩, ?_⟩
    · exact HB2.out.frm (k := k) (Frm.setCell ((Frm.refl k (k + 1) w2).drewN _) (Nat.le_refl k) (Nat.lt_succ_self k) _) h4
    · exact Frm.setCell (Hf2.out.drewN _) (Nat.le_refl k) (Nat.lt_succ_self k) _
  · have hlt2 : ¬ (i : Int) < (n : Int) := by omega
    clear hxc
    go_wp2_with fail
    go_quiet (fail)
    go_wp2_with fail
    go_ret
    exact ⟨Y, rfl, hY2.1, hY2.2, ⟨p, n, cap, i, X, hh2, h2, HB2.out.frm (k := k) ((Frm.refl k (k + 1) w2).drewN _) h4, h4⟩, Hf2.out.drewN _⟩

set_option maxRecDepth 100000 in
set_option maxHeartbeats 2000000 in
/-- a number from 0 to m - 1, where m is not great -/
theorem l1Below_any (k m : Nat) (w : World) (h : Cur w k) (h0 : 1 ≤ m) (hm : m ≤ 256) :
    Calls Try.prog 32 #[.pointer (some ⟨k, 0, none⟩), .int .i64 (m : Int)] w fun e w' => ∃ x : Nat, e = .returned (.int .i64 (x : Int)) ∧ x < m ∧ Cur w' k ∧ Frm k (k + 1) w w' := by
  have Hc := Lib.hid h
  clear h
  go_enter Try.func32, Try.ntmps32
  go_wp2_with fail
  refine (l1Byte_any k _ Hc.out).mono ?_
  rintro e w1 ⟨x, rfl, hx0, hx1, hc1, hf1⟩
  obtain ⟨X, rfl⟩ := Int.eq_ofNat_of_zero_le hx0
  have Hc1 := Lib.hid hc1
  have Hf1 := Lib.hid hf1
  clear hc1 hf1
  go_wp2_with fail
  go_ret
  exact ⟨X % m, ret_int (Int.natCast_emod X m).symm, Nat.mod_lt _ (by omega), Hc1.out, Hf1.out⟩

set_option maxRecDepth 100000 in
set_option maxHeartbeats 2000000 in
theorem l1Once_any (k m : Nat) (w : World) (h : Cur w k) (h0 : 1 ≤ m) (hm : m ≤ 256) :
    Calls Try.prog 46 #[.pointer (some ⟨k, 0, none⟩), .int .i64 (m : Int)] w fun e w' => ∃ b : Bool, e = .returned (.bool b) ∧ Cur w' k ∧ Frm k (k + 1) w w' := by
  have Hc := Lib.hid h
  clear h
  go_enter Try.func46, Try.ntmps46
  go_wp2_with fail
  refine (l1Below_any k m _ Hc.out h0 hm).mono ?_
  rintro e w1 ⟨x, rfl, hx, hc1, hf1⟩
  go_wp2_with fail
  go_ret
  exact ⟨_, rfl, hc1, hf1⟩

set_option maxRecDepth 100000 in
set_option maxHeartbeats 2000000 in
/-- one of some numbers -/
theorem l1PickInt_any (k : Nat) (v : Value) (xs : List Int) (w : World) (h : Cur w k) (hv : Ints w v xs) (hne : ∀ p n c, v = .slice p n c → ∀ a, p = some a → a.block ≠ k) (h0 : 1 ≤ xs.length) (hm : xs.length ≤ 256) :
    Calls Try.prog 82 #[.pointer (some ⟨k, 0, none⟩), v] w fun e w' => ∃ x ∈ xs, e = .returned (.int .i64 x) ∧ Cur w' k ∧ Frm k (k + 1) w w' := by
  have Hc := Lib.hid h
  clear h
  obtain ⟨p, cap, rfl, ⟨hx1, hx2⟩, hxc⟩ := hv
  obtain ⟨b, off, rfl, hc⟩ := hxc h0
  have hk : b ≠ k := hne _ _ _ rfl _ rfl
  unfold maxLen at hx2
  clear hne hxc
  go_enter Try.func82, Try.ntmps82
  go_wp2_with fail
  refine (l1Below_any k xs.length _ Hc.out h0 hm).mono ?_
  rintro e w1 ⟨x, rfl, hx, hc1, hf1⟩
  have c1 : w1.cell? ⟨b, off + x, none⟩ = some (.int .i64 xs[x]) := by
    rw [World.cell?_of_block (w := w) (hf1.block b (World.block_lt_of_cell? w _ (hc x hx)) (by omega)), hc x hx]
    simp [iv, List.getD_eq_getElem?_getD, hx]
  have Hc1 := Lib.hid hc1
  have Hf1 := Lib.hid hf1
  have Hm := Lib.hid (show xs[x] ∈ xs from List.getElem_mem hx)
  obtain ⟨X, hX⟩ : ∃ X, X = xs[x] := ⟨_, rfl⟩
  rw [← hX] at c1 Hm
  clear hX hc hc1 hf1
  go_wp2_with fail
  go_ret
  exact ⟨X, Hm.out, rfl, Hc1.out, Hf1.out⟩

end Go.Proofs.Ytoodgbflaaabmaa

namespace Go.Proofs.Ytoodgbflaaabmaa
set_option linter.all false
open Go.RowKit

/-- a permutation: from 1 to 7 numbers, each from 0 on and below their count, none twice -/
def permOk (w : List Int) : Bool := decide (1 ≤ w.length ∧ w.length ≤ 7 ∧ (∀ x ∈ w, 0 ≤ x ∧ x < (w.length : Int)) ∧ w.Nodup)
/-- the numbers of the first k places are in range and none is there twice -/
def permUpto (w : List Int) (k : Nat) : Prop := (∀ x ∈ w.take k, 0 ≤ x ∧ x < (w.length : Int)) ∧ (w.take k).Nodup

theorem take_snoc (xs : List Int) (k : Nat) (h : k < xs.length) : xs.take (k + 1) = xs.take k ++ [xs.getD k 0] := by
  rw [List.take_succ_eq_append_getElem h]; simp [List.getD_eq_getElem?_getD, h]
theorem permUpto_zero (w : List Int) : permUpto w 0 := by simp [permUpto]
theorem permUpto_succ {w : List Int} {k : Nat} (hk : k < w.length) (h : permUpto w k) (h0 : 0 ≤ w.getD k 0) (h1 : w.getD k 0 < (w.length : Int)) (h2 : w.getD k 0 ∉ w.take k) : permUpto w (k + 1) := by
  unfold permUpto
  rw [take_snoc w k hk]
  refine ⟨fun x hx => ?_, ?_⟩
  · rcases List.mem_append.1 hx with hx | hx
    · exact h.1 x hx
    · obtain rfl := List.mem_singleton.1 hx
      exact ⟨h0, h1⟩
  · rw [List.nodup_append]
    refine ⟨h.2, by simp, fun a ha b hb => ?_⟩
    obtain rfl := List.mem_singleton.1 hb
    exact fun e => h2 (e ▸ ha)
theorem permOk_of_upto {w : List Int} (h1 : 1 ≤ w.length) (h7 : w.length ≤ 7) (h : permUpto w w.length) : permOk w = true := by
  unfold permUpto at h
  rw [List.take_length] at h
  simp only [permOk, decide_eq_true_eq]
  exact ⟨h1, h7, h.1, h.2⟩
theorem getD_mem {w : List Int} {k : Nat} (hk : k < w.length) : w.getD k 0 ∈ w := by
  simp [List.getD_eq_getElem?_getD, hk]
theorem not_permOk_len {w : List Int} (h : ¬ (1 ≤ w.length ∧ w.length ≤ 7)) : permOk w = false := by
  simp only [permOk, decide_eq_false_iff_not]
  exact fun e => h ⟨e.1, e.2.1⟩
theorem not_permOk_range {w : List Int} {k : Nat} (hk : k < w.length) (h : ¬ (0 ≤ w.getD k 0 ∧ w.getD k 0 < (w.length : Int))) : permOk w = false := by
  simp only [permOk, decide_eq_false_iff_not]
  exact fun e => h (e.2.2.1 _ (getD_mem hk))
theorem not_permOk_twice {w : List Int} {k : Nat} (hk : k < w.length) (h : w.getD k 0 ∈ w.take k) : permOk w = false := by
  simp only [permOk, decide_eq_false_iff_not]
  intro e
  have hn := e.2.2.2
  rw [← List.take_append_drop k w, List.nodup_append] at hn
  refine hn.2.2 _ h _ ?_ rfl
  rw [List.mem_iff_getElem?]
  exact ⟨0, by simp [List.getD_eq_getElem?_getD, hk]⟩

set_option maxHeartbeats 400000 in
theorem l1In_any (a b c : Int) (w : World) :
    Calls Try.prog 76 #[.int .i64 a, .int .i64 b, .int .i64 c] w fun e w' => e = .returned (.bool (decide (b ≤ a ∧ a ≤ c))) ∧ w = w' := by
  go_enter Try.func76, Try.ntmps76
  go_wp2
  all_goals go_ret
  · refine ⟨ret_bool ?_, rfl⟩; simp; omega
  · refine ⟨ret_bool ?_, rfl⟩; simp; omega

theorem l1In_yes (a b c : Int) (w : World) (h : b ≤ a ∧ a ≤ c) :
    Calls Try.prog 76 #[.int .i64 a, .int .i64 b, .int .i64 c] w fun e w' => e = .returned (.bool true) ∧ w = w' := by
  have := l1In_any a b c w
  rwa [decide_eq_true h] at this
theorem l1In_no (a b c : Int) (w : World) (h : ¬ (b ≤ a ∧ a ≤ c)) :
    Calls Try.prog 76 #[.int .i64 a, .int .i64 b, .int .i64 c] w fun e w' => e = .returned (.bool false) ∧ w = w' := by
  have := l1In_any a b c w
  rwa [decide_eq_false h] at this

theorem Rd.take {w : World} {p : Option Addr} {n cap : Nat} {f : Nat → Value} (h : Rd w (.slice p n cap) n f) (k : Nat) (hk : k ≤ n) : Rd w (.slice p k cap) k f := by
  obtain ⟨p', cap', e, hm, h⟩ := h
  injection e with e1 e2 e3
  subst e1 e3
  exact ⟨p, cap, rfl, by omega, fun h0 => by obtain ⟨b, off, hp, hc⟩ := h (by omega); exact ⟨b, off, hp, fun j hj => hc j (by omega)⟩⟩
theorem Ints.take {w : World} {p : Option Addr} {cap : Nat} {xs : List Int} (h : Ints w (.slice p xs.length cap) xs) (k : Nat) (hk : k ≤ xs.length) : Ints w (.slice p k cap) (xs.take k) := by
  have hl : (xs.take k).length = k := by rw [List.length_take]; omega
  unfold Ints
  rw [hl]
  exact (Rd.take h k hk).congr fun j hj => by simp [iv, List.getD_eq_getElem?_getD, List.getElem?_take, hj]

set_option maxHeartbeats 400000 in
theorem l1Has_any (v : Value) (xs : List Int) (x : Int) (w : World) (h : Ints w v xs) :
    Calls Try.prog 87 #[v, .int .i64 x] w fun e w' => e = .returned (.bool (decide (x ∈ xs))) ∧ Qt w w' := by
  obtain ⟨p, cap, rfl, ⟨hx1, hx⟩, hxc⟩ := h
  unfold maxLen at hx
  go_enter Try.func87, Try.ntmps87
  go_wp2
  go_loopg [5] xs.length (fun g i wr => ∃ k : Nat, k ≤ xs.length ∧ g = xs.length - k ∧ i = .int .i64 k ∧ wr = w ∧ Hid (x ∉ xs.take k))
  case atStart => exact ⟨0, Nat.zero_le _, rfl, rfl, rfl, by simp [Hid]⟩
  case round =>
    obtain ⟨k, hk, rfl, rfl, rfl, hp⟩ := hrel
    by_cases hlt : k < xs.length
    · obtain ⟨b, off, rfl, hc⟩ := hxc (by omega)
      have c1 := hc k hlt
      unfold iv at c1
      clear hxc hc
      go_wp2
      · have ht : (xs[k] == x) = true := by assumption
        go_ret
        refine ⟨ret_bool ?_, Qt.refl _⟩
        symm
        simp only [decide_eq_true_eq]
        rw [beq_iff_eq] at ht
        subst ht
        exact List.getElem_mem hlt
      · have ht : (xs[k] == x) = false := by assumption
        go_roundg (xs.length - (k + 1))
        case measure => omega
        case rel =>
          refine ⟨k + 1, by omega, rfl, by go_num, rfl, ?_⟩
          unfold Hid
          rw [take_snoc xs k hlt, List.mem_append]
          rintro (e | e)
          · exact hp.out e
          · rw [beq_eq_false_iff_ne] at ht
            simp [List.getD_eq_getElem?_getD, hlt] at e
            exact ht e.symm
    · go_wp2
      go_ret
      obtain rfl : k = xs.length := by omega
      refine ⟨ret_bool ?_, Qt.refl _⟩
      symm
      simp only [decide_eq_false_iff_not]
      have := hp.out
      rwa [List.take_length] at this

theorem mem_take_succ {xs : List Int} {k : Nat} (h : k < xs.length) (x : Int) : x ∈ xs.take (k + 1) ↔ x ∈ xs.take k ∨ x = xs.getD k 0 := by
  rw [take_snoc xs k h, List.mem_append, List.mem_singleton]

set_option maxHeartbeats 1000000 in
theorem implIsPerm_any (v : Value) (xs : List Int) (w : World) (h : Ints w v xs) :
    Calls Try.prog 35 #[v] w fun e w' => e = .returned (.bool (permOk xs)) ∧ Below w.heap.size w w' := by
  obtain ⟨p, cap, rfl, ⟨hx1, hx⟩, hxc⟩ := h
  unfold maxLen at hx
  by_cases hl : 1 ≤ xs.length ∧ xs.length ≤ 7
  · obtain ⟨hl1, hl7⟩ := hl
    have e1 : decide ((xs.length : Int) < 1) = false := by simp; omega
    have e2 : decide (7 < (xs.length : Int)) = false := by simp; omega
    go_enter Try.func35, Try.ntmps35
    go_wp2
    clear e1 e2
    go_loopg [17] xs.length (fun g i wr => ∃ k : Nat, k ≤ xs.length ∧ g = xs.length - k ∧ i = .int .i64 k ∧ Below w.heap.size w wr ∧ wr.rowIs w.heap.size 79 7 (fun j => .bool (decide ((j : Int) ∈ xs.take k))) ∧ Hid (permUpto xs k))
    case atStart =>
      refine ⟨0, Nat.zero_le _, rfl, rfl, (Below.refl _ _).alloc (Nat.le_refl _) _, World.rowIs_alloc w _ _ _ fun i hi => ?_, permUpto_zero xs⟩
      simp at hi
      match i, hi with
      | 0, _ | 1, _ | 2, _ | 3, _ | 4, _ | 5, _ | 6, _ => simp
    case round =>
      obtain ⟨k, hk, rfl, rfl, hb, hr, hp⟩ := hrel
      by_cases hlt : k < xs.length
      · obtain ⟨b, off, rfl, hc⟩ := hxc (by omega)
        have c1 : wr.cell? ⟨b, off + k, none⟩ = some (.int .i64 (xs.getD k 0)) := by
          rw [hb.cell (p := ⟨b, off + k, none⟩) (World.block_lt_of_cell? _ _ (hc k hlt))]; exact hc k hlt
        clear hxc hc
        by_cases hin : 0 ≤ xs.getD k 0 ∧ xs.getD k 0 < (xs.length : Int)
        · obtain ⟨m, hm⟩ := Int.eq_ofNat_of_zero_le hin.1
          have Hin := Lib.hid hin
          have hml : m < xs.length := by omega
          have Hm := Lib.hid hm
          rw [hm] at c1
          have c2 := hr.cell (i := m) (by omega)
          have c3 := hr.frozen m
          have hs := hr.lt
          clear hin hm
          by_cases hmet : (m : Int) ∈ xs.take k
          · have ht : decide ((m : Int) ∈ xs.take k) = true := decide_eq_true hmet
            rw [ht] at c2
            have Hmet := Lib.hid hmet
            clear ht hmet
            go_wp2
            go_ret
            exact ⟨ret_bool (not_permOk_twice hlt (by rw [Hm.out]; exact Hmet.out)).symm, hb⟩
          · have ht : decide ((m : Int) ∈ xs.take k) = false := decide_eq_false hmet
            rw [ht] at c2
            have Hmet := Lib.hid hmet
            clear ht hmet
            go_wp2
            go_roundg (xs.length - (k + 1))
            case measure => omega
            case rel =>
              refine ⟨k + 1, by omega, rfl, by go_num, hb.setCell (Nat.le_refl _) _, (hr.set m _).congr fun j hj => ?_, permUpto_succ hlt hp.out Hin.out.1 Hin.out.2 (by rw [Hm.out]; exact Hmet.out)⟩
              by_cases e : j = m
              · subst e
                simp only [if_true]
                congr 1
                symm
                rw [decide_eq_true_eq, mem_take_succ hlt]
                exact .inr Hm.out.symm
              · have e' : (j : Int) ≠ xs.getD k 0 := by rw [Hm.out]; omega
                simp only [e, if_false]
                congr 1
                rw [decide_eq_decide, mem_take_succ hlt]
                exact ⟨.inl, fun h => h.resolve_right e'⟩
        · have Hin := Lib.hid hin
          rw [getD_lt hlt] at hin
          by_cases hneg : xs[k] < 0
          · clear hin
            go_wp2
            all_goals
              go_ret
              exact ⟨ret_bool (not_permOk_range hlt Hin.out).symm, hb⟩
          · have hge : (xs.length : Int) ≤ xs[k] := by omega
            clear hin
            go_wp2
            all_goals
              go_ret
              exact ⟨ret_bool (not_permOk_range hlt Hin.out).symm, hb⟩
      · go_wp2
        go_ret
        obtain rfl : k = xs.length := by omega
        exact ⟨ret_bool (permOk_of_upto hl1 hl7 hp.out).symm, hb⟩
  · go_enter Try.func35, Try.ntmps35
    by_cases h1 : (xs.length : Int) < 1
    · go_wp2
      all_goals
        go_ret
        exact ⟨ret_bool (not_permOk_len hl).symm, Below.refl _ _⟩
    · have h7 : (7 : Int) < xs.length := by omega
      go_wp2
      all_goals
        go_ret
        exact ⟨ret_bool (not_permOk_len hl).symm, Below.refl _ _⟩

end Go.Proofs.Ytoodgbflaaabmaa

namespace Go.Proofs.Ytoodgbflaaabmaa
set_option linter.all false

theorem flat_length {α : Type} {n : Nat} : ∀ {rows : List (List α)}, (∀ r ∈ rows, r.length = n) → rows.flatten.length = rows.length * n
  | [], _ => by simp
  | r :: rs, h => by
    have h1 := h r (by simp)
    have h2 := flat_length (rows := rs) (fun x hx => h x (by simp [hx]))
    simp only [List.flatten_cons, List.length_append, List.length_cons, h1, h2, Nat.add_mul]
    omega

theorem flat_getElem? {α : Type} {n : Nat} (hn : 0 < n) : ∀ {rows : List (List α)}, (∀ r ∈ rows, r.length = n) → ∀ t, rows.flatten[t]? = (rows[t / n]?).bind fun r => r[t % n]?
  | [], _, t => by simp
  | r :: rs, h, t => by
    have h1 := h r (by simp)
    have ih := flat_getElem? hn (rows := rs) (fun x hx => h x (by simp [hx]))
    simp only [List.flatten_cons]
    by_cases ht : t < n
    · rw [List.getElem?_append_left (by omega), Nat.div_eq_of_lt ht, Nat.mod_eq_of_lt ht]
      simp
    · rw [List.getElem?_append_right (by omega), ih, h1]
      have e1 : t / n = (t - n) / n + 1 := by
        rw [Nat.div_eq, if_pos (by omega)]
      have e2 : t % n = (t - n) % n := Nat.mod_eq_sub_mod (by omega)
      rw [e1, e2]
      simp

theorem flat_getD {n : Nat} (hn : 0 < n) {rows : List (List Int)} (h : ∀ r ∈ rows, r.length = n) (t : Nat) : rows.flatten.getD t 0 = (rows.getD (t / n) []).getD (t % n) 0 := by
  simp only [List.getD_eq_getElem?_getD, flat_getElem? hn h t]
  cases rows[t / n]? <;> simp

/-- row i of a matrix that is given row by row -/
def rowAt (C : Nat) (D : List Int) (i : Nat) : List Int := (D.drop (i * C)).take C
def rowsOf (R C : Nat) (D : List Int) : List (List Int) := (List.range R).map (rowAt C D)

theorem rowAt_length {C : Nat} {D : List Int} {i : Nat} (h : (i + 1) * C ≤ D.length) : (rowAt C D i).length = C := by
  simp only [rowAt, List.length_take, List.length_drop]
  rw [Nat.add_mul] at h
  omega
theorem rowAt_getD {C : Nat} {D : List Int} {i j : Nat} (hj : j < C) : (rowAt C D i).getD j 0 = D.getD (i * C + j) 0 := by
  simp only [rowAt, List.getD_eq_getElem?_getD, List.getElem?_take, if_pos hj, List.getElem?_drop]
theorem rowsOf_length (R C : Nat) (D : List Int) : (rowsOf R C D).length = R := by simp [rowsOf]
theorem rowsOf_getD {R C : Nat} {D : List Int} {i : Nat} (hi : i < R) : (rowsOf R C D).getD i [] = rowAt C D i := by
  simp [rowsOf, List.getD_eq_getElem?_getD, hi]
theorem mul_le_of {i R C : Nat} (h : i < R) : (i + 1) * C ≤ R * C := Nat.mul_le_mul_right _ h
theorem rowsOf_each {R C : Nat} {D : List Int} (h : D.length = R * C) : ∀ r ∈ rowsOf R C D, r.length = C := by
  intro r hr
  simp only [rowsOf, List.mem_map, List.mem_range] at hr
  obtain ⟨i, hi, rfl⟩ := hr
  exact rowAt_length (by rw [h]; exact mul_le_of hi)
theorem rowsOf_flat {R C : Nat} {D : List Int} (h : D.length = R * C) : (rowsOf R C D).flatten = D := by
  rcases Nat.eq_zero_or_pos C with rfl | hC
  · have h0 : D = [] := List.eq_nil_of_length_eq_zero (by omega)
    subst h0
    apply List.eq_nil_of_length_eq_zero
    rw [flat_length (n := 0) (rowsOf_each h)]; omega
  · have hl := flat_length (rowsOf_each h)
    rw [rowsOf_length] at hl
    apply List.ext_getElem?
    intro t
    rw [flat_getElem? hC (rowsOf_each h)]
    by_cases ht : t < R * C
    · have hd : t / C < R := Nat.div_lt_of_lt_mul (by rwa [Nat.mul_comm])
      have hm : t % C < C := Nat.mod_lt _ hC
      rw [show (rowsOf R C D)[t / C]? = some (rowAt C D (t / C)) by simp [rowsOf, hd]]
      simp only [Option.bind_some, rowAt, List.getElem?_take, if_pos hm, List.getElem?_drop]
      congr 1
      rw [Nat.mul_comm]
      exact Nat.div_add_mod t C
    · have hd : ¬ t / C < R := fun hd => ht (by
        have := Nat.div_add_mod t C
        have hm : t % C < C := Nat.mod_lt _ hC
        have h2 := Nat.mul_le_mul_right C hd
        rw [Nat.succ_mul] at h2
        have h3 : C * (t / C) = t / C * C := Nat.mul_comm _ _
        omega)
      rw [show (rowsOf R C D)[t / C]? = none by simp [rowsOf]; omega]
      simp
      omega
theorem rowsOf_of_flat {C : Nat} {rows : List (List Int)} (h : ∀ r ∈ rows, r.length = C) : rowsOf rows.length C rows.flatten = rows := by
  apply List.ext_getElem (by rw [rowsOf_length])
  intro i h1 h2
  rw [rowsOf_length] at h1
  have hr : (rowsOf rows.length C rows.flatten)[i] = rowAt C rows.flatten i := by simp [rowsOf]
  rw [hr]
  have hl : rows[i].length = C := h _ (List.getElem_mem h2)
  have hfl := flat_length h
  apply List.ext_getElem (by rw [rowAt_length (by rw [hfl]; exact mul_le_of h1), hl])
  intro j h3 h4
  rw [hl] at h4
  have hC : 0 < C := by omega
  have e1 : (rowAt C rows.flatten i)[j]? = rows[i][j]? := by
    simp only [rowAt, List.getElem?_take, if_pos h4, List.getElem?_drop]
    rw [flat_getElem? hC h, show (i * C + j) / C = i by rw [Nat.mul_comm, Nat.mul_add_div hC, Nat.div_eq_of_lt h4]; rfl,
      show (i * C + j) % C = j by rw [Nat.mul_comm, Nat.mul_add_mod, Nat.mod_eq_of_lt h4], List.getElem?_eq_getElem h2]
    rfl
  rw [List.getElem?_eq_getElem h3, List.getElem?_eq_getElem (by omega)] at e1
  exact Option.some.inj e1

/-- row i of a matrix with 1 where a permutation says -/
def unitRow (n : Nat) (x : Int) : List Int := (List.range n).map fun (j : Nat) => if (j : Int) = x then 1 else 0
def permRows (w : List Int) : List (List Int) := w.map (unitRow w.length)

theorem unitRow_length (n : Nat) (x : Int) : (unitRow n x).length = n := by simp [unitRow]
theorem unitRow_getD {n : Nat} {x : Int} {j : Nat} (h : j < n) : (unitRow n x).getD j 0 = if (j : Int) = x then 1 else 0 := by
  simp [unitRow, List.getD_eq_getElem?_getD, h]
theorem permRows_each (w : List Int) : ∀ r ∈ permRows w, r.length = w.length := by
  intro r hr
  simp only [permRows, List.mem_map] at hr
  obtain ⟨x, _, rfl⟩ := hr
  exact unitRow_length _ _
theorem permRows_length (w : List Int) : (permRows w).length = w.length := by simp [permRows]
theorem permRows_flat_length (w : List Int) : (permRows w).flatten.length = w.length * w.length := by
  rw [flat_length (permRows_each w), permRows_length]
theorem permRows_flat_getD {w : List Int} {t : Nat} (h : t < w.length * w.length) : (permRows w).flatten.getD t 0 = if ((t % w.length : Nat) : Int) = w.getD (t / w.length) 0 then 1 else 0 := by
  have hn : 0 < w.length := by
    rcases Nat.eq_zero_or_pos w.length with h0 | h0
    · rw [h0] at h; omega
    · exact h0
  have hd : t / w.length < w.length := Nat.div_lt_of_lt_mul h
  rw [flat_getD hn (permRows_each w)]
  have : (permRows w).getD (t / w.length) [] = unitRow w.length (w.getD (t / w.length) 0) := by
    simp [permRows, List.getD_eq_getElem?_getD, hd]
  rw [this, unitRow_getD (Nat.mod_lt _ hn)]

theorem div_at {n k m : Nat} (h : m < n) : (k * n + m) / n = k ∧ (k * n + m) % n = m := by
  have hn : 0 < n := by omega
  refine ⟨?_, ?_⟩
  · rw [Nat.mul_comm, Nat.mul_add_div hn, Nat.div_eq_of_lt h]; rfl
  · rw [Nat.mul_comm, Nat.mul_add_mod, Nat.mod_eq_of_lt h]
/-- the permutation's matrix: one row more has its 1 -/
theorem pm_step {xs : List Int} {k m t : Nat} (hm : xs.getD k 0 = (m : Int)) (hml : m < xs.length) :
    (if t = k * xs.length + m then (1 : Int) else if t / xs.length < k ∧ ((t % xs.length : Nat) : Int) = xs.getD (t / xs.length) 0 then 1 else 0) =
      if t / xs.length < k + 1 ∧ ((t % xs.length : Nat) : Int) = xs.getD (t / xs.length) 0 then 1 else 0 := by
  obtain ⟨e1, e2⟩ := div_at (k := k) hml
  by_cases e : t = k * xs.length + m
  · subst e
    rw [if_pos rfl, if_pos]
    rw [e1, e2, hm]
    exact ⟨by omega, rfl⟩
  · rw [if_neg e]
    by_cases h1 : t / xs.length < k
    · have h2 : t / xs.length < k + 1 := by omega
      simp only [h1, h2, true_and]
    · by_cases h3 : t / xs.length = k
      · rw [if_neg (fun h => h1 h.1), if_neg]
        rintro ⟨_, h4⟩
        rw [h3, hm] at h4
        have h5 : t % xs.length = m := by omega
        apply e
        have := Nat.div_add_mod t xs.length
        rw [h3, h5, Nat.mul_comm] at this
        exact this.symm
      · rw [if_neg (fun h => h1 h.1), if_neg (fun h => by omega)]

theorem take_flat_succ {rows : List (List Int)} {k : Nat} (h : k < rows.length) : (rows.take (k + 1)).flatten = (rows.take k).flatten ++ rows.getD k [] := by
  rw [List.take_succ_eq_append_getElem h, List.flatten_append]; simp [List.getD_eq_getElem?_getD, h]
theorem take_flat_le (rows : List (List Int)) (k : Nat) : (rows.take k).flatten.length ≤ rows.flatten.length := by
  have : rows.flatten = (rows.take k).flatten ++ (rows.drop k).flatten := by rw [← List.flatten_append, List.take_append_drop]
  rw [this, List.length_append]; omega
theorem take_flat_len {rows : List (List Int)} {k : Nat} (h : k < rows.length) : (rows.take k).flatten.length + (rows.getD k []).length = (rows.take (k + 1)).flatten.length := by
  rw [take_flat_succ h, List.length_append]

theorem permRows_take_succ {xs : List Int} {k : Nat} (h : k < xs.length) : (permRows xs).take (k + 1) = (permRows xs).take k ++ [unitRow xs.length (xs.getD k 0)] := by
  rw [List.take_succ_eq_append_getElem (by rw [permRows_length]; exact h)]
  simp [permRows, List.getD_eq_getElem?_getD, h]

end Go.Proofs.Ytoodgbflaaabmaa

namespace Go.Proofs.Ytoodgbflaaabmaa
set_option linter.all false
open Go.RowKit

theorem info_sl : (Try.prog.info? 24).map (fun i => (i.zero, i.size, i.bytes)) = some (some (.slice none 0 0), 1, 24) := by kernel_rfl

theorem run_append_make_nil {P : Program} (w : World) (t ti ty e : TypeId) (z : Value) (bytes : Nat) (ht : P.underlying t = some (.slice e)) (hti : P.underlying ti = some (.int .i64))
    (hinfo : (P.info? e).map (fun i => (i.zero, i.size, i.bytes)) = some (some z, 1, bytes)) (hzs : z.cells.size = 1) (n : Nat) (h0 : 0 < n) (hn : n ≤ 1000000) (hb : bytes ≤ 1000) (hb0 : 0 < bytes) :
    ∃ cap w', (Builtin.append_ #[t, ti] ty #[.slice none 0 0, .int .i64 (n : Int)]).run P w = .ok (.slice (some ⟨w.heap.size, 0, none⟩) n cap) w' ∧ n ≤ cap ∧ cap ≤ maxLen ∧
      (∃ F, w'.rowIs w.heap.size e cap F) ∧ Below w.heap.size w w' ∧ w'.heap.size = w.heap.size + 1 := by
  obtain ⟨i, hi, hz, hsz, hby⟩ := info_parts hinfo
  have hge := grownCap_ge w n 0 e
  have hle := grownCap_le_maxLen w n 0 e (by unfold maxLen; omega)
  have hwr : IntKind.i64.wrap (n : Int) = (n : Int) := k64 (by omega) (by omega)
  have hnb : n * bytes ≤ 1000000 * 1000 := Nat.mul_le_mul hn hb
  have h1 : ¬ ((n : Int) < 0) := by omega
  have h3 : ¬ (281474976710656 < Builtin.nextslicecap n 0 * i.bytes) := by rw [nextslicecap_zero h0, hby]; omega
  have h4 : ¬ (281474976710656 < (n : Int) * (i.bytes : Int)) := by
    rw [hby]
    have : ((n * bytes : Nat) : Int) = (n : Int) * (bytes : Int) := Int.natCast_mul _ _
    omega
  have h5 : ¬ (9223372036854775807 < (n : Int)) := by omega
  have h6 : n ≠ 0 := by omega
  refine ⟨grownCap w n 0 e, w.drew.alloc (.cells (Builtin.zeroCells z.cells n ++ Builtin.zeroCells z.cells (grownCap w n 0 e - n)) e), ?_, hge, hle, ⟨fun j => (Builtin.zeroCells z.cells n ++ Builtin.zeroCells z.cells (grownCap w n 0 e - n)).getD j undef, ?_⟩, ?_, by simp⟩
  · simp [Builtin.append_, run_underlying ht, run_underlying hti, sizeOf, typeInfo, zeroValue, hi, hz, hsz, Builtin.firstCells, asInt, asIntOf, hwr, h1, h3, h4, h5, h6, Question.forced, newRow, grownCap, loadCells, loadCellsFrom]
  · have hs : (Builtin.zeroCells z.cells n ++ Builtin.zeroCells z.cells (grownCap w n 0 e - n)).size = grownCap w n 0 e := by
      rw [Array.size_append, size_zeroCells, size_zeroCells, hzs]; omega
    exact ⟨_, heap_alloc_new w.drew _, hs, fun j hj => by simp only [Array.getD_eq_getD_getElem?]; rw [Array.getElem?_eq_getElem (by omega)]; rfl⟩
  · exact ((Below.refl _ _).drew).alloc (by simp) _

theorem wpList_append_make_nil {P : Program} {w : World} {ops : Array Oper} {rest : List Oper} {o : Oper} {a : Act} {Q : Exit → Act → World → Prop} (hgd : o.guard = none) (s x : Operand) (t ti : TypeId)
    (ho : o.op = .call { callee := .builtin .append, args := #[s, x], argTypes := #[t, ti] })
    (e : TypeId) (z : Value) (bytes : Nat) (ht : P.underlying t = some (.slice e)) (hti : P.underlying ti = some (.int .i64))
    (hinfo : (P.info? e).map (fun i => (i.zero, i.size, i.bytes)) = some (some z, 1, bytes)) (hzs : z.cells.size = 1) (n : Nat) (h0 : 0 < n) (hn : n ≤ 1000000) (hb : bytes ≤ 1000) (hb0 : 0 < bytes)
    (hs : a.eval s = .slice none 0 0) (hx : a.eval x = .int .i64 (n : Int))
    (h : ∀ cap w' F, n ≤ cap → cap ≤ maxLen → w'.rowIs w.heap.size e cap F → Below w.heap.size w w' → wpList P ops Q rest (a.put o.dst (.slice (some ⟨w.heap.size, 0, none⟩) n cap)) w') :
    wpList P ops Q (o :: rest) a w := by
  refine wpList_plain hgd fun K hK' => ?_
  obtain ⟨cap, w', hr, h1, h2, ⟨F, hF⟩, hbw, _⟩ := run_append_make_nil (P := P) w t ti o.type e z bytes ht hti hinfo hzs n h0 hn hb hb0
  unfold Oper.wp
  simp [execOp, ho, resolve, invoke, builtin, hs, hx, hr, Result.andThen]
  exact hK' _ _ (h cap w' F h1 h2 hF hbw)

set_option maxRecDepth 100000 in
set_option maxHeartbeats 400000 in
/-- slices.Grow at nil: room for so many -/
theorem grow_nil (n : Nat) (w : World) (hn : n ≤ 1000000) :
    Calls Try.prog 88 #[.slice none 0 0, .int .i64 (n : Int)] w fun e w' => ∃ v, e = .returned v ∧ OwnF w' w.heap.size w'.heap.size 3 v 0 (fun _ => undef) ∧ Below w.heap.size w w' := by
  by_cases h0 : n = 0
  · subst h0
    go_enter Try.func88, Try.ntmps88
    go_wp2
    go_ret
    exact ⟨_, rfl, OwnF.nil _ _ _ _ _, Below.refl _ _⟩
  · have hpos : (0 : Int) < n := by omega
    go_enter Try.func88, Try.ntmps88
    go_wp2_with (at_builtin; refine wpList_append_make_nil rfl (.tmp 20) (.tmp 21) 24 3 rfl 3 (.int .i64 0) 8 Try.underlying24 Try.underlying3 info_int rfl n (by omega) hn (by omega) (by omega) rfl rfl ?_; intro cap w1 F h1 h2 hF hb)
    go_ret
    exact ⟨_, rfl, OwnF.mk' hF (Nat.le_refl _) hF.lt (Nat.zero_le _) h2 (fun j hj => absurd hj (Nat.not_lt_zero _)), hb⟩

theorem iv_append {xs ys : List Int} {n : Nat} (hn : n = xs.length) (j : Nat) : (if j < n then iv xs j else iv ys (j - n)) = iv (xs ++ ys) j := by
  subst hn
  unfold iv
  by_cases h : j < xs.length
  · rw [if_pos h]; simp [List.getD_eq_getElem?_getD, List.getElem?_append_left h]
  · rw [if_neg h]; simp [List.getD_eq_getElem?_getD, List.getElem?_append_right (Nat.le_of_not_lt h)]
theorem iv_one (xs : List Int) (j : Nat) : (iv xs j).oneCell' = true := rfl

set_option maxRecDepth 100000 in
set_option maxHeartbeats 1000000 in
/-- slices.Concat: the lists behind one another, in new memory -/
theorem concat_any (v : Value) (rows : List (List Int)) (w : World) (h : RdII w v rows) (hl : rows.flatten.length ≤ 1000000) :
    Calls Try.prog 72 #[v] w fun e w' => ∃ u, e = .returned u ∧ OwnI 3 w' w.heap.size w'.heap.size u rows.flatten ∧ Below w.heap.size w w' := by
  obtain ⟨f, ⟨p, cap, rfl, ⟨hx1, hx⟩, hxc⟩, hrows⟩ := h
  have Hrows := Lib.hid hrows
  have Hxc := Lib.hid hxc
  clear hrows hxc
  unfold maxLen at hx
  go_enter Try.func72, Try.ntmps72
  go_wp2_with fail
  go_loopg [3, 11] rows.length (fun g s3 i wr => ∃ k : Nat, k ≤ rows.length ∧ g = rows.length - k ∧ i = .int .i64 k ∧ s3 = .int .i64 ((rows.take k).flatten.length : Nat) ∧ wr = w)
  case atStart => exact ⟨0, Nat.zero_le _, rfl, rfl, by simp, rfl⟩
  case round =>
    obtain ⟨k, hk, rfl, rfl, rfl, rfl⟩ := hrel
    have hle := take_flat_le rows k
    by_cases hlt : k < rows.length
    · obtain ⟨b, off, rfl, hc⟩ := Hxc.out (by omega)
      obtain ⟨q, cq, e, ⟨hq1, hq2⟩, _⟩ := Hrows.out k hlt
      have c1 := hc k hlt
      rw [e] at c1
      have hsum := take_flat_len hlt
      have hle2 := take_flat_le rows (k + 1)
      obtain ⟨A, hA⟩ : ∃ A, A = (rows.take k).flatten.length := ⟨_, rfl⟩
      obtain ⟨L, hL⟩ : ∃ L, L = (rows.getD k []).length := ⟨_, rfl⟩
      rw [← hA] at hsum hle ⊢
      rw [← hL] at c1 hsum
      have HA := Lib.hid hA
      have HL := Lib.hid hL
      have hAL : A + L ≤ 1000000 := by omega
      have Hsum := Lib.hid hsum
      clear hA hL hsum hc e
      go_wp2_with fail
      all_goals
        go_roundg (rows.length - (k + 1))
        case measure => omega
        case rel => exact ⟨k + 1, by omega, rfl, by go_num, by rw [← Hsum.out]; go_num, rfl⟩
    · obtain rfl : k = rows.length := by omega
      rw [List.take_length] at hle ⊢
      obtain ⟨A, hA⟩ : ∃ A, A = rows.flatten.length := ⟨_, rfl⟩
      rw [← hA] at hl ⊢
      have HA := Lib.hid hA
      clear hA hle
      obtain ⟨wo, rfl⟩ : ∃ wo : World, wo = wr := ⟨_, rfl⟩
      go_wp2_with (go_at_call 88; refine (grow_nil _ _ hl).mono ?_; rintro e w1 ⟨v0, rfl, ho, hb⟩)
      go_loopg [6, 27] rows.length (fun g s6 i wx => ∃ k : Nat, k ≤ rows.length ∧ g = rows.length - k ∧ i = .int .i64 k ∧ Below wo.heap.size wo wx ∧
        OwnF wx wo.heap.size wx.heap.size 3 s6 (rows.take k).flatten.length (iv (rows.take k).flatten))
      case atStart => exact ⟨0, Nat.zero_le _, rfl, rfl, hb, by simpa using ho.congr fun j hj => absurd hj (Nat.not_lt_zero _)⟩
      case round =>
        obtain ⟨k, hk, rfl, rfl, hbx, hox⟩ := hrel
        clear ho hb
        have hle := take_flat_le rows k
        by_cases hlt : k < rows.length
        · obtain ⟨b, off, rfl, hc⟩ := Hxc.out (by omega)
          have hri := (Hrows.out k hlt).below hbx
          obtain ⟨q, cq, e, ⟨hq1, hq2⟩, _⟩ := Hrows.out k hlt
          have c1 : wr.cell? ⟨b, off + k, none⟩ = some (f k) := by
            rw [hbx.cell (p := ⟨b, off + k, none⟩) (World.block_lt_of_cell? _ _ (hc k hlt))]; exact hc k hlt
          rw [e] at c1 hri
          have hsum := take_flat_len hlt
          have hle2 := take_flat_le rows (k + 1)
          have hys := take_flat_succ hlt
          obtain ⟨ys, hy⟩ : ∃ ys, ys = rows.getD k [] := ⟨_, rfl⟩
          rw [← hy] at c1 hri hsum hq1 hys
          have Hys := Lib.hid hys
          have Hb1 := Lib.hid (show (rows.take k).flatten.length + ys.length ≤ maxLen by unfold maxLen; have := HA.out; omega)
          have Hb2 := Lib.hid (show ((rows.take k).flatten.length + ys.length) * 8 ≤ 140737488355328 by have := HA.out; omega)
          have Hri := Lib.hid hri
          have Hox := Lib.hid hox
          clear hsum hc e hle2 hle hri hox hy hys
          go_wp2_with (at_builtin; refine wpList_append_F rfl (.tmp 31) (.tmp 32) 24 rfl 3 (.int .i64 0) 8 Try.underlying24 info_int rfl wo.heap.size wr.heap.size _ _ _ rfl Hox.out hbx.size (Nat.le_refl _) _ _ _ rfl Hri.out (fun j _ => iv_one _ j) Hb1.out Hb2.out ?_; intro v' w' ho' hg')
          go_roundg (rows.length - (k + 1))
          case measure => omega
          case rel =>
            refine ⟨k + 1, by omega, rfl, by go_num, hbx.trans (grownBy_below hg' Hox.out.blocks (Nat.le_refl _) hbx.size), ?_⟩
            rw [Hys.out, List.length_append]
            exact ho'.congr fun j _ => iv_append rfl j
        · go_wp2_with fail
          go_ret
          obtain rfl : k = rows.length := by omega
          rw [List.take_length] at hox
          exact ⟨_, rfl, hox.ints, hbx⟩

set_option maxRecDepth 100000 in
set_option maxHeartbeats 400000 in
theorem matrixOf_any (p c : Int) (v : Value) (rows : List (List Int)) (w : World) (h : RdII w v rows) (hl : rows.flatten.length ≤ 1000000) :
    Calls Try.prog 45 #[.int .i64 p, .int .i64 c, v] w (RetM w ⟨p, rows.length, c, rows.flatten⟩) := by
  obtain ⟨q, cap, e⟩ : ∃ q cap, v = .slice q rows.length cap := by
    obtain ⟨f, ⟨q, cap, e, _⟩, _⟩ := h
    exact ⟨q, cap, e⟩
  subst e
  have Hn := Lib.hid fun o => concat_any _ rows (w.alloc o) (h.below (below_alloc w o)) hl
  go_enter Try.func45, Try.ntmps45
  go_wp2_with fail
  refine (Hn.out _).mono ?_
  rintro e w1 ⟨u, rfl, ho, hb⟩
  have hbw := (below_alloc w _).trans (hb.mono (by simp))
  have b0 : w1.heap[w.heap.size]? = some (.cells #[.int .i64 0, .int .i64 0, .int .i64 0, .slice none 0 0] 34) := by
    rw [hb.block _ (by simp)]; exact heap_alloc_top _ _
  obtain ⟨c00, c01, c02, c03, c0f, hz0⟩ := blk4 b0
  have ho' : OwnI 3 w1 (w.heap.size + 1) w1.heap.size u rows.flatten := ho.mono (by simp) (Nat.le_refl _)
  obtain ⟨up, ucap, rfl, _, _⟩ := ho'.shape
  clear hb ho b0 h
  have Ho := Lib.hid ho'
  clear ho'
  go_wp2_with fail
  refine bodyPost_ret (v := .agg #[.int .i64 p, .int .i64 rows.length, .int .i64 c, .slice up rows.flatten.length ucap]) (by simp [results, Try.results45, go_sem, c00, c01, c02, c03, hz0]) rfl ⟨_, rfl, ?_, ?_⟩
  · exact (own_set4 Ho.out (.inl (by omega)) _ _ _ _).mono (by omega) (by simp only [size_setCell]; omega)
  · exact below_set4 hbw (Nat.le_refl _) _ _ _ _

end Go.Proofs.Ytoodgbflaaabmaa
