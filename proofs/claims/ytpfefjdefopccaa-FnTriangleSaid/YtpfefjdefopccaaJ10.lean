/-
  The draws: the cursor over the bytes, a number below another one.
  The draws: a new cursor.
  The draws: a cursor, a prime, a matrix.
  The reference's l1Factorial and l1Decode.
  The identity, as the reference makes it.
  The draws: a permutation.
  The draws: a permutation, the identity.
  The draws: a flag.
  The law FnNormal, on lists: plain.
-/
import Derived.Test.YtpfefjdefopccaaJ1
import Derived.Test.YtpfefjdefopccaaJ2
import Derived.Deep.RegionLaw
import Derived.Test.YtpfefjdefopccaaJ7
import Derived.Test.YtpfefjdefopccaaJ4
import Derived.Test.YtpfefjdefopccaaJ3
import Derived.Test.YtpfefjdefopccaaJ8
import Derived.Test.YtpfefjdefopccaaJ9
namespace Go.Proofs.Ytpfefjdefopccaa
set_option linter.all false
open Go.RowKit

theorem blk3 {w : World} {b : Nat} {x0 x1 x2 : Value} {T : TypeId} (h : w.heap[b]? = some (.cells #[x0, x1, x2] T (0, 0))) :
    w.cell? ⟨b, 0, none⟩ = some x0 ∧ w.cell? ⟨b, 1, none⟩ = some x1 ∧ w.cell? ⟨b, 2, none⟩ = some x2 ∧ (∀ j, w.frozen? ⟨b, j, none⟩ = false) ∧ b < w.heap.size :=
  ⟨cell_of_blk h rfl, cell_of_blk h rfl, cell_of_blk h rfl, free_of_blk h, (Array.getElem?_eq_some_iff.1 h).1⟩

theorem and255 (x : Int) : 0 ≤ bits .and .i64 x 255 ∧ bits .and .i64 x 255 ≤ 255 := by
  have h1 : (BitVec.ofInt 64 x).toNat &&& 255 < 2 ^ 8 := Nat.and_lt_two_pow _ (by decide)
  have e : bits .and .i64 x 255 = IntKind.i64.wrap (((BitVec.ofInt 64 x).toNat &&& 255 : Nat) : Int) := by
    simp only [bits, BitVec.toNat_and]
    rfl
  have e2 : IntKind.i64.wrap (((BitVec.ofInt 64 x).toNat &&& 255 : Nat) : Int) = (((BitVec.ofInt 64 x).toNat &&& 255 : Nat) : Int) := k64 (by omega) (by omega)
  rw [e, e2]
  omega

/-- bytes that can be read -/
def Byts (w : World) (v : Value) (n : Nat) : Prop := ∃ f : Nat → Int, Rd w v n fun j => .int .u8 (f j)
theorem Byts.below {w w' : World} {v : Value} {n : Nat} (h : Byts w v n) (hb : Below w.heap.size w w') : Byts w' v n := by
  obtain ⟨f, h⟩ := h
  exact ⟨f, h.below hb⟩

theorem Byts.frm {w w' : World} {p : Option Addr} {n cap k : Nat} (h : Byts w (.slice p n cap) n) (hf : Frm k (k + 1) w w') (hne : 0 < n → ∀ a, p = some a → a.block < k) : Byts w' (.slice p n cap) n := by
  obtain ⟨f, p', cap', e, hm, hx⟩ := h
  injection e with e1 _ e3
  subst e1 e3
  refine ⟨f, p, cap, rfl, hm, fun h0 => ?_⟩
  obtain ⟨b, off, hp, hc⟩ := hx h0
  refine ⟨b, off, hp, fun j hj => ?_⟩
  have hb := World.block_lt_of_cell? w _ (hc j hj)
  have h1 := hne h0 _ hp
  rw [World.cell?_of_block (w := w) (hf.block b hb (by dsimp only at h1; omega))]
  exact hc j hj

/-- the cursor in block k -/
def Cur (w : World) (k : Nat) : Prop :=
  ∃ (p : Option Addr) (n cap i : Nat) (h : Int), w.heap[k]? = some (.cells #[.slice p n cap, .int .i64 (i : Int), .int .i64 h] 55 (0, 0)) ∧ i ≤ n ∧ Byts w (.slice p n cap) n ∧ (0 < n → ∀ a, p = some a → a.block < k)
theorem Cur.lt {w : World} {k : Nat} (h : Cur w k) : k < w.heap.size := by
  obtain ⟨_, _, _, _, _, h, _⟩ := h
  exact blk_lt h
theorem Cur.keepB {w w' : World} {k B : Nat} (h : Cur w k) (hb : Below B w w') (hB : k < B) : Cur w' k := by
  have hk := h.lt
  obtain ⟨p, n, cap, i, x, h1, h2, ⟨f, p', cap', e, hm, h3⟩, h4⟩ := h
  injection e with e1 _ e3
  subst e1 e3
  refine ⟨p, n, cap, i, x, by rw [hb.block k hB]; exact h1, h2, ⟨f, p, cap, rfl, hm, fun h0 => ?_⟩, h4⟩
  obtain ⟨b, off, hp, hc⟩ := h3 h0
  have hlt := h4 h0 _ hp
  dsimp only at hlt
  exact ⟨b, off, hp, fun j hj => by rw [World.cell?_of_block (w := w) (hb.block b (by omega))]; exact hc j hj⟩
theorem Frm.thenB {lo hi B : Nat} {a b c : World} (h : Frm lo hi a b) (hb : Below B b c) (hB : a.heap.size ≤ B) : Frm lo hi a c :=
  ⟨hb.os.trans h.os, hb.tape.trans h.tape, hb.output.trans h.output, Nat.le_trans h.size hb.size, fun k hk ho => (hb.block k (by omega)).trans (h.block k hk ho)⟩
theorem OwnI.setOther {T : TypeId} {w : World} {lo hi : Nat} {v : Value} {xs : List Int} (h : OwnI T w lo hi v xs) {a : Addr} (hne : v.ownBlock ≠ some a.block) (u : Value) : OwnI T (w.setCell a u) lo hi v xs :=
  ⟨ownsRow_of_block h.1 fun b hb => Below.heap_setCell _ _ _ _ fun e => hne (by rw [hb, e]), h.2⟩
theorem Cur.below {w w' : World} {k : Nat} (h : Cur w k) (hb : Below w.heap.size w w') : Cur w' k := by
  obtain ⟨p, n, cap, i, x, h1, h2, h3, h4⟩ := h
  exact ⟨p, n, cap, i, x, blk_later h1 hb, h2, h3.below hb, h4⟩

set_option maxRecDepth 100000 in
set_option maxHeartbeats 2000000 in
theorem l1Byte_any (k : Nat) (w : World) (h : Cur w k) :
    Calls Try.prog 31 #[.pointer (some ⟨k, 0, none⟩)] w fun e w' => ∃ x : Int, e = .returned (.int .i64 x) ∧ 0 ≤ x ∧ x ≤ 255 ∧ Cur w' k ∧ Frm k (k + 1) w w' := by
  obtain ⟨p, n, cap, i, x, h1, h2, ⟨f, h3⟩, h4⟩ := h
  obtain ⟨c0, c1, c2, cf, cz⟩ := blk3 h1
  obtain ⟨_, _, e, ⟨hx1, hx2⟩, hxc⟩ := h3
  injection e with e1 e2 e3
  subst e1 e3
  unfold maxLen at hx2
  have Hxc := Lib.hid hxc
  clear hxc e2
  go_enter Try.func31, Try.ntmps31
  go_wp2_with fail
  go_quiet (fail)
  obtain ⟨X, hX⟩ : ∃ X, X = wrap64 (wrap64 (x * 6364136223846793005) + 1442695040888963407) := ⟨_, rfl⟩
  rw [← hX]
  obtain ⟨Y, hY⟩ : ∃ Y, Y = bits BinOp.and IntKind.i64 (bits BinOp.xor IntKind.i64 (X / 8589934592) (X / 35184372088832)) 255 := ⟨_, rfl⟩
  rw [← hY]
  have hY2 := and255 (bits BinOp.xor IntKind.i64 (X / 8589934592) (X / 35184372088832))
  rw [← hY] at hY2
  clear hX hY
  have hf2 : Frm k (k + 1) w ((w.setCell ⟨k, 2, none⟩ (.int .i64 X)).drewN nq) := ((Frm.refl k (k + 1) w).setCell (Nat.le_refl _) (Nat.lt_succ_self _) _).drewN nq
  have hh2 : ((w.setCell ⟨k, 2, none⟩ (.int .i64 X)).drewN nq).heap[k]? = some (.cells #[.slice p n cap, .int .i64 (i : Int), .int .i64 X] 55 (0, 0)) := heap_setCell_at h1 2 _
  have hB2 : Byts ((w.setCell ⟨k, 2, none⟩ (.int .i64 X)).drewN nq) (.slice p n cap) n := Byts.frm ⟨f, _, _, rfl, ⟨hx1, by unfold maxLen; omega⟩, Hxc.out⟩ hf2 h4
  generalize (w.setCell ⟨k, 2, none⟩ (.int .i64 X)).drewN nq = w2 at *
  clear c0 c1 c2 cf cz Hxc f
  obtain ⟨c0, c1, c2, cf, cz⟩ := blk3 hh2
  have HB2 := Lib.hid hB2
  have Hf2 := Lib.hid hf2
  obtain ⟨f, p', cap', e, _, hxc⟩ := hB2
  injection e with e1 _ e3
  subst e1 e3
  clear hf2
  by_cases hlt : i < n
  · obtain ⟨b, off, rfl, hc⟩ := hxc (by omega)
    have cb := hc i hlt
    have hlt2 : (i : Int) < (n : Int) := by omega
    clear hxc hc
    go_wp2_with fail
    go_quiet (fail)
    go_wp2_with fail
    go_quiet (fail)
    obtain ⟨Z, hZ⟩ : ∃ Z, Z = bits BinOp.and IntKind.i64 (wrap64 (Y + wrap64 (f i))) 255 := ⟨_, rfl⟩
    rw [← hZ]
    have hZ2 := and255 (wrap64 (Y + wrap64 (f i)))
    rw [← hZ] at hZ2
    clear hZ
    have hcast : (i : Int) + 1 = ((i + 1 : Nat) : Int) := by omega
    have Hcast := Lib.hid hcast
    clear hcast
    go_wp2_with fail
    go_ret
    rw [Hcast.out]
    refine ⟨Z, rfl, hZ2.1, hZ2.2, ⟨_, n, cap, i + 1, X, by exact heap_setCell_at hh2 1 _, by omega, ?_, h4⟩, ?_⟩
    · exact HB2.out.frm (k := k) (Frm.setCell ((Frm.refl k (k + 1) w2).drewN _) (Nat.le_refl k) (Nat.lt_succ_self k) _) h4
    · exact Frm.setCell (Hf2.out.drewN _) (Nat.le_refl k) (Nat.lt_succ_self k) _
  · have hlt2 : ¬ (i : Int) < (n : Int) := by omega
    clear hxc
    go_wp2_with fail
    go_quiet (fail)
    go_wp2_with fail
    go_ret
    exact ⟨Y, rfl, hY2.1, hY2.2, ⟨p, n, cap, i, X, hh2, h2, HB2.out.frm (k := k) ((Frm.refl k (k + 1) w2).drewN _) h4, h4⟩, Hf2.out.drewN _⟩

set_option maxRecDepth 100000 in
set_option maxHeartbeats 2000000 in
/-- a number from 0 to m - 1, where m is not great -/
theorem l1Below_any (k m : Nat) (w : World) (h : Cur w k) (h0 : 1 ≤ m) (hm : m ≤ 256) :
    Calls Try.prog 15 #[.pointer (some ⟨k, 0, none⟩), .int .i64 (m : Int)] w fun e w' => ∃ x : Nat, e = .returned (.int .i64 (x : Int)) ∧ x < m ∧ Cur w' k ∧ Frm k (k + 1) w w' := by
  have Hc := Lib.hid h
  clear h
  go_enter Try.func15, Try.ntmps15
  go_wp2_with fail
  refine (l1Byte_any k _ Hc.out).mono ?_
  rintro e w1 ⟨x, rfl, hx0, hx1, hc1, hf1⟩
  obtain ⟨X, rfl⟩ := Int.eq_ofNat_of_zero_le hx0
  have Hc1 := Lib.hid hc1
  have Hf1 := Lib.hid hf1
  clear hc1 hf1
  go_wp2_with fail
  go_ret
  exact ⟨X % m, ret_int (Int.natCast_emod X m).symm, Nat.mod_lt _ (by omega), Hc1.out, Hf1.out⟩

set_option maxRecDepth 100000 in
set_option maxHeartbeats 2000000 in
theorem l1Once_any (k m : Nat) (w : World) (h : Cur w k) (h0 : 1 ≤ m) (hm : m ≤ 256) :
    Calls Try.prog 17 #[.pointer (some ⟨k, 0, none⟩), .int .i64 (m : Int)] w fun e w' => ∃ b : Bool, e = .returned (.bool b) ∧ Cur w' k ∧ Frm k (k + 1) w w' := by
  have Hc := Lib.hid h
  clear h
  go_enter Try.func17, Try.ntmps17
  go_wp2_with fail
  refine (l1Below_any k m _ Hc.out h0 hm).mono ?_
  rintro e w1 ⟨x, rfl, hx, hc1, hf1⟩
  go_wp2_with fail
  go_ret
  exact ⟨_, rfl, hc1, hf1⟩

set_option maxRecDepth 100000 in
set_option maxHeartbeats 2000000 in
/-- one of some numbers -/
theorem l1PickInt_any (k : Nat) (v : Value) (xs : List Int) (w : World) (h : Cur w k) (hv : Ints w v xs) (hne : ∀ p n c, v = .slice p n c → ∀ a, p = some a → a.block ≠ k) (h0 : 1 ≤ xs.length) (hm : xs.length ≤ 256) :
    Calls Try.prog 30 #[.pointer (some ⟨k, 0, none⟩), v] w fun e w' => ∃ x ∈ xs, e = .returned (.int .i64 x) ∧ Cur w' k ∧ Frm k (k + 1) w w' := by
  have Hc := Lib.hid h
  clear h
  obtain ⟨p, cap, rfl, ⟨hx1, hx2⟩, hxc⟩ := hv
  obtain ⟨b, off, rfl, hc⟩ := hxc h0
  have hk : b ≠ k := hne _ _ _ rfl _ rfl
  unfold maxLen at hx2
  clear hne hxc
  go_enter Try.func30, Try.ntmps30
  go_wp2_with fail
  refine (l1Below_any k xs.length _ Hc.out h0 hm).mono ?_
  rintro e w1 ⟨x, rfl, hx, hc1, hf1⟩
  have c1 : w1.cell? ⟨b, off + x, none⟩ = some (.int .i64 xs[x]) := by
    rw [World.cell?_of_block (w := w) (hf1.block b (World.block_lt_of_cell? w _ (hc x hx)) (by omega)), hc x hx]
    simp [iv, List.getD_eq_getElem?_getD, hx]
  have Hc1 := Lib.hid hc1
  have Hf1 := Lib.hid hf1
  have Hm := Lib.hid (show xs[x] ∈ xs from List.getElem_mem hx)
  obtain ⟨X, hX⟩ : ∃ X, X = xs[x] := ⟨_, rfl⟩
  rw [← hX] at c1 Hm
  clear hX hc hc1 hf1
  go_wp2_with fail
  go_ret
  exact ⟨X, Hm.out, rfl, Hc1.out, Hf1.out⟩

end Go.Proofs.Ytpfefjdefopccaa

namespace Go.Proofs.Ytpfefjdefopccaa
set_option linter.all false
open Go.RowKit

theorem cur_new {w : World} {p : Option Addr} {n cap : Nat} (x : Int) (h : Byts w (.slice p n cap) n) : Cur (w.alloc (.cells #[.slice p n cap, .int .i64 0, .int .i64 x] 55)) w.heap.size := by
  have h' := h
  obtain ⟨f, p', cap', e, _, hx⟩ := h'
  injection e with e1 _ e3
  subst e1 e3
  refine ⟨p, n, cap, 0, x, heap_alloc_top _ _, Nat.zero_le _, h.below (below_alloc _ _), fun h0 a ha => ?_⟩
  obtain ⟨b, off, e, hc⟩ := hx h0
  rw [e] at ha
  injection ha with ha
  subst ha
  have := World.block_lt_of_cell? _ _ (hc 0 h0)
  dsimp only at this ⊢
  omega

set_option maxRecDepth 100000 in
set_option maxHeartbeats 2000000 in
theorem l1New_any (v : Value) (n : Nat) (w : World) (h : Byts w v n) :
    Calls Try.prog 13 #[v] w fun e w' => e = .returned (.pointer (some ⟨w.heap.size, 0, none⟩)) ∧ Cur w' w.heap.size ∧ Below w.heap.size w w' := by
  have Hh := Lib.hid h
  obtain ⟨f, p, cap, rfl, ⟨hx1, hx2⟩, hxc⟩ := h
  unfold maxLen at hx2
  have Hxc := Lib.hid hxc
  clear hxc
  go_enter Try.func13, Try.ntmps13
  go_wp2_with fail
  go_loopg [3, 4] n (fun g s3 s4 wr => ∃ (k : Nat) (x : Int), k ≤ n ∧ g = n - k ∧ s3 = .int .i64 x ∧ s4 = .int .i64 k ∧ wr = w)
  case atStart => exact ⟨0, _, Nat.zero_le _, rfl, rfl, rfl, rfl⟩
  case round =>
    obtain ⟨k, x, hk, rfl, rfl, rfl, rfl⟩ := hrel
    by_cases hlt : k < n
    · by_cases h4 : k < 4000
      · obtain ⟨b, off, rfl, hc⟩ := Hxc.out (by omega)
        have c1 := hc k hlt
        have i1 : (k : Int) < (n : Int) := by omega
        have i2 : (k : Int) < 4000 := by omega
        clear hc
        go_wp2_with fail
        go_roundg (n - (k + 1))
        case measure => omega
        case rel => exact ⟨k + 1, _, by omega, rfl, rfl, by go_num, rfl⟩
      · have i1 : (k : Int) < (n : Int) := by omega
        have i2 : ¬ (k : Int) < 4000 := by omega
        go_wp2_with fail
        go_ret
        exact ⟨rfl, cur_new x Hh.out, below_alloc _ _⟩
    · have i1 : ¬ (k : Int) < (n : Int) := by omega
      go_wp2_with fail
      go_ret
      exact ⟨rfl, cur_new x Hh.out, below_alloc _ _⟩

end Go.Proofs.Ytpfefjdefopccaa

namespace Go.Proofs.Ytpfefjdefopccaa
set_option linter.all false
open Go.RowKit

set_option maxRecDepth 100000 in
set_option maxHeartbeats 2000000 in
theorem dPrime_any (k : Nat) (w : World) (h : Cur w k) :
    Calls Try.prog 14 #[.pointer (some ⟨k, 0, none⟩)] w fun e w' => ∃ P : Int, e = .returned (.int .i64 P) ∧ primeOk P = true ∧ Cur w' k ∧ Frm k (k + 1) w w' := by
  have Hc := Lib.hid h
  clear h
  go_enter Try.func14, Try.ntmps14
  go_wp2_with fail
  have hc1 := Hc.out.below (below_alloc w (.cells #[.int .i64 2, .int .i64 3, .int .i64 2, .int .i64 5, .int .i64 7] 3))
  have hk := Hc.out.lt
  refine (l1PickInt_any k _ [2, 3, 2, 5, 7] _ hc1 ⟨_, 5, rfl, ⟨Nat.le_refl _, by unfold maxLen; omega⟩, fun _ => ⟨w.heap.size, 0, rfl, fun j hj => ?_⟩⟩ (fun p n c e a ha => ?_) (by decide) (by decide)).mono ?_
  · have h5 := heap_alloc_top w (.cells #[.int .i64 2, .int .i64 3, .int .i64 2, .int .i64 5, .int .i64 7] 3)
    rw [Nat.zero_add]
    simp only [List.length_cons, List.length_nil] at hj
    obtain rfl | rfl | rfl | rfl | rfl : j = 0 ∨ j = 1 ∨ j = 2 ∨ j = 3 ∨ j = 4 := by omega
    all_goals exact cell_of_blk h5 rfl
  · injection e with e1 _ _
    rw [← e1] at ha
    injection ha with ha
    subst ha
    dsimp only
    omega
  · rintro e w1 ⟨x, hx, rfl, hc2, hf⟩
    have Hx := Lib.hid hx
    have Hc2 := Lib.hid hc2
    have Hf := Lib.hid hf
    clear hx hc2 hf hc1
    go_wp2_with fail
    go_ret
    refine ⟨x, rfl, ?_, Hc2.out, (Frm.of_below (below_alloc w _) _ _).trans Hf.out⟩
    have := Hx.out
    simp only [List.mem_cons, List.not_mem_nil, or_false] at this
    obtain rfl | rfl | rfl | rfl | rfl := this <;> decide

end Go.Proofs.Ytpfefjdefopccaa

namespace Go.Proofs.Ytpfefjdefopccaa
set_option linter.all false
open Go.RowKit

def fact : Nat → Nat
  | 0 => 1
  | n + 1 => (n + 1) * fact n
theorem fact_pos (n : Nat) : 1 ≤ fact n := by
  induction n with
  | zero => exact Nat.le_refl _
  | succ n ih => exact Nat.le_trans ih (Nat.le_mul_of_pos_left _ (Nat.succ_pos n))
theorem fact_le {a b : Nat} (h : a ≤ b) : fact a ≤ fact b := by
  induction h with
  | refl => exact Nat.le_refl _
  | step _ ih => exact Nat.le_trans ih (Nat.le_mul_of_pos_left _ (Nat.succ_pos _))

/-- the left-th number that is not in out is put behind it -/
def decGo (out : List Int) : Nat → Nat → Nat → List Int
  | 0, _, _ => out
  | f + 1, v, left => if (v : Int) ∈ out then decGo out f (v + 1) left else if left = 0 then out ++ [(v : Int)] else decGo out f (v + 1) (left - 1)
def decL (n : Nat) (c : List Nat) : List Int := c.foldl (fun out left => decGo out n 0 left) []
theorem decL_snoc (n : Nat) (c : List Nat) (x : Nat) : decL n (c ++ [x]) = decGo (decL n c) n 0 x := by simp [decL]

theorem decGo_len (out : List Int) (f v left : Nat) : (decGo out f v left).length ≤ out.length + 1 := by
  induction f generalizing v left with
  | zero => simp [decGo]
  | succ f ih =>
    unfold decGo
    split
    · exact ih _ _
    · split
      · simp
      · exact ih _ _
theorem decL_len (n : Nat) (c : List Nat) (k : Nat) : (decL n (c.take k)).length ≤ k := by
  induction k with
  | zero => simp [decL]
  | succ k ih =>
    by_cases h : k < c.length
    · have e : c.take (k + 1) = c.take k ++ [c[k]] := by rw [List.take_add_one, List.getElem?_eq_getElem h]; rfl
      rw [e, decL_snoc]
      exact Nat.le_trans (decGo_len _ _ _ _) (by omega)
    · rw [List.take_of_length_le (by omega)]
      rw [List.take_of_length_le (by omega)] at ih
      omega

set_option maxRecDepth 100000 in
set_option maxHeartbeats 2000000 in
theorem specDecode_any (v : Value) (c : List Nat) (w : World) (h : Ints w v (c.map Int.ofNat)) (hn : c.length ≤ 100) (hs : ∀ x ∈ c, x ≤ 1000000) :
    Calls Try.prog 44 #[v] w (RetI w (decL c.length c)) := by
  obtain ⟨p, cap, rfl, ⟨hx1, hx⟩, hxc⟩ := h
  rw [List.length_map] at *
  unfold maxLen at hx
  have Hxc := Lib.hid hxc
  have Hs := Lib.hid hs
  clear hxc hs
  go_enter Try.func44, Try.ntmps44
  go_wp2
  go_loopg [3, 4] c.length (fun g s3 i wr => ∃ k : Nat, k ≤ c.length ∧ g = c.length - k ∧ i = .int .i64 k ∧ Below w.heap.size w wr ∧ OwnI 3 wr w.heap.size wr.heap.size s3 (decL c.length (c.take k)))
  case atStart => exact ⟨0, Nat.zero_le _, rfl, rfl, below_alloc _ _, (OwnF.ints (xs := []) ((OwnF.made0 w _ _))).mono (Nat.le_refl _) (by simp)⟩
  case round =>
    obtain ⟨k, hk, rfl, rfl, hb, ho⟩ := hrel
    by_cases hlt : k < c.length
    · obtain ⟨b, off, rfl, hc⟩ := Hxc.out (by omega)
      have c1 := cell_below hb (hc k hlt)
      have e1 : iv (c.map Int.ofNat) k = .int .i64 (c.getD k 0 : Nat) := by simp [iv, List.getD_eq_getElem?_getD, hlt]
      rw [e1] at c1
      have hck : c.getD k 0 ≤ 1000000 := Hs.out _ (by simp [List.getD_eq_getElem?_getD, hlt])
      have e2 : decL c.length (c.take (k + 1)) = decGo (decL c.length (c.take k)) c.length 0 (c.getD k 0) := by
        rw [List.take_add_one, List.getElem?_eq_getElem hlt]
        simp only [Option.toList]
        rw [decL_snoc]
        simp [List.getD_eq_getElem?_getD, hlt]
      have hln := decL_len c.length c k
      generalize hX : c.getD k 0 = X at c1 hck e2
      generalize hO : decL c.length (c.take k) = out at ho e2 hln
      have E2 := Lib.hid e2
      have Ho := Lib.hid ho
      obtain ⟨p3, k3, rfl, _, _⟩ := ho.shape
      clear hc e1 e2 hX hO ho
      obtain ⟨wo, rfl⟩ : ∃ x : World, x = wr := ⟨_, rfl⟩
      go_wp2
      go_loopg [3, 5, 6] c.length (fun g s3 s5 s6 wr => ∃ left v : Nat, v ≤ c.length ∧ left ≤ 1000000 ∧ g = c.length - v ∧ s3 = .slice p3 out.length k3 ∧ s5 = .int .i64 left ∧ s6 = .int .i64 v ∧ Qt wo wr ∧ Hid (decGo out (c.length - v) v left = decGo out c.length 0 X))
      case atStart => exact ⟨X, 0, Nat.zero_le _, hck, rfl, rfl, rfl, rfl, Qt.refl _, rfl⟩
      case round =>
        obtain ⟨left, v, hv, hleft, rfl, rfl, rfl, rfl, hq, hg⟩ := hrel
        by_cases hvlt : v < c.length
        · by_cases hmem : (v : Int) ∈ out
          · have hc := l1Has_any _ out v wr (Ho.out.ints.qt hq)
            rw [decide_eq_true hmem] at hc
            have Hc := Lib.hid hc
            have hg2 : decGo out (c.length - (v + 1)) (v + 1) left = decGo out c.length 0 X := by
              rw [← hg.out, show c.length - v = (c.length - (v + 1)) + 1 by omega]
              simp [decGo, hmem]
            have Hg2 := Lib.hid hg2
            clear hc hg hg2 hmem
            go_wp2_with fail
            refine Hc.out.mono ?_
            rintro e w1 ⟨rfl, hq1⟩
            go_wp2_with fail
            go_roundg (c.length - (v + 1))
            case measure => omega
            case rel => exact ⟨left, v + 1, by omega, hleft, rfl, rfl, rfl, by go_num, hq.trans hq1, Hg2.out⟩
          · have hc := l1Has_any _ out v wr (Ho.out.ints.qt hq)
            rw [decide_eq_false hmem] at hc
            have Hc := Lib.hid hc
            by_cases hl0 : left = 0
            · subst hl0
              have hg2 : out ++ [(v : Int)] = decGo out c.length 0 X := by
                rw [← hg.out, show c.length - v = (c.length - (v + 1)) + 1 by omega]
                simp [decGo, hmem]
              have Hg2 := Lib.hid hg2
              clear hc hg hg2 hmem
              go_wp2_with fail
              refine Hc.out.mono ?_
              rintro e w1 ⟨rfl, hq1⟩
              have Hq1 := Lib.hid (hq.trans hq1)
              have Ho1 := Lib.hid (Ho.out.below (Hq1.out.below _))
              have Hb1 := Lib.hid (show out.length + 1 ≤ maxLen by unfold maxLen; omega)
              have Hb2 := Lib.hid (show (out.length + 1) * 8 ≤ 140737488355328 by omega)
              have Hsz : Hid (w1.heap.size = wo.heap.size) := by unfold Hid; rw [Hq1.out.size]
              have hsw := hb.size
              go_wp2_with (at_builtin; go_must (refine wpList_append_F rfl (.tmp 29) (.tmp 31) 24 rfl 3 (.int .i64 0) 8 Try.underlying24 info_int rfl w.heap.size wo.heap.size _ out.length (iv out) rfl ((Ho1.out.below (below_alloc _ _)).fn) (by have := Hsz.out; simp; omega) (by have := Hsz.out; simp; omega) _ _ _ rfl (rd_one _ _ _ rfl) (fun j _ => rfl) Hb1.out Hb2.out ?_; intro v' w' ho' hg'))
              have hsw' := hg'.size
              simp only [size_alloc] at hsw'
              have hsz := Hsz.out
              have hblow : Below w.heap.size wo w' := (Hq1.out.below _).trans (((below_alloc w1 _).mono (by omega)).trans (grownBy_below hg' Ho1.out.fn.blocks (Nat.le_refl _) (by simp; omega)))
              go_roundg (c.length - (k + 1))
              case measure => omega
              case rel =>
                refine ⟨k + 1, by omega, rfl, by go_num, hb.trans hblow, ?_⟩
                rw [E2.out, ← Hg2.out]
                refine OwnF.ints ?_
                rw [List.length_append]
                exact ho'.congr fun j hj => by
                  by_cases h : j < out.length
                  · simp [h, iv, List.getD_eq_getElem?_getD, List.getElem?_append_left h]
                  · have : j = out.length := by omega
                    subst this
                    simp [iv, List.getD_eq_getElem?_getD]
            · have hg2 : decGo out (c.length - (v + 1)) (v + 1) (left - 1) = decGo out c.length 0 X := by
                rw [← hg.out, show c.length - v = (c.length - (v + 1)) + 1 by omega]
                simp [decGo, hmem, hl0]
              have Hg2 := Lib.hid hg2
              clear hc hg hg2 hmem
              go_wp2_with fail
              refine Hc.out.mono ?_
              rintro e w1 ⟨rfl, hq1⟩
              go_wp2_with fail
              go_roundg (c.length - (v + 1))
              case measure => omega
              case rel => exact ⟨left - 1, v + 1, by omega, by omega, rfl, rfl, by go_num, by go_num, hq.trans hq1, Hg2.out⟩
        · have hv2 : v = c.length := by omega
          subst hv2
          have hg2 : out = decGo out c.length 0 X := by
            rw [← hg.out, Nat.sub_self]; rfl
          have Hg2 := Lib.hid hg2
          clear hg hg2
          go_wp2_with fail
          go_roundg (c.length - (k + 1))
          case measure => omega
          case rel =>
            refine ⟨k + 1, by omega, rfl, by go_num, hb.trans (hq.below _), ?_⟩
            rw [E2.out, ← Hg2.out, hq.size]
            exact Ho.out.below (hq.below _)
    · go_wp2
      go_ret
      obtain rfl : k = c.length := by omega
      rw [List.take_length] at ho
      exact ⟨_, rfl, ho, hb⟩

end Go.Proofs.Ytpfefjdefopccaa

namespace Go.Proofs.Ytpfefjdefopccaa
set_option linter.all false
open Go.RowKit

/-- the identity of n -/
def idL (n : Nat) : List Int := (List.range n).map fun (i : Nat) => (i : Int)
theorem idL_length (n : Nat) : (idL n).length = n := by simp [idL]
theorem idL_getD {n i : Nat} (h : i < n) : (idL n).getD i 0 = i := by simp [idL, List.getD_eq_getElem?_getD, h]
theorem idL_succ (n : Nat) : idL (n + 1) = idL n ++ [(n : Int)] := by simp [idL, List.range_succ]
theorem idL_ok {n : Nat} (h1 : 1 ≤ n) (h7 : n ≤ 7) : permOk (idL n) = true := by
  have : n = 1 ∨ n = 2 ∨ n = 3 ∨ n = 4 ∨ n = 5 ∨ n = 6 ∨ n = 7 := by omega
  rcases this with rfl | rfl | rfl | rfl | rfl | rfl | rfl <;> decide

set_option maxRecDepth 100000 in
set_option maxHeartbeats 2000000 in
theorem specIdentity_any (n : Nat) (w : World) (h1 : 1 ≤ n) (h7 : n ≤ 7) :
    Calls Try.prog 34 #[.int .i64 (n : Int)] w (RetI w (idL n)) := by
  have hin : Hid ((1 : Int) ≤ n ∧ (n : Int) ≤ 7) := ⟨by omega, by omega⟩
  go_enter Try.func34, Try.ntmps34
  go_wp2_with fail
  refine (l1In_yes _ _ _ _ hin.out).mono ?_
  rintro e w' ⟨rfl, rfl⟩
  go_wp2_with fail
  go_loopg [3, 4] n (fun g s3 s4 wr => ∃ i : Nat, i ≤ n ∧ g = n - i ∧ s4 = .int .i64 i ∧ Hid (Below w.heap.size w wr) ∧ Hid (OwnI 3 wr w.heap.size wr.heap.size s3 (idL i)))
  case atStart =>
    refine ⟨0, Nat.zero_le _, rfl, rfl, below_alloc w _, ?_⟩
    exact OwnF.ints ((OwnF.made0 w 3 (iv [])).mono (Nat.le_refl _) (by simp))
  case round =>
    obtain ⟨i, hi, rfl, rfl, hb, ho⟩ := hrel
    have hsr := hb.out.size
    by_cases hlt : i < n
    · have hlt2 : (i : Int) < (n : Int) := by omega
      obtain ⟨p5, k5, rfl, _, _⟩ := ho.out.shape
      have hofn := ho.out.fn
      rw [idL_length] at hofn ⊢
      have Ho := Lib.hid hofn
      have Hb := Lib.hid hb.out
      have Hb1 := Lib.hid (show i + 1 ≤ maxLen by unfold maxLen; omega)
      have Hb2 := Lib.hid (show (i + 1) * 8 ≤ 140737488355328 by omega)
      clear ho hofn hb
      go_wp2_with (at_builtin; go_must (refine wpList_append_F rfl (.tmp 14) (.tmp 16) 24 rfl 3 (.int .i64 0) 8 Try.underlying24 info_int rfl w.heap.size wr.heap.size _ i (iv (idL i)) rfl (Ho.out.below (below_alloc wr _)) (by rw [size_alloc]; omega) (by rw [size_alloc]; omega) _ 1 _ rfl (rd_one _ _ _ rfl) (fun j _ => rfl) Hb1.out Hb2.out ?_; intro v2 w2 ho2 hg2))
      go_roundg (n - (i + 1))
      case measure => omega
      case rel =>
        have hbx : Below w.heap.size wr w2 := ((below_alloc wr _).mono (by omega)).trans (grownBy_below hg2 Ho.out.blocks (Nat.le_refl _) (by rw [size_alloc]; omega))
        refine ⟨i + 1, by omega, rfl, by go_num, Hb.out.trans hbx, ?_⟩
        rw [idL_succ]
        exact OwnI.snoc1 (by rw [idL_length]; exact ho2)
    · obtain rfl : i = n := by omega
      have hlt2 : ¬ (i : Int) < (i : Int) := by omega
      have Ho := Lib.hid ho.out
      have Hb := Lib.hid hb.out
      clear ho hb
      go_wp2_with fail
      go_ret
      exact ⟨_, rfl, Ho.out, Hb.out⟩


end Go.Proofs.Ytpfefjdefopccaa

namespace Go.Proofs.Ytpfefjdefopccaa
set_option linter.all false
open Go.RowKit

/-- all codes of m places -/
def codes : Nat → List (List Nat)
  | 0 => [[]]
  | m + 1 => (List.range (m + 1)).flatMap fun x => (codes m).map (x :: ·)
theorem mem_codes : ∀ (m : Nat) (c : List Nat), c.length = m → (∀ j, j < m → c.getD j 0 < m - j) → c ∈ codes m
  | 0, c, hl, _ => by
    obtain rfl := List.eq_nil_of_length_eq_zero hl
    simp [codes]
  | m + 1, [], hl, _ => by simp at hl
  | m + 1, x :: c, hl, h => by
    have h0 := h 0 (by omega)
    have ih := mem_codes m c (by simpa using hl) fun j hj => by
      have := h (j + 1) (by omega)
      simp at this ⊢
      omega
    unfold codes
    refine List.mem_flatMap.2 ⟨x, by simpa using h0, List.mem_map.2 ⟨c, ih, rfl⟩⟩
theorem decL_ok {n : Nat} (h1 : 1 ≤ n) (h5 : n ≤ 5) (c : List Nat) (hl : c.length = n) (h : ∀ j, j < n → c.getD j 0 < n - j) : permOk (decL n c) = true ∧ (decL n c).length = n := by
  have hc := mem_codes n c hl h
  have key : ∀ c ∈ codes n, permOk (decL n c) = true ∧ (decL n c).length = n := by
    have : n = 1 ∨ n = 2 ∨ n = 3 ∨ n = 4 ∨ n = 5 := by omega
    rcases this with rfl | rfl | rfl | rfl | rfl <;> decide +kernel
  exact key c hc

set_option maxRecDepth 100000 in
set_option maxHeartbeats 2000000 in
/-- any permutation of n -/
theorem dPerm_any (k n : Nat) (w : World) (h : Cur w k) (h1 : 1 ≤ n) (h5 : n ≤ 5) :
    Calls Try.prog 33 #[.pointer (some ⟨k, 0, none⟩), .int .i64 (n : Int)] w fun e w' =>
      ∃ (u : Value) (xs : List Int), e = .returned u ∧ OwnI 3 w' w.heap.size w'.heap.size u xs ∧ permOk xs = true ∧ xs.length = n ∧ Cur w' k ∧ Frm k (k + 1) w w' := by
  have Hc := Lib.hid h
  have hk := h.lt
  clear h
  go_enter Try.func33, Try.ntmps33
  go_wp2_with fail
  go_loopg [5, 6] n (fun g s5 s6 wr => ∃ (i : Nat) (cs : List Nat), i ≤ n ∧ g = n - i ∧ s6 = .int .i64 i ∧ cs.length = i ∧ Hid (∀ j, j < i → cs.getD j 0 < n - j) ∧ Hid (OwnI 3 wr w.heap.size wr.heap.size s5 (cs.map Int.ofNat)) ∧ Hid (Cur wr k) ∧ Hid (Frm k (k + 1) w wr))
  case atStart =>
    refine ⟨0, [], Nat.zero_le _, rfl, rfl, rfl, fun j hj => absurd hj (Nat.not_lt_zero _), ?_, Hc.out.below (below_alloc w _), Frm.of_below (below_alloc w _) _ _⟩
    exact OwnF.ints ((OwnF.made0 w 3 (iv [])).mono (Nat.le_refl _) (by simp))
  case round =>
    obtain ⟨i, cs, hi, rfl, rfl, hcl, hcd, ho, hcu, hf⟩ := hrel
    have hsr := hf.out.size
    by_cases hlt : i < n
    · have hlt2 : (i : Int) < (n : Int) := by omega
      have hsub : (n : Int) - (i : Int) = ((n - i : Nat) : Int) := by omega
      have Hsub := Lib.hid hsub
      obtain ⟨p5, k5, rfl, _, _⟩ := ho.out.shape
      have hofn := ho.out.fn
      have hml : (cs.map Int.ofNat).length = i := by rw [List.length_map, hcl]
      rw [hml] at hofn ⊢
      have Ho := Lib.hid hofn
      have Hml := Lib.hid hml
      have Hcl := Lib.hid hcl
      have Hcd := Lib.hid hcd.out
      have Hcu := Lib.hid hcu.out
      have Hf := Lib.hid hf.out
      have Hb1 := Lib.hid (show i + 1 ≤ maxLen by unfold maxLen; omega)
      have Hb2 := Lib.hid (show (i + 1) * 8 ≤ 140737488355328 by omega)
      clear hsub ho hofn hml hcl hcd hcu hf
      go_wp2_with fail
      rw [Hsub.out]
      refine (l1Below_any k (n - i) _ Hcu.out (by omega) (by omega)).mono ?_
      rintro e w1 ⟨x, rfl, hx, hc1, hf1⟩
      have hs1 := hf1.size
      have Ho1 := Lib.hid (Ho.out.frm hf1 (Or.inr (by omega)))
      have Hc1 := Lib.hid hc1
      have Hf1 := Lib.hid (Hf.out.trans hf1)
      clear hc1 hf1
      go_wp2_with (at_builtin; go_must (refine wpList_append_F rfl (.tmp 13) (.tmp 19) 24 rfl 3 (.int .i64 0) 8 Try.underlying24 info_int rfl w.heap.size wr.heap.size _ i (iv (cs.map Int.ofNat)) rfl (Ho1.out.below (below_alloc w1 _)) (by rw [size_alloc]; omega) (by rw [size_alloc]; omega) _ 1 _ rfl (rd_one _ _ _ rfl) (fun j _ => rfl) Hb1.out Hb2.out ?_; intro v2 w2 ho2 hg2))
      go_roundg (n - (i + 1))
      case measure => omega
      case rel =>
        have hbx : Below w.heap.size w1 w2 := ((below_alloc w1 _).mono (by omega)).trans (grownBy_below hg2 Ho1.out.blocks (Nat.le_refl _) (by rw [size_alloc]; omega))
        refine ⟨i + 1, cs ++ [x], by omega, rfl, by go_num, by rw [List.length_append, Hcl.out]; rfl, fun j hj => ?_, ?_, Hc1.out.keepB hbx hk, Hf1.out.thenB hbx (Nat.le_refl _)⟩
        · by_cases e : j < i
          · have := Hcd.out j e
            rwa [List.getD_eq_getElem?_getD, List.getElem?_append_left (by rw [Hcl.out]; exact e), ← List.getD_eq_getElem?_getD]
          · obtain rfl : j = i := by omega
            rw [List.getD_eq_getElem?_getD, List.getElem?_append_right (by rw [Hcl.out]; exact Nat.le_refl _), Hcl.out]
            simpa using hx
        · rw [List.map_append]
          exact OwnI.snoc1 (by rw [Hml.out]; exact ho2)
    · obtain rfl : i = n := by omega
      have hlt2 : ¬ (i : Int) < (i : Int) := by omega
      obtain ⟨p5, k5, rfl, _, _⟩ := ho.out.shape
      have hoi := ho.out.ints
      have hml : (cs.map Int.ofNat).length = i := by rw [List.length_map, hcl]
      rw [hml] at hoi ⊢
      have Ho := Lib.hid hoi
      have Hcl := Lib.hid hcl
      have Hcd := Lib.hid hcd.out
      have Hcu := Lib.hid hcu.out
      have Hf := Lib.hid hf.out
      clear ho hcl hcd hcu hf hoi hml
      go_wp2_with fail
      refine (specDecode_any _ cs _ Ho.out (by rw [Hcl.out]; omega) (fun x hx => ?_)).mono ?_
      · obtain ⟨j, hj, rfl⟩ := List.mem_iff_getElem.1 hx
        have := Hcd.out j (by rw [← Hcl.out]; exact hj)
        rw [List.getD_eq_getElem?_getD, List.getElem?_eq_getElem hj] at this
        simp at this
        omega
      · rintro e w1 ⟨u, rfl, ho1, hb1⟩
        obtain ⟨g1, g2⟩ := decL_ok h1 h5 cs Hcl.out Hcd.out
        rw [Hcl.out] at ho1
        have G1 := Lib.hid g1
        have G2 := Lib.hid g2
        have Ho1 := Lib.hid ho1
        have Hb1 := Lib.hid hb1
        clear g1 g2 ho1 hb1
        go_wp2_with fail
        go_ret
        exact ⟨u, _, rfl, Ho1.out.mono hsr (Nat.le_refl _), G1.out, G2.out, Hcu.out.below Hb1.out, Hf.out.thenB Hb1.out hsr⟩

end Go.Proofs.Ytpfefjdefopccaa

namespace Go.Proofs.Ytpfefjdefopccaa
set_option linter.all false
open Go.RowKit

end Go.Proofs.Ytpfefjdefopccaa

namespace Go.Proofs.Ytpfefjdefopccaa
set_option linter.all false
open Go.RowKit

/-! ### triangular matrices -/
theorem set_mf {n i j r s : Nat} {D : List Int} {x : Int} (hl : D.length = n * n) (hi : i < n) (hj : j < n) (hr : r < n) (hs : s < n) :
    mf n (fun t => (D.set (i * n + j) x).getD t 0) r s = if r = i ∧ s = j then x else mf n (fun t => D.getD t 0) r s := by
  have h1 := flat_ltW hi hj
  have h2 := flat_ltW hr hs
  unfold mf
  show (D.set (i * n + j) x).getD (r * n + s) 0 = _
  by_cases e : r = i ∧ s = j
  · obtain ⟨rfl, rfl⟩ := e
    rw [if_pos ⟨rfl, rfl⟩]
    simp [List.getD_eq_getElem?_getD, hl, h1]
  · rw [if_neg e]
    have : ¬ i * n + j = r * n + s := fun h => by
      have a := div_at (k := i) hj
      have b := div_at (k := r) hs
      rw [h] at a
      exact e ⟨by omega, by omega⟩
    simp [List.getD_eq_getElem?_getD, List.getElem?_set_ne this]
theorem set_rng {P x : Int} {D : List Int} (h : ∀ y ∈ D, 0 ≤ y ∧ y < P) (hx : 0 ≤ x ∧ x < P) (t : Nat) : ∀ y ∈ D.set t x, 0 ≤ y ∧ y < P := fun y hy => by
  rcases List.mem_or_eq_of_mem_set hy with h1 | rfl
  · exact h y h1
  · exact hx
/-- 0 above the diagonal, none on it -/
def LowOk (P : Int) (n : Nat) (D : List Int) : Prop := D.length = n * n ∧ (∀ y ∈ D, 0 ≤ y ∧ y < P) ∧ (∀ i, i < n → 1 ≤ mf n (fun t => D.getD t 0) i i) ∧ ∀ i j, i < j → j < n → mf n (fun t => D.getD t 0) i j = 0
/-- 0 below the diagonal, 1 on it -/
def HighOk (P : Int) (n : Nat) (D : List Int) : Prop := D.length = n * n ∧ (∀ y ∈ D, 0 ≤ y ∧ y < P) ∧ (∀ i, i < n → mf n (fun t => D.getD t 0) i i = 1) ∧ ∀ i j, j < i → i < n → mf n (fun t => D.getD t 0) i j = 0
theorem LowOk.set {P x : Int} {n i j : Nat} {D : List Int} (h : LowOk P n D) (hi : i < n) (hj : j ≤ i) (hx : 0 ≤ x ∧ x < P) (hd : j = i → 1 ≤ x) : LowOk P n (D.set (i * n + j) x) := by
  obtain ⟨h1, h2, h3, h4⟩ := h
  refine ⟨by rw [List.length_set]; exact h1, set_rng h2 hx _, fun r hr => ?_, fun r s hrs hs => ?_⟩
  · rw [set_mf h1 hi (by omega) hr hr]
    split
    · exact hd (by omega)
    · exact h3 r hr
  · rw [set_mf h1 hi (by omega) (by omega) hs, if_neg (by omega)]
    exact h4 r s hrs hs
theorem HighOk.set {P x : Int} {n i j : Nat} {D : List Int} (h : HighOk P n D) (hi : i < n) (hj : j < i) (hx : 0 ≤ x ∧ x < P) : HighOk P n (D.set (j * n + i) x) := by
  obtain ⟨h1, h2, h3, h4⟩ := h
  refine ⟨by rw [List.length_set]; exact h1, set_rng h2 hx _, fun r hr => ?_, fun r s hrs hs => ?_⟩
  · rw [set_mf h1 (by omega) hi hr hr, if_neg (by omega)]
    exact h3 r hr
  · rw [set_mf h1 (by omega) hi hs (by omega), if_neg (by omega)]
    exact h4 r s hrs hs
theorem permRows_mf {n : Nat} {xs : List Int} (hl : xs.length = n) {i j : Nat} (hi : i < n) (hj : j < n) : mf n (fun t => (permRows xs).flatten.getD t 0) i j = if (j : Int) = xs.getD i 0 then 1 else 0 := by
  obtain ⟨d1, d2⟩ := div_at (k := i) hj
  have h := flat_ltW hi hj
  unfold mf
  show (permRows xs).flatten.getD (i * n + j) 0 = _
  rw [permRows_flat_getD (by rw [hl]; exact h), hl, d1, d2]
theorem permRows_rng {P : Int} (hP : 2 ≤ P) (xs : List Int) : ∀ y ∈ (permRows xs).flatten, 0 ≤ y ∧ y < P := fun y hy => by
  obtain ⟨t, ht, rfl⟩ := List.mem_iff_getElem.1 hy
  have hl : t < xs.length * xs.length := by rwa [permRows_flat_length] at ht
  have := permRows_flat_getD hl
  rw [getD_lt ht] at this
  rw [this]
  split <;> omega
theorem id_low {P : Int} {n : Nat} (hP : 2 ≤ P) : LowOk P n (permRows (idL n)).flatten := by
  refine ⟨by rw [permRows_flat_length, idL_length], permRows_rng hP _, fun i hi => ?_, fun i j hij hj => ?_⟩
  · rw [permRows_mf (idL_length n) hi hi, idL_getD hi, if_pos rfl]; omega
  · rw [permRows_mf (idL_length n) (by omega) hj, idL_getD (by omega), if_neg (by omega)]
theorem id_high {P : Int} {n : Nat} (hP : 2 ≤ P) : HighOk P n (permRows (idL n)).flatten := by
  refine ⟨by rw [permRows_flat_length, idL_length], permRows_rng hP _, fun i hi => ?_, fun i j hij hj => ?_⟩
  · rw [permRows_mf (idL_length n) hi hi, idL_getD hi, if_pos rfl]
  · rw [permRows_mf (idL_length n) hj (by omega), idL_getD hj, if_neg (by omega)]
theorem LowOk.indep {P : Int} {n : Nat} {D : List Int} (hp : primeOk P = true) (h : LowOk P n D) : Indep P n n (mf n fun t => D.getD t 0) := by
  obtain ⟨hP, _⟩ := primeOk_range hp
  refine indep_low (fun i hi => unit_of hp (by have := h.2.2.1 i hi; omega) ?_) h.2.2.2
  exact (getD_range h.2.1 (by omega) _).2
theorem HighOk.indep {P : Int} {n : Nat} {D : List Int} (h : HighOk P n D) : Indep P n n (mf n fun t => D.getD t 0) := by
  refine indep_up (fun i hi => ⟨1, ?_⟩) h.2.2.2
  rw [h.2.2.1 i hi]; simp
/-- the matrix of a permutation -/
theorem perm_indep {P : Int} {xs : List Int} (hp : permOk xs = true) : Indep P xs.length xs.length (mf xs.length fun t => (permRows xs).flatten.getD t 0) := by
  obtain ⟨_, _, hr, hn⟩ := of_decide_eq_true hp
  refine indep_perm (q := fun i => (xs.getD i 0).toNat) (fun i hi => by have := hr _ (getD_mem hi); omega) fun i k hi hk => ?_
  have h1 := hr _ (getD_mem hk)
  rw [permRows_mf rfl hi (by omega), Int.toNat_of_nonneg h1.1]
  by_cases e : i = k
  · subst e; simp
  · rw [if_neg e, if_neg]
    intro h
    refine e ?_
    have a : xs.getD k 0 = xs[k] := getD_lt hk
    have b : xs.getD i 0 = xs[i] := getD_lt hi
    rw [a, b] at h
    rcases Nat.lt_trichotomy i k with c | c | c
    · exact absurd h.symm (List.pairwise_iff_getElem.1 hn i k hi hk c)
    · exact c
    · exact absurd h (List.pairwise_iff_getElem.1 hn k i hk hi c)
/-- low, times a permutation's matrix, times high: a flag -/
theorem draw_flag {P : Int} {n : Nat} {L H xs : List Int} (hp : primeOk P = true) (h1 : 1 ≤ n) (h7 : n ≤ 7) (hL : LowOk P n L) (hH : HighOk P n H) (hx : permOk xs = true) (hl : xs.length = n) :
    ∃ D D', mulMx ⟨P, n, n, L⟩ ⟨P, n, n, (permRows xs).flatten⟩ = ⟨P, n, n, D⟩ ∧ mulMx ⟨P, n, n, D⟩ ⟨P, n, n, H⟩ = ⟨P, n, n, D'⟩ ∧ IsFl P n n D' := by
  obtain ⟨hP, _⟩ := primeOk_range hp
  have ok : ∀ D : List Int, D.length = n * n → (∀ y ∈ D, 0 ≤ y ∧ y < P) → mxOk P n n D = true := fun D hD hr => by
    unfold mxOk
    exact decide_eq_true ⟨hp, by omega, by omega, by rw [hD]; push_cast; rfl, hr⟩
  obtain ⟨D, e1, _, l1, r1, m1⟩ := mul_sq (ok L hL.1 hL.2.1) (ok (permRows xs).flatten (by rw [permRows_flat_length, hl]) (permRows_rng hP _))
  obtain ⟨D', e2, _, l2, r2, m2⟩ := mul_sq (ok D l1 r1) (ok H hH.1 hH.2.1)
  refine ⟨D, D', e1, e2, isFl_of hp h1 h7 l2 r2 ?_⟩
  have i1 : Indep P n n (mf n fun t => D.getD t 0) := ((hL.indep hp).mul (by have := perm_indep (P := P) hx; rwa [hl] at this)).eqv fun i j hi hj => by rw [m1 i j hi hj]; exact emod_dvd _ _
  exact (i1.mul hH.indep).eqv fun i j hi hj => by rw [m2 i j hi hj]; exact emod_dvd _ _

/-! ### what holds in the loops -/
theorem OwnI.setAt {T : TypeId} {w : World} {lo hi g n cap t : Nat} {D : List Int} (h : OwnI T w lo hi (.slice (some ⟨g, 0, none⟩) n cap) D) (ht : t < D.length) (x : Int) : OwnI T (w.setCell ⟨g, t, none⟩ (.int .i64 x)) lo hi (.slice (some ⟨g, 0, none⟩) n cap) (D.set t x) := by
  refine OwnF.ints ?_
  rw [List.length_set]
  refine (h.fn.set t _).congr fun j hj => ?_
  unfold iv
  by_cases e : j = t
  · subst e; simp [List.getD_eq_getElem?_getD, ht]
  · simp [e, List.getD_eq_getElem?_getD, List.getElem?_set_ne (fun h => e h.symm)]
/-- the result's cell, the boxes of the permutation's matrix, of low, of high, what they hold, the cursor -/
structure FlS (w : World) (k : Nat) (P : Int) (n N bA bL bH gl kl gh kh la : Nat) (vA : Value) (DA : List Int) (wr : World) : Prop where
  z : wr.heap[w.heap.size]? = some (.cells #[.int .i64 0, .int .i64 0, .int .i64 0, .slice none 0 0] 26)
  a : wr.heap[bA]? = some (.cells #[.int .i64 P, .int .i64 (n : Int), .int .i64 (n : Int), vA] 26)
  l : wr.heap[bL]? = some (.cells #[.int .i64 P, .int .i64 (n : Int), .int .i64 (n : Int), .slice (some ⟨gl, 0, none⟩) N kl] 26)
  h : wr.heap[bH]? = some (.cells #[.int .i64 P, .int .i64 (n : Int), .int .i64 (n : Int), .slice (some ⟨gh, 0, none⟩) N kh] 26)
  oa : OwnI 3 wr la bA vA DA
  ol : ∃ DL, LowOk P n DL ∧ OwnI 3 wr gl (gl + 1) (.slice (some ⟨gl, 0, none⟩) N kl) DL
  oh : ∃ DH, HighOk P n DH ∧ OwnI 3 wr gh (gh + 1) (.slice (some ⟨gh, 0, none⟩) N kh) DH
  cu : Cur wr k
  fr : Frm k (k + 1) w wr
/-- where it lies -/
structure FlN (w : World) (k n N bA bL bH gl gh la : Nat) : Prop where
  k1 : k < w.heap.size
  a1 : w.heap.size < la
  a2 : la ≤ bA
  l1 : bA < gl
  l2 : gl < bL
  h1 : bL < gh
  h2 : gh < bH
  nn : N = n * n
section
variable {w : World} {k : Nat} {P : Int} {n N bA bL bH gl kl gh kh la : Nat} {vA : Value} {DA : List Int} {wr w1 : World}
theorem FlS.frm (h : FlS w k P n N bA bL bH gl kl gh kh la vA DA wr) (hn : FlN w k n N bA bL bH gl gh la) (hf : Frm k (k + 1) wr w1) (hc : Cur w1 k) : FlS w k P n N bA bL bH gl kl gh kh la vA DA w1 := by
  obtain ⟨a, b, c, d, e, ⟨DL, f1, f2⟩, ⟨DH, g1, g2⟩, _, j⟩ := h
  obtain ⟨k1, a1, a2, l1, l2, h1, h2, _⟩ := hn
  refine ⟨(hf.block _ (blk_lt a) (Or.inr (by omega))).trans a, (hf.block _ (blk_lt b) (Or.inr (by omega))).trans b, (hf.block _ (blk_lt c) (Or.inr (by omega))).trans c, (hf.block _ (blk_lt d) (Or.inr (by omega))).trans d,
    e.frm hf (Or.inr (by omega)), ⟨DL, f1, f2.frm hf (Or.inr (by omega))⟩, ⟨DH, g1, g2.frm hf (Or.inr (by omega))⟩, hc, j.trans hf⟩
theorem FlS.drewN (h : FlS w k P n N bA bL bH gl kl gh kh la vA DA wr) (hn : FlN w k n N bA bL bH gl gh la) (q : Nat) : FlS w k P n N bA bL bH gl kl gh kh la vA DA (wr.drewN q) :=
  h.frm hn ((Frm.refl _ _ _).drewN q) (h.cu.below (Below.of_drewN _ _))
theorem FlS.setL (h : FlS w k P n N bA bL bH gl kl gh kh la vA DA wr) (hn : FlN w k n N bA bL bH gl gh la) {i j t : Nat} {x : Int} (ht : t = i * n + j) (hi : i < n) (hj : j ≤ i) (hx : 0 ≤ x ∧ x < P) (hd : j = i → 1 ≤ x) :
    FlS w k P n N bA bL bH gl kl gh kh la vA DA (wr.setCell ⟨gl, t, none⟩ (.int .i64 x)) := by
  subst ht
  obtain ⟨a, b, c, d, e, ⟨DL, f1, f2⟩, ⟨DH, g1, g2⟩, cu, jf⟩ := h
  obtain ⟨k1, a1, a2, l1, l2, h1, h2, _⟩ := hn
  have hl := flat_ltW hi (show j < n by omega)
  refine ⟨(Below.heap_setCell _ _ _ _ (by show _ ≠ gl; omega)).trans a, (Below.heap_setCell _ _ _ _ (by show _ ≠ gl; omega)).trans b, (Below.heap_setCell _ _ _ _ (by show _ ≠ gl; omega)).trans c, (Below.heap_setCell _ _ _ _ (by show _ ≠ gl; omega)).trans d,
    e.setCell (Or.inr (by show bA ≤ gl; omega)) _, ⟨_, f1.set hi hj hx hd, f2.setAt (by rw [f1.1]; exact hl) x⟩, ⟨DH, g1, g2.setCell (Or.inl (by show gl < gh; omega)) _⟩, ?_, ?_⟩
  · exact cu.keepB ((Below.refl w.heap.size wr).setCell (by show w.heap.size ≤ gl; omega) _) k1
  · exact jf.thenB ((Below.refl w.heap.size wr).setCell (by show w.heap.size ≤ gl; omega) _) (Nat.le_refl _)
theorem FlS.setH (h : FlS w k P n N bA bL bH gl kl gh kh la vA DA wr) (hn : FlN w k n N bA bL bH gl gh la) {i j t : Nat} {x : Int} (ht : t = j * n + i) (hi : i < n) (hj : j < i) (hx : 0 ≤ x ∧ x < P) :
    FlS w k P n N bA bL bH gl kl gh kh la vA DA (wr.setCell ⟨gh, t, none⟩ (.int .i64 x)) := by
  subst ht
  obtain ⟨a, b, c, d, e, ⟨DL, f1, f2⟩, ⟨DH, g1, g2⟩, cu, jf⟩ := h
  obtain ⟨k1, a1, a2, l1, l2, h1, h2, _⟩ := hn
  have hl := flat_ltW (show j < n by omega) hi
  refine ⟨(Below.heap_setCell _ _ _ _ (by show _ ≠ gh; omega)).trans a, (Below.heap_setCell _ _ _ _ (by show _ ≠ gh; omega)).trans b, (Below.heap_setCell _ _ _ _ (by show _ ≠ gh; omega)).trans c, (Below.heap_setCell _ _ _ _ (by show _ ≠ gh; omega)).trans d,
    e.setCell (Or.inr (by show bA ≤ gh; omega)) _, ⟨DL, f1, f2.setCell (Or.inr (by show gl + 1 ≤ gh; omega)) _⟩, ⟨_, g1.set hi hj hx, g2.setAt (by rw [g1.1]; exact hl) x⟩, ?_, ?_⟩
  · exact cu.keepB ((Below.refl w.heap.size wr).setCell (by show w.heap.size ≤ gh; omega) _) k1
  · exact jf.thenB ((Below.refl w.heap.size wr).setCell (by show w.heap.size ≤ gh; omega) _) (Nat.le_refl _)
theorem FlS.cellL (h : FlS w k P n N bA bL bH gl kl gh kh la vA DA wr) (hn : FlN w k n N bA bL bH gl gh la) {t : Nat} (ht : t < N) : ∃ z, wr.cell? ⟨gl, t, none⟩ = some (.int .i64 z) := by
  obtain ⟨_, _, _, _, _, ⟨DL, f1, f2⟩, _⟩ := h
  exact ⟨_, f2.fn.cell (by rw [f1.1, ← hn.nn]; exact ht)⟩
theorem FlS.frzL (h : FlS w k P n N bA bL bH gl kl gh kh la vA DA wr) (t : Nat) : wr.frozen? ⟨gl, t, none⟩ = false := by
  obtain ⟨_, _, _, _, _, ⟨DL, f1, f2⟩, _⟩ := h
  exact f2.fn.frozen t
theorem FlS.cellH (h : FlS w k P n N bA bL bH gl kl gh kh la vA DA wr) (hn : FlN w k n N bA bL bH gl gh la) {t : Nat} (ht : t < N) : ∃ z, wr.cell? ⟨gh, t, none⟩ = some (.int .i64 z) := by
  obtain ⟨_, _, _, _, _, _, ⟨DH, f1, f2⟩, _⟩ := h
  exact ⟨_, f2.fn.cell (by rw [f1.1, ← hn.nn]; exact ht)⟩
theorem FlS.frzH (h : FlS w k P n N bA bL bH gl kl gh kh la vA DA wr) (t : Nat) : wr.frozen? ⟨gh, t, none⟩ = false := by
  obtain ⟨_, _, _, _, _, _, ⟨DH, f1, f2⟩, _⟩ := h
  exact f2.fn.frozen t
theorem FlS.cur (h : FlS w k P n N bA bL bH gl kl gh kh la vA DA wr) : Cur wr k := h.cu
end

end Go.Proofs.Ytpfefjdefopccaa

namespace Go.Proofs.Ytpfefjdefopccaa
set_option linter.all false
open Go.RowKit

theorem Nf.congr {P : Int} {n m : Nat} {X X' : Nat → Nat → Int} {q : Nat → Nat} (h : Nf P n X q m) (e : ∀ i j, i < m → j < n → X' i j = X i j) : Nf P n X' q m :=
  ⟨h.lt, fun k j hk hj => by rw [e k j hk (by have := h.lt k hk; omega)]; exact h.zero k j hk hj, fun k hk => by rw [e k _ hk (h.lt k hk)]; exact h.one k hk,
    fun k l hk hl => by rw [e k _ hk (h.lt l (by omega))]; exact h.early k l hk hl, fun k j hk hj => by rw [e k j hk hj]; exact h.rng k j hk hj⟩

/-- the permutation of a flag -/
def qL (n : Nat) (q : Nat → Nat) : List Int := (List.range n).map fun k => (q k : Int)
theorem qL_length (n : Nat) (q : Nat → Nat) : (qL n q).length = n := by simp [qL]
theorem qL_getD {n k : Nat} {q : Nat → Nat} (h : k < n) : (qL n q).getD k 0 = q k := by simp [qL, List.getD_eq_getElem?_getD, h]
theorem qL_congr {n : Nat} {q q' : Nat → Nat} (h : ∀ k, k < n → q k = q' k) : qL n q = qL n q' :=
  List.map_congr_left fun k hk => by rw [h k (List.mem_range.1 hk)]
theorem qL_ok {P : Int} {n : Nat} {X : Nat → Nat → Int} {q : Nat → Nat} (h : Nf P n X q n) (h1 : 1 ≤ n) (h7 : n ≤ 7) : permOk (qL n q) = true := by
  unfold permOk
  refine decide_eq_true ⟨by rw [qL_length]; exact h1, by rw [qL_length]; exact h7, fun x hx => ?_, ?_⟩
  · obtain ⟨k, hk, rfl⟩ := List.mem_map.1 hx
    have := h.lt k (List.mem_range.1 hk)
    rw [qL_length]; omega
  · unfold qL
    refine List.Pairwise.map _ (R := fun a b => a ≠ b ∧ a < n ∧ b < n) ?_ ?_
    · rintro a b ⟨hne, ha, hb⟩ e
      exact hne (h.inj ha hb (Int.ofNat.inj e))
    · refine List.Pairwise.imp_of_mem (R := fun a b => a ≠ b) ?_ List.nodup_range
      intro a b ha hb hne
      exact ⟨hne, List.mem_range.1 ha, List.mem_range.1 hb⟩

variable {P : Int} {n : Nat} {D : List Int} {X : Nat → Nat → Int} {q : Nat → Nat}
theorem NfOf.nfF (hP : 2 ≤ P) (h : NfOf P n D X q) : Nf P n (mf n fun t => (flatM n n X).getD t 0) q n := (h.up.nf hP).congr fun i j hi hj => mf_flatM hi hj
theorem NfOf.again (hf : IsFl P n n D) (h : NfOf P n D X q) {m : Mx} {ok : Bool} (h2 : NfIs P n n (flatM n n X) m ok) : ok = true ∧ m = ⟨P, n, n, flatM n n X⟩ := by
  obtain ⟨_, _, _, _, _, _, _, hP, _⟩ := hf.facts
  obtain ⟨e, X', q', h3, rfl⟩ := NfIs.of (h.fl hf) h2
  refine ⟨e, ?_⟩
  have h4 := (NfUp.own hP (h.nfF hP) h3.up).2
  rw [flatM_congr (M := X') (M' := X) fun i j hi hj => by rw [← h4 i j hi hj, mf_flatM hi hj]]
theorem NfOf.againP (hf : IsFl P n n D) (h : NfOf P n D X q) {l : List Int} (h2 : FpIs P n n (flatM n n X) l) : l = qL n q := by
  obtain ⟨_, _, _, _, _, _, _, hP, _⟩ := hf.facts
  obtain ⟨X', q', h3, rfl⟩ := FpIs.of (h.fl hf) h2
  exact (qL_congr (NfUp.own hP (h.nfF hP) h3.up).1).symm
theorem NfOf.perm (hf : IsFl P n n D) (h : NfOf P n D X q) {l : List Int} (h2 : FpIs P n n D l) : l = qL n q := by
  obtain ⟨_, _, _, _, _, _, _, hP, _⟩ := hf.facts
  obtain ⟨X', q', h3, rfl⟩ := FpIs.of hf h2
  exact (qL_congr (NfUp.fix hP h.up h3.up fun i _ => .refl).1).symm
theorem NfOf.ok (hf : IsFl P n n D) (h : NfOf P n D X q) : permOk (qL n q) = true := by
  obtain ⟨m, _, e, hn0, hn7, _, _, hP, _⟩ := hf.facts
  obtain rfl := Int.ofNat.inj e
  exact qL_ok (h.up.nf hP) hn0 hn7
/-- the matrix of the permutation is a flag in normal form -/
theorem NfOf.pm (hf : IsFl P n n D) (h : NfOf P n D X q) : permMx P (qL n q) = ⟨P, n, n, (permRows (qL n q)).flatten⟩ := by
  obtain ⟨m, _, e, hn0, hn7, _, _, hP, _, hp, _⟩ := hf.facts
  rw [permMx_yes hp (h.ok hf), qL_length]
theorem NfOf.pmFl (hf : IsFl P n n D) (h : NfOf P n D X q) : IsFl P n n (permRows (qL n q)).flatten := by
  obtain ⟨m, _, e, hn0, hn7, _, _, hP, _, hp, _⟩ := hf.facts
  obtain rfl := Int.ofNat.inj e
  refine isFl_of hp hn0 hn7 (by rw [permRows_flat_length, qL_length]) (permRows_rng hP _) ?_
  have := perm_indep (P := P) (h.ok hf)
  rwa [qL_length] at this
theorem NfOf.pmP (hf : IsFl P n n D) (h : NfOf P n D X q) {l : List Int} (h2 : FpIs P n n (permRows (qL n q)).flatten l) : l = qL n q := by
  obtain ⟨_, _, _, _, _, _, _, hP, _⟩ := hf.facts
  obtain ⟨X', q', h3, rfl⟩ := FpIs.of (h.pmFl hf) h2
  have g := h.up.nf hP
  have e : ∀ i j, i < n → j < n → mf n (fun t => (permRows (qL n q)).flatten.getD t 0) i j = if j = q i then 1 else 0 := fun i j hi hj => by
    rw [permRows_mf (qL_length n q) hi hj, qL_getD hi]
    by_cases c : j = q i
    · rw [if_pos c, if_pos (by rw [c])]
    · rw [if_neg c, if_neg (by omega)]
  have hN : Nf P n (mf n fun t => (permRows (qL n q)).flatten.getD t 0) q n := by
    refine ⟨g.lt, fun k j hk hj => ?_, fun k hk => ?_, fun k l hk hl => ?_, fun k j hk hj => ?_⟩
    · rw [e k j hk (by have := g.lt k hk; omega), if_neg (by omega)]
    · rw [e k _ hk (g.lt k hk), if_pos rfl]
    · rw [e k _ hk (g.lt l (by omega)), if_neg fun c => by have := g.inj (by omega) hk c; omega]
    · rw [e k j hk hj]; split <;> omega
  exact (qL_congr (NfUp.own hP hN h3.up).1).symm
theorem NfOf.pos (hf : IsFl P n n D) (h : NfOf P n D X q) {l : List Int} (h2 : RpIs P n n D P n n (flatM n n X) l) : l = idL n := by
  obtain ⟨_, _, _, _, _, _, _, hP, _⟩ := hf.facts
  exact RpIs.same hf (h.fl hf) (h.same hP) h2

/-- rows below i are done: an earlier row is added to each -/
def AddUp (P : Int) (n : Nat) (D D' : List Int) (i : Nat) : Prop :=
  D'.length = n * n ∧ (∀ k c, k < n → c < n → (k = 0 ∨ i ≤ k) → D'.getD (k * n + c) 0 = D.getD (k * n + c) 0) ∧
    ∀ k, 1 ≤ k → k < i → ∃ j, j < k ∧ ∀ c, c < n → D'.getD (k * n + c) 0 = (D.getD (k * n + c) 0 + D'.getD (j * n + c) 0) % P
/-- in row i the first k places are done -/
def AddIn (P : Int) (n : Nat) (D0 D' : List Int) (i j k : Nat) : Prop :=
  D'.length = n * n ∧ (∀ r c, r < n → c < n → (r ≠ i ∨ k ≤ c) → D'.getD (r * n + c) 0 = D0.getD (r * n + c) 0) ∧
    ∀ c, c < k → D'.getD (i * n + c) 0 = (D0.getD (i * n + c) 0 + D0.getD (j * n + c) 0) % P
theorem AddIn.start {D0 : List Int} {i j : Nat} (h : D0.length = n * n) : AddIn P n D0 D0 i j 0 := ⟨h, fun _ _ _ _ _ => rfl, fun _ h => absurd h (Nat.not_lt_zero _)⟩
theorem flat_inj2 {n r c r' c' : Nat} (hc : c < n) (hc' : c' < n) (h : r * n + c = r' * n + c') : r = r' ∧ c = c' := by
  obtain ⟨a, b⟩ := div_at (k := r) hc
  obtain ⟨a', b'⟩ := div_at (k := r') hc'
  rw [h] at a b
  exact ⟨a.symm.trans a', b.symm.trans b'⟩
theorem AddIn.step {D0 D' : List Int} {i j k : Nat} (h : AddIn P n D0 D' i j k) (hi : i < n) (hj : j < i) (hk : k < n) : AddIn P n D0 (D'.set (i * n + k) ((D'.getD (i * n + k) 0 + D'.getD (j * n + k) 0) % P)) i j (k + 1) := by
  obtain ⟨h1, h2, h3⟩ := h
  have hset : ∀ t x, (D'.set (i * n + k) x).getD t 0 = if t = i * n + k then x else D'.getD t 0 := fun t x => by
    have hb : i * n + k < D'.length := by rw [h1]; exact flat_lt hi hk
    by_cases e : t = i * n + k
    · subst e; simp [List.getD_eq_getElem?_getD, hb]
    · rw [if_neg e]; simp [List.getD_eq_getElem?_getD, List.getElem?_set, show ¬ i * n + k = t from fun c => e c.symm]
  refine ⟨by rw [List.length_set, h1], fun r c hr hc ho => ?_, fun c hc => ?_⟩
  · rw [hset, if_neg fun e => by have := flat_inj2 hc hk e; omega]
    exact h2 r c hr hc (by omega)
  · rw [hset]
    by_cases e : c = k
    · subst e
      rw [if_pos rfl, h2 i c hi hk (Or.inr (Nat.le_refl _)), h2 j c (by omega) hk (Or.inl (by omega))]
    · rw [if_neg fun e2 => by have := flat_inj2 (by omega) hk e2; omega]
      exact h3 c (by omega)
theorem AddIn.done {D0 D' : List Int} {i j : Nat} (h0 : AddUp P n D D0 i) (h : AddIn P n D0 D' i j n) (h1 : 1 ≤ i) (hi : i < n) (hj : j < i) : AddUp P n D D' (i + 1) := by
  obtain ⟨a1, a2, a3⟩ := h0
  obtain ⟨b1, b2, b3⟩ := h
  refine ⟨b1, fun k c hk hc ho => ?_, fun k hk1 hk => ?_⟩
  · rw [b2 k c hk hc (Or.inl (by omega)), a2 k c hk hc (by omega)]
  · by_cases e : k = i
    · subst e
      refine ⟨j, hj, fun c hc => ?_⟩
      rw [b3 c hc, a2 k c hi hc (Or.inr (Nat.le_refl _)), b2 j c (by omega) hc (Or.inl (by omega))]
    · obtain ⟨j', hj', h5⟩ := a3 k hk1 (by omega)
      refine ⟨j', hj', fun c hc => ?_⟩
      rw [b2 k c (by omega) hc (Or.inl (by omega)), h5 c hc, b2 j' c (by omega) hc (Or.inl (by omega))]
theorem AddUp.start (h : D.length = n * n) : AddUp P n D D 1 := ⟨h, fun _ _ _ _ _ => rfl, fun k h1 h2 => absurd h1 (by omega)⟩
theorem AddUp.rng {D' : List Int} {i : Nat} (h : AddUp P n D D' i) (hP : 2 ≤ P) (hr : ∀ t, 0 ≤ D.getD t 0 ∧ D.getD t 0 < P) : ∀ k c, k < n → c < n → 0 ≤ D'.getD (k * n + c) 0 ∧ D'.getD (k * n + c) 0 < P := fun k c hk hc => by
  by_cases e : k = 0 ∨ i ≤ k
  · rw [h.2.1 k c hk hc e]; exact hr _
  · obtain ⟨j, hj, h5⟩ := h.2.2 k (by omega) (by omega)
    rw [h5 c hc]; exact emod_rng hP _
theorem AddUp.same {D' : List Int} (h : AddUp P n D D' n) (h1 : 1 ≤ n) : ∀ i, i ≤ n → SameSp P n i (mf n fun t => D.getD t 0) i (mf n fun t => D'.getD t 0) :=
  same_added n fun i hi => by
    by_cases e : i = 0
    · subst e
      refine ⟨fun _ => 0, .zero, .of_eq fun j hj => ?_⟩
      show D'.getD (0 * n + j) 0 = D.getD (0 * n + j) 0 + 0
      rw [h.2.1 0 j hi hj (Or.inl rfl)]; omega
    · obtain ⟨j, hj, h5⟩ := h.2.2 i (by omega) hi
      refine ⟨_, Sp.row hj, fun c hc => ?_⟩
      show P ∣ D'.getD (i * n + c) 0 - (D.getD (i * n + c) 0 + D'.getD (j * n + c) 0)
      rw [h5 c hc]; exact emod_dvd _ _
theorem AddUp.fl {D' : List Int} (hf : IsFl P n n D) (h : AddUp P n D D' n) : IsFl P n n D' := by
  obtain ⟨m, _, e, hn0, hn7, hlD, hD, hP, _, hp, hrk⟩ := hf.facts
  obtain rfl := Int.ofNat.inj e
  have hrg := h.rng hP (fun t => getD_range hD (by omega) t)
  refine isFl_of hp hn0 hn7 h.1 (fun x hx => ?_) ((hrk.same (h.same hn0 n (Nat.le_refl _)).symm).indep hp (fun i j hi hj => hrg i j hi hj))
  obtain ⟨t, ht, rfl⟩ := List.getElem_of_mem hx
  rw [h.1] at ht
  have h2 := hrg (t / n) (t % n) (Nat.div_lt_of_lt_mul ht) (Nat.mod_lt _ hn0)
  rw [Nat.div_add_mod'] at h2
  rwa [List.getD_eq_getElem?_getD, List.getElem?_eq_getElem (by rw [h.1]; exact ht)] at h2
theorem NfOf.added {D' : List Int} (hf : IsFl P n n D) (h : NfOf P n D X q) (ha : AddUp P n D D' n) {m : Mx} {ok : Bool} (h2 : NfIs P n n D' m ok) : ok = true ∧ m = ⟨P, n, n, flatM n n X⟩ := by
  obtain ⟨_, _, e, hn0, _, _, _, hP, _⟩ := hf.facts
  obtain rfl := Int.ofNat.inj e
  obtain ⟨e, X', q', h3, rfl⟩ := NfIs.of (ha.fl hf) h2
  refine ⟨e, ?_⟩
  have h4 := (NfUp.fix hP h.up h3.up (ha.same hn0)).2
  rw [flatM_congr (M := X') (M' := X) fun i j hi hj => (h4 i j hi hj).symm]

end Go.Proofs.Ytpfefjdefopccaa
