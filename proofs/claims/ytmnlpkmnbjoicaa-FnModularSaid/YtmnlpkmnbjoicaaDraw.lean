/-
  The draws: the cursor over the bytes, a number below another one.
-/
import Derived.Test.YtmnlpkmnbjoicaaLawM
import Derived.Test.YtmnlpkmnbjoicaaApp
namespace Go.Proofs.Ytmnlpkmnbjoicaa
set_option linter.all false
open Go.RowKit

theorem blk3 {w : World} {b : Nat} {x0 x1 x2 : Value} {T : TypeId} (h : w.heap[b]? = some (.cells #[x0, x1, x2] T (0, 0))) :
    w.cell? ⟨b, 0, none⟩ = some x0 ∧ w.cell? ⟨b, 1, none⟩ = some x1 ∧ w.cell? ⟨b, 2, none⟩ = some x2 ∧ (∀ j, w.frozen? ⟨b, j, none⟩ = false) ∧ b < w.heap.size :=
  ⟨cell_of_blk h rfl, cell_of_blk h rfl, cell_of_blk h rfl, free_of_blk h, (Array.getElem?_eq_some_iff.1 h).1⟩

theorem and255 (x : Int) : 0 ≤ bits .and .i64 x 255 ∧ bits .and .i64 x 255 ≤ 255 := by
  have h1 : (BitVec.ofInt 64 x).toNat &&& 255 < 2 ^ 8 := Nat.and_lt_two_pow _ (by decide)
  have e : bits .and .i64 x 255 = IntKind.i64.wrap (((BitVec.ofInt 64 x).toNat &&& 255 : Nat) : Int) := by
    simp only [bits, BitVec.toNat_and]
    rfl
  have e2 : IntKind.i64.wrap (((BitVec.ofInt 64 x).toNat &&& 255 : Nat) : Int) = (((BitVec.ofInt 64 x).toNat &&& 255 : Nat) : Int) := k64 (by omega) (by omega)
  rw [e, e2]
  omega

/-- bytes that can be read -/
def Byts (w : World) (v : Value) (n : Nat) : Prop := ∃ f : Nat → Int, Rd w v n fun j => .int .u8 (f j)
theorem Byts.below {w w' : World} {v : Value} {n : Nat} (h : Byts w v n) (hb : Below w.heap.size w w') : Byts w' v n := by
  obtain ⟨f, h⟩ := h
  exact ⟨f, h.below hb⟩

theorem Byts.frm {w w' : World} {p : Option Addr} {n cap k : Nat} (h : Byts w (.slice p n cap) n) (hf : Frm k (k + 1) w w') (hne : 0 < n → ∀ a, p = some a → a.block < k) : Byts w' (.slice p n cap) n := by
  obtain ⟨f, p', cap', e, hm, hx⟩ := h
  injection e with e1 _ e3
  subst e1 e3
  refine ⟨f, p, cap, rfl, hm, fun h0 => ?_⟩
  obtain ⟨b, off, hp, hc⟩ := hx h0
  refine ⟨b, off, hp, fun j hj => ?_⟩
  have hb := World.block_lt_of_cell? w _ (hc j hj)
  have h1 := hne h0 _ hp
  rw [World.cell?_of_block (w := w) (hf.block b hb (by dsimp only at h1; omega))]
  exact hc j hj

/-- the cursor in block k -/
def Cur (w : World) (k : Nat) : Prop :=
  ∃ (p : Option Addr) (n cap i : Nat) (h : Int), w.heap[k]? = some (.cells #[.slice p n cap, .int .i64 (i : Int), .int .i64 h] 63 (0, 0)) ∧ i ≤ n ∧ Byts w (.slice p n cap) n ∧ (0 < n → ∀ a, p = some a → a.block < k)
theorem Cur.lt {w : World} {k : Nat} (h : Cur w k) : k < w.heap.size := by
  obtain ⟨_, _, _, _, _, h, _⟩ := h
  exact blk_lt h
theorem Cur.keepB {w w' : World} {k B : Nat} (h : Cur w k) (hb : Below B w w') (hB : k < B) : Cur w' k := by
  have hk := h.lt
  obtain ⟨p, n, cap, i, x, h1, h2, ⟨f, p', cap', e, hm, h3⟩, h4⟩ := h
  injection e with e1 _ e3
  subst e1 e3
  refine ⟨p, n, cap, i, x, by rw [hb.block k hB]; exact h1, h2, ⟨f, p, cap, rfl, hm, fun h0 => ?_⟩, h4⟩
  obtain ⟨b, off, hp, hc⟩ := h3 h0
  have hlt := h4 h0 _ hp
  dsimp only at hlt
  exact ⟨b, off, hp, fun j hj => by rw [World.cell?_of_block (w := w) (hb.block b (by omega))]; exact hc j hj⟩
theorem Frm.thenB {lo hi B : Nat} {a b c : World} (h : Frm lo hi a b) (hb : Below B b c) (hB : a.heap.size ≤ B) : Frm lo hi a c :=
  ⟨hb.os.trans h.os, hb.tape.trans h.tape, hb.output.trans h.output, Nat.le_trans h.size hb.size, fun k hk ho => (hb.block k (by omega)).trans (h.block k hk ho)⟩
theorem OwnI.setOther {T : TypeId} {w : World} {lo hi : Nat} {v : Value} {xs : List Int} (h : OwnI T w lo hi v xs) {a : Addr} (hne : v.ownBlock ≠ some a.block) (u : Value) : OwnI T (w.setCell a u) lo hi v xs :=
  ⟨ownsRow_of_block h.1 fun b hb => Below.heap_setCell _ _ _ _ fun e => hne (by rw [hb, e]), h.2⟩
theorem Cur.below {w w' : World} {k : Nat} (h : Cur w k) (hb : Below w.heap.size w w') : Cur w' k := by
  obtain ⟨p, n, cap, i, x, h1, h2, h3, h4⟩ := h
  exact ⟨p, n, cap, i, x, blk_later h1 hb, h2, h3.below hb, h4⟩

set_option maxRecDepth 100000 in
set_option maxHeartbeats 2000000 in
theorem l1Byte_any (k : Nat) (w : World) (h : Cur w k) :
    Calls Try.prog 48 #[.pointer (some ⟨k, 0, none⟩)] w fun e w' => ∃ x : Int, e = .returned (.int .i64 x) ∧ 0 ≤ x ∧ x ≤ 255 ∧ Cur w' k ∧ Frm k (k + 1) w w' := by
  obtain ⟨p, n, cap, i, x, h1, h2, ⟨f, h3⟩, h4⟩ := h
  obtain ⟨c0, c1, c2, cf, cz⟩ := blk3 h1
  obtain ⟨_, _, e, ⟨hx1, hx2⟩, hxc⟩ := h3
  injection e with e1 e2 e3
  subst e1 e3
  unfold maxLen at hx2
  have Hxc := Lib.hid hxc
  clear hxc e2
  go_enter Try.func48, Try.ntmps48
  go_wp2_with fail
  go_quiet (fail)
  obtain ⟨X, hX⟩ : ∃ X, X = wrap64 (wrap64 (x * 6364136223846793005) + 1442695040888963407) := ⟨_, rfl⟩
  rw [← hX]
  obtain ⟨Y, hY⟩ : ∃ Y, Y = bits BinOp.and IntKind.i64 (bits BinOp.xor IntKind.i64 (X / 8589934592) (X / 35184372088832)) 255 := ⟨_, rfl⟩
  rw [← hY]
  have hY2 := and255 (bits BinOp.xor IntKind.i64 (X / 8589934592) (X / 35184372088832))
  rw [← hY] at hY2
  clear hX hY
  have hf2 : Frm k (k + 1) w ((w.setCell ⟨k, 2, none⟩ (.int .i64 X)).drewN nq) := ((Frm.refl k (k + 1) w).setCell (Nat.le_refl _) (Nat.lt_succ_self _) _).drewN nq
  have hh2 : ((w.setCell ⟨k, 2, none⟩ (.int .i64 X)).drewN nq).heap[k]? = some (.cells #[.slice p n cap, .int .i64 (i : Int), .int .i64 X] 63 (0, 0)) := heap_setCell_at h1 2 _
  have hB2 : Byts ((w.setCell ⟨k, 2, none⟩ (.int .i64 X)).drewN nq) (.slice p n cap) n := Byts.frm ⟨f, _, _, rfl, ⟨hx1, by unfold maxLen; omega⟩, Hxc.out⟩ hf2 h4
  generalize (w.setCell ⟨k, 2, none⟩ (.int .i64 X)).drewN nq = w2 at *
  clear c0 c1 c2 cf cz Hxc f
  obtain ⟨c0, c1, c2, cf, cz⟩ := blk3 hh2
  have HB2 := Lib.hid hB2
  have Hf2 := Lib.hid hf2
  obtain ⟨f, p', cap', e, _, hxc⟩ := hB2
  injection e with e1 _ e3
  subst e1 e3
  clear hf2
  by_cases hlt : i < n
  · obtain ⟨b, off, rfl, hc⟩ := hxc (by omega)
    have cb := hc i hlt
    have hlt2 : (i : Int) < (n : Int) := by omega
    clear hxc hc
    go_wp2_with fail
    go_quiet (fail)
    go_wp2_with fail
    go_quiet (fail)
    obtain ⟨Z, hZ⟩ : ∃ Z, Z = bits BinOp.and IntKind.i64 (wrap64 (Y + wrap64 (f i))) 255 := ⟨_, rfl⟩
    rw [← hZ]
    have hZ2 := and255 (wrap64 (Y + wrap64 (f i)))
    rw [← hZ] at hZ2
    clear hZ
    have hcast : (i : Int) + 1 = ((i + 1 : Nat) : Int) := by omega
    have Hcast := Lib.hid hcast
    clear hcast
    go_wp2_with fail
    go_ret
    rw [Hcast.out]
    refine ⟨Z, rfl, hZ2.1, hZ2.2, ⟨_, n, cap, i + 1, X, by exact heap_setCell_at hh2 1 _, by omega, ?_, h4⟩, ?_⟩
    · exact HB2.out.frm (k := k) (Frm.setCell ((Frm.refl k (k + 1) w2).drewN _) (Nat.le_refl k) (Nat.lt_succ_self k) _) h4
    · exact Frm.setCell (Hf2.out.drewN _) (Nat.le_refl k) (Nat.lt_succ_self k) _
  · have hlt2 : ¬ (i : Int) < (n : Int) := by omega
    clear hxc
    go_wp2_with fail
    go_quiet (fail)
    go_wp2_with fail
    go_ret
    exact ⟨Y, rfl, hY2.1, hY2.2, ⟨p, n, cap, i, X, hh2, h2, HB2.out.frm (k := k) ((Frm.refl k (k + 1) w2).drewN _) h4, h4⟩, Hf2.out.drewN _⟩

set_option maxRecDepth 100000 in
set_option maxHeartbeats 2000000 in
/-- a number from 0 to m - 1, where m is not great -/
theorem l1Below_any (k m : Nat) (w : World) (h : Cur w k) (h0 : 1 ≤ m) (hm : m ≤ 256) :
    Calls Try.prog 29 #[.pointer (some ⟨k, 0, none⟩), .int .i64 (m : Int)] w fun e w' => ∃ x : Nat, e = .returned (.int .i64 (x : Int)) ∧ x < m ∧ Cur w' k ∧ Frm k (k + 1) w w' := by
  have Hc := Lib.hid h
  clear h
  go_enter Try.func29, Try.ntmps29
  go_wp2_with fail
  refine (l1Byte_any k _ Hc.out).mono ?_
  rintro e w1 ⟨x, rfl, hx0, hx1, hc1, hf1⟩
  obtain ⟨X, rfl⟩ := Int.eq_ofNat_of_zero_le hx0
  have Hc1 := Lib.hid hc1
  have Hf1 := Lib.hid hf1
  clear hc1 hf1
  go_wp2_with fail
  go_ret
  exact ⟨X % m, ret_int (Int.natCast_emod X m).symm, Nat.mod_lt _ (by omega), Hc1.out, Hf1.out⟩

set_option maxRecDepth 100000 in
set_option maxHeartbeats 2000000 in
theorem l1Once_any (k m : Nat) (w : World) (h : Cur w k) (h0 : 1 ≤ m) (hm : m ≤ 256) :
    Calls Try.prog 40 #[.pointer (some ⟨k, 0, none⟩), .int .i64 (m : Int)] w fun e w' => ∃ b : Bool, e = .returned (.bool b) ∧ Cur w' k ∧ Frm k (k + 1) w w' := by
  have Hc := Lib.hid h
  clear h
  go_enter Try.func40, Try.ntmps40
  go_wp2_with fail
  refine (l1Below_any k m _ Hc.out h0 hm).mono ?_
  rintro e w1 ⟨x, rfl, hx, hc1, hf1⟩
  go_wp2_with fail
  go_ret
  exact ⟨_, rfl, hc1, hf1⟩

set_option maxRecDepth 100000 in
set_option maxHeartbeats 2000000 in
/-- one of some numbers -/
theorem l1PickInt_any (k : Nat) (v : Value) (xs : List Int) (w : World) (h : Cur w k) (hv : Ints w v xs) (hne : ∀ p n c, v = .slice p n c → ∀ a, p = some a → a.block ≠ k) (h0 : 1 ≤ xs.length) (hm : xs.length ≤ 256) :
    Calls Try.prog 47 #[.pointer (some ⟨k, 0, none⟩), v] w fun e w' => ∃ x ∈ xs, e = .returned (.int .i64 x) ∧ Cur w' k ∧ Frm k (k + 1) w w' := by
  have Hc := Lib.hid h
  clear h
  obtain ⟨p, cap, rfl, ⟨hx1, hx2⟩, hxc⟩ := hv
  obtain ⟨b, off, rfl, hc⟩ := hxc h0
  have hk : b ≠ k := hne _ _ _ rfl _ rfl
  unfold maxLen at hx2
  clear hne hxc
  go_enter Try.func47, Try.ntmps47
  go_wp2_with fail
  refine (l1Below_any k xs.length _ Hc.out h0 hm).mono ?_
  rintro e w1 ⟨x, rfl, hx, hc1, hf1⟩
  have c1 : w1.cell? ⟨b, off + x, none⟩ = some (.int .i64 xs[x]) := by
    rw [World.cell?_of_block (w := w) (hf1.block b (World.block_lt_of_cell? w _ (hc x hx)) (by omega)), hc x hx]
    simp [iv, List.getD_eq_getElem?_getD, hx]
  have Hc1 := Lib.hid hc1
  have Hf1 := Lib.hid hf1
  have Hm := Lib.hid (show xs[x] ∈ xs from List.getElem_mem hx)
  obtain ⟨X, hX⟩ : ∃ X, X = xs[x] := ⟨_, rfl⟩
  rw [← hX] at c1 Hm
  clear hX hc hc1 hf1
  go_wp2_with fail
  go_ret
  exact ⟨X, Hm.out, rfl, Hc1.out, Hf1.out⟩

end Go.Proofs.Ytmnlpkmnbjoicaa
