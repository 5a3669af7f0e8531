/-
  lowered, for lengths to 7.
  schubert, for lengths to 7.
  The draws: the cursor over the bytes, a number below another one.
  The laws' own comparisons: ints, matrices; how long the code is.
  The identity, as the program makes it; one byte of the code.
  PermOfCode (slices.Delete by the shelf's contract).
-/
import Derived.Test.YtgebjjpcgakjgaaGreatJ11
import Derived.Test.YtgebjjpcgakjgaaGreatJ8
import Derived.BigQuiet
import Derived.Test.YtgebjjpcgakjgaaGreatJ10
import Derived.Test.YtgebjjpcgakjgaaGreatJ2
import Derived.Test.YtgebjjpcgakjgaaGreatJ1
import Derived.Test.YtgebjjpcgakjgaaGreatJ5
import Derived.Test.YtgebjjpcgakjgaaGreatJ4
import Derived.Test.YtgebjjpcgakjgaaGreatJ3
import Derived.Test.YtgebjjpcgakjgaaGreatShelf
namespace Go.Proofs.YtgebjjpcgakjgaaGreat
set_option linter.all false
set_option maxRecDepth 100000
open Go.RowKit Go.Maps Go.WideMaps Go.WideElems Go.MapKept Go.ChangeMaps Go.ChangeShapes

set_option maxRecDepth 100000 in
set_option maxHeartbeats 4000000 in
theorem lowered7_any (d : Nat) (P : Pl) (hd : d < 1000000) (hd1 : 1 ≤ d) : ∀ (f : Nat) (xs : List Int) (u vw : Value) (nf : Nat) (w : World), lowOk f xs = true → xs.length ≤ 7 → PolV w u d nf P → nf * d ^ f < 1000000000000000 → Ints w vw xs →
    Calls Tryz.prog 57 #[vw, u, .func (.func 58) #[] #[]] w fun e w' => ∃ u', e = .returned u' ∧ PolV w' u' d (nf * d ^ f) (lowP f xs P) ∧ Below w.heap.size w w' := by
  intro f
  induction f using Nat.strongRecOn with
  | _ f ih =>
    intro xs u vw nf w hok hl hp hn hw
    have Hp := Lib.hid hp
    have Hw := Lib.hid hw
    have hge0 : nf ≤ nf * d ^ f := Nat.le_mul_of_pos_right _ (Nat.pow_pos hd1)
    have hasc : ∀ k, fasc xs = some k → ∃ f', f = f' + 1 ∧ lowOk f' (swapL xs k (k + 1)) = true ∧ lowP f xs P = dvP k (lowP f' (swapL xs k (k + 1)) P) := fun k hk => by
      cases f with
      | zero => unfold lowOk at hok; rw [hk] at hok; cases hok
      | succ f' => exact ⟨f', rfl, by unfold lowOk at hok; rw [hk] at hok; exact hok, by rw [lowP, hk]⟩
    have hnone : fasc xs = none → lowP f xs P = P := fun hk => by
      cases f with
      | zero => rfl
      | succ f' => rw [lowP, hk]
    have Hasc := Lib.hid hasc
    have Hnone := Lib.hid hnone
    have Ih := Lib.hid ih
    have Hn := Lib.hid hn
    have Hge := Lib.hid hge0
    obtain ⟨T, hT⟩ : ∃ T, T = nf * d ^ f := ⟨_, rfl⟩
    have HT := Lib.hid hT
    rw [← hT]
    obtain ⟨pw, cw, rfl, ⟨hw1, hw2⟩, hwc⟩ := hw
    obtain ⟨bf, Df, rfl, hf1, hf2⟩ := hp
    unfold maxLen at hw2
    have Hwc := Lib.hid hwc
    obtain ⟨R, hR⟩ : ∃ R, R = lowP f xs P := ⟨_, rfl⟩
    have HR := Lib.hid hR
    rw [← hR]
    clear hwc hf1 hf2 hok ih hT hasc hnone hn hge0 hR
    go_enter Tryz.func57, Tryz.ntmps57
    go_wp2_with fail
    go_loopg [7, 11] xs.length (fun g s7 s11 wr => ∃ k : Nat, k ≤ xs.length ∧ g = xs.length - k ∧ s11 = .int .i64 (k : Int) ∧ Qt w wr ∧ Hid (∀ j, j < k → ¬ xs.getD j 0 < xs.getD (j + 1) 0))
    case atStart => exact ⟨0, by omega, rfl, rfl, Qt.refl _, Lib.hid fun j hj => absurd hj (Nat.not_lt_zero _)⟩
    case round =>
      obtain ⟨k, hk, rfl, rfl, hq, hpre⟩ := hrel
      obtain ⟨wx, rfl⟩ : ∃ x : World, x = wr := ⟨_, rfl⟩
      by_cases hkl : k + 1 < xs.length
      · have hki : (k : Int) < (xs.length : Int) - 1 := by omega
        obtain ⟨bw, ow, rfl, hc⟩ := Hwc.out (by omega)
        have c1 := hq.cell (hc k (by omega))
        have c2 := hq.cell (hc (k + 1) hkl)
        unfold iv at c1 c2
        obtain ⟨x, hx⟩ : ∃ x, x = xs.getD k 0 := ⟨_, rfl⟩
        obtain ⟨y, hy⟩ : ∃ y, y = xs.getD (k + 1) 0 := ⟨_, rfl⟩
        rw [← hx] at c1
        rw [← hy] at c2
        have Hx := Lib.hid hx
        have Hy := Lib.hid hy
        have HQ := Lib.hid hq
        have hk1 : (k : Int) < (xs.length : Int) := by omega
        have hk2 : (k : Int) + 1 < (xs.length : Int) := by omega
        clear hx hy hc hq
        by_cases hxy : x < y
        · go_wp2_with fail
          go_quiet (fail)
          have HQ1 := Lib.hid (HQ.out.drewN nq)
          go_wp2_with fail
          obtain ⟨f', hf', hok', hlow⟩ := Hasc.out k (fasc_some (by omega) (by rw [← Hx.out, ← Hy.out]; exact hxy) fun j hj => Int.not_lt.2 (by have := hpre.out j hj; omega))
          have Hlow := Lib.hid hlow
          have Hok' := Lib.hid hok'
          have Hf' := Lib.hid hf'
          clear hlow hok' hf'
          refine (exchanged_any _ xs k (k + 1) _ (Hw.out.qt HQ1.out) (by omega) hkl (by omega) (by omega)).mono ?_
          rintro e w1 ⟨ue, rfl, hoe, hbe⟩
          have Hoe := Lib.hid hoe.ints
          obtain ⟨pe, ke, rfl, _, _⟩ := hoe.shape
          have Hb1 := Lib.hid ((HQ1.out.below w.heap.size).trans (hbe.mono (Nat.le_of_eq HQ1.out.size.symm)))
          clear hoe hbe
          go_wp2_with fail
          have hT0 : nf * d ^ f' * d = T := by rw [HT.out, Hf'.out, Nat.pow_succ, Nat.mul_assoc]
          have hT1 : nf * d ^ f' ≤ T := by rw [← hT0]; exact Nat.le_mul_of_pos_right _ (by omega)
          have HT0 := Lib.hid hT0
          clear hT0
          refine (Ih.out f' (by have := Hf'.out; omega) (swapL xs k (k + 1)) _ _ nf _ Hok'.out (by rw [swapL_length]; exact hl) (Hp.out.below Hb1.out) (by have := Hn.out; have := HT.out; omega) Hoe.out).mono ?_
          rintro e w2 ⟨u2, rfl, hp2, hb2⟩
          have Hp2 := Lib.hid hp2
          obtain ⟨b2, D2, rfl, _, _⟩ := hp2
          have Hb2 := Lib.hid (Hb1.out.trans (hb2.mono Hb1.out.size))
          clear hb2
          go_wp2_with fail
          refine (divided7_any _ k d (nf * d ^ f') _ _ Hp2.out (by omega) hd (by rw [HT0.out]; have := Hn.out; have := HT.out; omega)).mono ?_
          rintro e w3 ⟨u3, rfl, hp3, hb3⟩
          have Hp3 := Lib.hid hp3
          have Hb3 := Lib.hid (Hb2.out.trans (hb3.mono Hb2.out.size))
          obtain ⟨b3, D3, rfl, _, _⟩ := hp3
          clear hb3
          go_wp2_with fail
          go_ret
          refine ⟨_, rfl, ?_, Hb3.out⟩
          rw [HR.out, Hlow.out, ← HT0.out]
          exact Hp3.out
        · go_wp2_with fail
          go_quiet (fail)
          have HQ1 := Lib.hid (HQ.out.drewN nq)
          go_wp2_with fail
          go_roundg (xs.length - (k + 1))
          case measure => omega
          case rel =>
            refine ⟨k + 1, by omega, rfl, by go_num, HQ1.out, Lib.hid fun j hj => ?_⟩
            by_cases e : j = k
            · subst e; rw [← Hx.out, ← Hy.out]; omega
            · exact hpre.out j (by omega)
      · have hki : ¬ (k : Int) < (xs.length : Int) - 1 := by omega
        go_wp2_with fail
        go_ret
        refine ⟨_, rfl, ?_, hq.below _⟩
        rw [HR.out, Hnone.out (fasc_none fun j hj => Int.not_lt.2 (by have := hpre.out j (by omega); omega))]
        exact (Hp.out.below (hq.below _)).mono (Nat.le_refl _) (by rw [HT.out]; exact Hge.out)

end Go.Proofs.YtgebjjpcgakjgaaGreat

namespace Go.Proofs.YtgebjjpcgakjgaaGreat
set_option linter.all false
set_option maxRecDepth 100000
open Go.RowKit Go.Maps Go.WideMaps Go.WideElems Go.MapKept Go.ChangeMaps Go.ChangeShapes

def schP7 (u : List Int) : Pl := lowP 15 (trimL u) (stP (trimL u).length)
def symS7 (u : List Int) : Pl := lowN 15 (trimL u) (stP (trimL u).length)
theorem symS7_eq (u : List Int) (g : List Int → Int) : Ev (symS7 u) g = Ev (schP7 u) g := low_N _ _ g

set_option maxHeartbeats 2000000 in
theorem schub7_any (v : Value) (xs : List Int) (w : World) (h : Ints w v xs) (hp : permOk xs = true) (hn1 : 1 ≤ (trimL xs).length) (hn7 : (trimL xs).length ≤ 7) (hlow : lowOk 15 (trimL xs) = true) :
    Calls Tryz.prog 46 #[v] w fun e w' => ∃ u, e = .returned u ∧ PolV w' u 6 470184984576 (schP7 xs) ∧ Below w.heap.size w w' := by
  have Hh := Lib.hid h
  have Hp := Lib.hid hp
  have Hlow := Lib.hid hlow
  obtain ⟨p, cap, rfl, _, _⟩ := h
  obtain ⟨N, hN⟩ : ∃ N, N = (trimL xs).length := ⟨_, rfl⟩
  rw [← hN] at hn1 hn7
  have HN := Lib.hid hN
  unfold schP7
  rw [← hN]
  clear hp hN hlow
  go_enter Tryz.func46, Tryz.ntmps46
  go_wp2_with fail
  refine (implTrim_yes _ xs _ Hh.out Hp.out).mono ?_
  rintro e w1 ⟨u, rfl, ho, hb⟩
  obtain ⟨p1, k1, rfl, _, _⟩ := ho.shape
  have Ho := Lib.hid ho.ints
  rw [← HN.out] at Ho ⊢
  have Hb := Lib.hid hb
  clear ho hb
  go_wp2_with fail
  refine (staircase_any N _ hn1 hn7).mono ?_
  rintro e w2 ⟨u2, rfl, hpv, hb2⟩
  have Hpv := Lib.hid hpv
  have Hb2 := Lib.hid (Hb.out.trans (hb2.mono Hb.out.size))
  have Ho2 := Lib.hid (Ho.out.below hb2)
  obtain ⟨b2, D2, rfl, _, _⟩ := hpv
  clear hb2
  go_wp2_with fail
  refine (lowered7_any 6 (stP N) (by omega) (by omega) 15 (trimL xs) _ _ 1 _ Hlow.out (by rw [← HN.out]; exact hn7) Hpv.out (by decide) Ho2.out).mono ?_
  rintro e w3 ⟨u3, rfl, hpv3, hb3⟩
  have Hpv3 := Lib.hid hpv3
  have Hb3 := Lib.hid (Hb2.out.trans (hb3.mono Hb2.out.size))
  obtain ⟨b3, D3, rfl, _, _⟩ := hpv3
  clear hb3
  go_wp2_with fail
  go_ret
  exact ⟨_, rfl, Hpv3.out, Hb3.out⟩

end Go.Proofs.YtgebjjpcgakjgaaGreat

namespace Go.Proofs.YtgebjjpcgakjgaaGreat
set_option linter.all false
open Go.RowKit

theorem blk3 {w : World} {b : Nat} {x0 x1 x2 : Value} {T : TypeId} (h : w.heap[b]? = some (.cells #[x0, x1, x2] T (0, 0))) :
    w.cell? ⟨b, 0, none⟩ = some x0 ∧ w.cell? ⟨b, 1, none⟩ = some x1 ∧ w.cell? ⟨b, 2, none⟩ = some x2 ∧ (∀ j, w.frozen? ⟨b, j, none⟩ = false) ∧ b < w.heap.size :=
  ⟨cell_of_blk h rfl, cell_of_blk h rfl, cell_of_blk h rfl, free_of_blk h, (Array.getElem?_eq_some_iff.1 h).1⟩

theorem and255 (x : Int) : 0 ≤ bits .and .i64 x 255 ∧ bits .and .i64 x 255 ≤ 255 := by
  have h1 : (BitVec.ofInt 64 x).toNat &&& 255 < 2 ^ 8 := Nat.and_lt_two_pow _ (by decide)
  have e : bits .and .i64 x 255 = IntKind.i64.wrap (((BitVec.ofInt 64 x).toNat &&& 255 : Nat) : Int) := by
    simp only [bits, BitVec.toNat_and]
    rfl
  have e2 : IntKind.i64.wrap (((BitVec.ofInt 64 x).toNat &&& 255 : Nat) : Int) = (((BitVec.ofInt 64 x).toNat &&& 255 : Nat) : Int) := k64 (by omega) (by omega)
  rw [e, e2]
  omega

/-- bytes that can be read -/
def Byts (w : World) (v : Value) (n : Nat) : Prop := ∃ f : Nat → Int, Rd w v n fun j => .int .u8 (f j)
theorem Byts.below {w w' : World} {v : Value} {n : Nat} (h : Byts w v n) (hb : Below w.heap.size w w') : Byts w' v n := by
  obtain ⟨f, h⟩ := h
  exact ⟨f, h.below hb⟩

theorem Byts.frm {w w' : World} {p : Option Addr} {n cap k : Nat} (h : Byts w (.slice p n cap) n) (hf : Frm k (k + 1) w w') (hne : 0 < n → ∀ a, p = some a → a.block < k) : Byts w' (.slice p n cap) n := by
  obtain ⟨f, p', cap', e, hm, hx⟩ := h
  injection e with e1 _ e3
  subst e1 e3
  refine ⟨f, p, cap, rfl, hm, fun h0 => ?_⟩
  obtain ⟨b, off, hp, hc⟩ := hx h0
  refine ⟨b, off, hp, fun j hj => ?_⟩
  have hb := World.block_lt_of_cell? w _ (hc j hj)
  have h1 := hne h0 _ hp
  rw [World.cell?_of_block (w := w) (hf.block b hb (by dsimp only at h1; omega))]
  exact hc j hj

/-- the cursor in block k -/
def Cur (w : World) (k : Nat) : Prop :=
  ∃ (p : Option Addr) (n cap i : Nat) (h : Int), w.heap[k]? = some (.cells #[.slice p n cap, .int .i64 (i : Int), .int .i64 h] 56 (0, 0)) ∧ i ≤ n ∧ Byts w (.slice p n cap) n ∧ (0 < n → ∀ a, p = some a → a.block < k)
theorem Cur.lt {w : World} {k : Nat} (h : Cur w k) : k < w.heap.size := by
  obtain ⟨_, _, _, _, _, h, _⟩ := h
  exact blk_lt h
theorem Cur.keepB {w w' : World} {k B : Nat} (h : Cur w k) (hb : Below B w w') (hB : k < B) : Cur w' k := by
  have hk := h.lt
  obtain ⟨p, n, cap, i, x, h1, h2, ⟨f, p', cap', e, hm, h3⟩, h4⟩ := h
  injection e with e1 _ e3
  subst e1 e3
  refine ⟨p, n, cap, i, x, by rw [hb.block k hB]; exact h1, h2, ⟨f, p, cap, rfl, hm, fun h0 => ?_⟩, h4⟩
  obtain ⟨b, off, hp, hc⟩ := h3 h0
  have hlt := h4 h0 _ hp
  dsimp only at hlt
  exact ⟨b, off, hp, fun j hj => by rw [World.cell?_of_block (w := w) (hb.block b (by omega))]; exact hc j hj⟩
theorem Frm.thenB {lo hi B : Nat} {a b c : World} (h : Frm lo hi a b) (hb : Below B b c) (hB : a.heap.size ≤ B) : Frm lo hi a c :=
  ⟨hb.os.trans h.os, hb.tape.trans h.tape, hb.output.trans h.output, Nat.le_trans h.size hb.size, fun k hk ho => (hb.block k (by omega)).trans (h.block k hk ho)⟩
theorem OwnI.setOther {T : TypeId} {w : World} {lo hi : Nat} {v : Value} {xs : List Int} (h : OwnI T w lo hi v xs) {a : Addr} (hne : v.ownBlock ≠ some a.block) (u : Value) : OwnI T (w.setCell a u) lo hi v xs :=
  ⟨ownsRow_of_block h.1 fun b hb => Below.heap_setCell _ _ _ _ fun e => hne (by rw [hb, e]), h.2⟩
theorem Cur.below {w w' : World} {k : Nat} (h : Cur w k) (hb : Below w.heap.size w w') : Cur w' k := by
  obtain ⟨p, n, cap, i, x, h1, h2, h3, h4⟩ := h
  exact ⟨p, n, cap, i, x, blk_later h1 hb, h2, h3.below hb, h4⟩

set_option maxRecDepth 100000 in
set_option maxHeartbeats 2000000 in
theorem l1Byte_any (k : Nat) (w : World) (h : Cur w k) :
    Calls Tryz.prog 30 #[.pointer (some ⟨k, 0, none⟩)] w fun e w' => ∃ x : Int, e = .returned (.int .i64 x) ∧ 0 ≤ x ∧ x ≤ 255 ∧ Cur w' k ∧ Frm k (k + 1) w w' := by
  obtain ⟨p, n, cap, i, x, h1, h2, ⟨f, h3⟩, h4⟩ := h
  obtain ⟨c0, c1, c2, cf, cz⟩ := blk3 h1
  obtain ⟨_, _, e, ⟨hx1, hx2⟩, hxc⟩ := h3
  injection e with e1 e2 e3
  subst e1 e3
  unfold maxLen at hx2
  have Hxc := Lib.hid hxc
  clear hxc e2
  go_enter Tryz.func30, Tryz.ntmps30
  go_wp2_with fail
  go_quiet (fail)
  obtain ⟨X, hX⟩ : ∃ X, X = wrap64 (wrap64 (x * 6364136223846793005) + 1442695040888963407) := ⟨_, rfl⟩
  rw [← hX]
  obtain ⟨Y, hY⟩ : ∃ Y, Y = bits BinOp.and IntKind.i64 (bits BinOp.xor IntKind.i64 (X / 8589934592) (X / 35184372088832)) 255 := ⟨_, rfl⟩
  rw [← hY]
  have hY2 := and255 (bits BinOp.xor IntKind.i64 (X / 8589934592) (X / 35184372088832))
  rw [← hY] at hY2
  clear hX hY
  have hf2 : Frm k (k + 1) w ((w.setCell ⟨k, 2, none⟩ (.int .i64 X)).drewN nq) := ((Frm.refl k (k + 1) w).setCell (Nat.le_refl _) (Nat.lt_succ_self _) _).drewN nq
  have hh2 : ((w.setCell ⟨k, 2, none⟩ (.int .i64 X)).drewN nq).heap[k]? = some (.cells #[.slice p n cap, .int .i64 (i : Int), .int .i64 X] 56 (0, 0)) := heap_setCell_at h1 2 _
  have hB2 : Byts ((w.setCell ⟨k, 2, none⟩ (.int .i64 X)).drewN nq) (.slice p n cap) n := Byts.frm ⟨f, _, _, rfl, ⟨hx1, by unfold maxLen; omega⟩, Hxc.out⟩ hf2 h4
  generalize (w.setCell ⟨k, 2, none⟩ (.int .i64 X)).drewN nq = w2 at *
  clear c0 c1 c2 cf cz Hxc f
  obtain ⟨c0, c1, c2, cf, cz⟩ := blk3 hh2
  have HB2 := Lib.hid hB2
  have Hf2 := Lib.hid hf2
  obtain ⟨f, p', cap', e, _, hxc⟩ := hB2
  injection e with e1 _ e3
  subst e1 e3
  clear hf2
  by_cases hlt : i < n
  · obtain ⟨b, off, rfl, hc⟩ := hxc (by omega)
    have cb := hc i hlt
    have hlt2 : (i : Int) < (n : Int) := by omega
    clear hxc hc
    go_wp2_with fail
    go_quiet (fail)
    go_wp2_with fail
    go_quiet (fail)
    obtain ⟨Z, hZ⟩ : ∃ Z, Z = bits BinOp.and IntKind.i64 (wrap64 (Y + wrap64 (f i))) 255 := ⟨_, rfl⟩
    rw [← hZ]
    have hZ2 := and255 (wrap64 (Y + wrap64 (f i)))
    rw [← hZ] at hZ2
    clear hZ
    have hcast : (i : Int) + 1 = ((i + 1 : Nat) : Int) := by omega
    have Hcast := Lib.hid hcast
    clear hcast
    go_wp2_with fail
    go_ret
    rw [Hcast.out]
    refine ⟨Z, rfl, hZ2.1, hZ2.2, ⟨_, n, cap, i + 1, X, by exact heap_setCell_at hh2 1 _, by omega, ?_, h4⟩, ?_⟩
    · exact HB2.out.frm (k := k) (Frm.setCell ((Frm.refl k (k + 1) w2).drewN _) (Nat.le_refl k) (Nat.lt_succ_self k) _) h4
    · exact Frm.setCell (Hf2.out.drewN _) (Nat.le_refl k) (Nat.lt_succ_self k) _
  · have hlt2 : ¬ (i : Int) < (n : Int) := by omega
    clear hxc
    go_wp2_with fail
    go_quiet (fail)
    go_wp2_with fail
    go_ret
    exact ⟨Y, rfl, hY2.1, hY2.2, ⟨p, n, cap, i, X, hh2, h2, HB2.out.frm (k := k) ((Frm.refl k (k + 1) w2).drewN _) h4, h4⟩, Hf2.out.drewN _⟩

set_option maxRecDepth 100000 in
set_option maxHeartbeats 2000000 in
/-- a number from 0 to m - 1, where m is not great -/
theorem l1Below_any (k m : Nat) (w : World) (h : Cur w k) (h0 : 1 ≤ m) (hm : m ≤ 256) :
    Calls Tryz.prog 13 #[.pointer (some ⟨k, 0, none⟩), .int .i64 (m : Int)] w fun e w' => ∃ x : Nat, e = .returned (.int .i64 (x : Int)) ∧ x < m ∧ Cur w' k ∧ Frm k (k + 1) w w' := by
  have Hc := Lib.hid h
  clear h
  go_enter Tryz.func13, Tryz.ntmps13
  go_wp2_with fail
  refine (l1Byte_any k _ Hc.out).mono ?_
  rintro e w1 ⟨x, rfl, hx0, hx1, hc1, hf1⟩
  obtain ⟨X, rfl⟩ := Int.eq_ofNat_of_zero_le hx0
  have Hc1 := Lib.hid hc1
  have Hf1 := Lib.hid hf1
  clear hc1 hf1
  go_wp2_with fail
  go_ret
  exact ⟨X % m, ret_int (Int.natCast_emod X m).symm, Nat.mod_lt _ (by omega), Hc1.out, Hf1.out⟩

set_option maxRecDepth 100000 in
set_option maxHeartbeats 2000000 in
theorem l1Once_any (k m : Nat) (w : World) (h : Cur w k) (h0 : 1 ≤ m) (hm : m ≤ 256) :
    Calls Tryz.prog 15 #[.pointer (some ⟨k, 0, none⟩), .int .i64 (m : Int)] w fun e w' => ∃ b : Bool, e = .returned (.bool b) ∧ Cur w' k ∧ Frm k (k + 1) w w' := by
  have Hc := Lib.hid h
  clear h
  go_enter Tryz.func15, Tryz.ntmps15
  go_wp2_with fail
  refine (l1Below_any k m _ Hc.out h0 hm).mono ?_
  rintro e w1 ⟨x, rfl, hx, hc1, hf1⟩
  go_wp2_with fail
  go_ret
  exact ⟨_, rfl, hc1, hf1⟩

end Go.Proofs.YtgebjjpcgakjgaaGreat

namespace Go.Proofs.YtgebjjpcgakjgaaGreat
set_option linter.all false
open Go.RowKit

set_option maxRecDepth 100000 in
set_option maxHeartbeats 400000 in
theorem lawInts_any (v1 v2 : Value) (xs ys : List Int) (w : World) (h1 : Ints w v1 xs) (h2 : Ints w v2 ys) :
    Calls Tryz.prog 25 #[v1, v2] w fun e w' => e = .returned (.bool (decide (xs = ys))) ∧ Qt w w' := by
  obtain ⟨p, cap, rfl, ⟨hx1, hx⟩, hxc⟩ := h1
  obtain ⟨q, cap', rfl, ⟨hy1, hy⟩, hyc⟩ := h2
  unfold maxLen at hx hy
  by_cases hl : xs.length = ys.length
  · have e1 : ((xs.length : Int) != (ys.length : Int)) = false := by simp [hl]
    have Hl := Lib.hid hl
    clear hl
    go_enter Tryz.func25, Tryz.ntmps25
    go_wp2
    clear e1
    go_loopg [5] xs.length (fun g i wr => ∃ k : Nat, k ≤ xs.length ∧ g = xs.length - k ∧ i = .int .i64 k ∧ Qt w wr ∧ Hid (∀ j, j < k → xs.getD j 0 = ys.getD j 0))
    case atStart => exact ⟨0, Nat.zero_le _, rfl, rfl, Qt.refl _, fun j hj => absurd hj (Nat.not_lt_zero _)⟩
    case round =>
      obtain ⟨k, hk, rfl, rfl, hq, hp⟩ := hrel
      by_cases hlt : k < xs.length
      · obtain ⟨b, off, rfl, hc⟩ := hxc (by omega)
        have hl := Hl.out
        obtain ⟨b', off', rfl, hc'⟩ := hyc (by omega)
        have c1 := hq.cell (hc k hlt)
        have c2 := hq.cell (hc' k (by omega))
        have hk2 : k < ys.length := by omega
        unfold iv at c1 c2
        clear hl hxc hyc hc hc'
        go_wp2
        go_quiet (fail)
        go_wp2
        · have ht : (xs[k] != ys[k]) = true := by assumption
          go_ret
          refine ⟨ret_bool ?_, hq.drewN _⟩
          symm
          simp only [decide_eq_false_iff_not]
          intro e
          subst e
          simp at ht
        · have ht : (xs[k] != ys[k]) = false := by assumption
          go_roundg (xs.length - (k + 1))
          case measure => omega
          case rel =>
            refine ⟨k + 1, by omega, rfl, by go_num, hq.drewN _, eq_snoc hp.out ?_⟩
            have := by simpa using ht
            simpa [List.getD_eq_getElem?_getD, hlt, hk2] using this
      · go_wp2
        go_ret
        refine ⟨ret_bool ?_, hq⟩
        symm
        simp only [decide_eq_true_eq]
        exact getD_eq_list Hl.out fun j hj => hp.out j (by omega)
  · have e1 : ((xs.length : Int) != (ys.length : Int)) = true := by simp; omega
    go_enter Tryz.func25, Tryz.ntmps25
    go_wp2
    go_ret
    refine ⟨ret_bool ?_, Qt.refl _⟩
    symm
    simp only [decide_eq_false_iff_not]
    intro e
    exact hl (by rw [e])

set_option maxRecDepth 100000 in
set_option maxHeartbeats 400000 in
theorem big_any (p : Option Addr) (n cap : Nat) (w : World) (hn : n ≤ maxLen) :
    Calls Tryz.prog 4 #[.slice p n cap] w fun e w' => e = .returned (.bool (decide (1048576 < n))) ∧ w = w' := by
  unfold maxLen at hn
  go_enter Tryz.func4, Tryz.ntmps4
  by_cases h : 1048576 < n
  · have h2 : (1048576 : Int) < (n : Int) := by omega
    go_wp2
    go_ret
    exact ⟨ret_bool (by simp [h]), rfl⟩
  · have h2 : ¬ (1048576 : Int) < (n : Int) := by omega
    go_wp2
    go_ret
    exact ⟨ret_bool (by simp [h]), rfl⟩

section
open Go.ChangeShapes Go.WideShapes Go.RowKit Go.Deep Go.WideElems Go.Maps
/-- bytes that came in -/
theorem trod_byts {H : Type} {enc : TypeId × Value → H} {P : Program} {W : World} {m : Nat} {t e : TypeId} {a : Option Addr} {l c : Nat} {y : DataW H × List MemPlace}
    (ht : P.underlying t = some (.slice e)) (he : P.underlying e = some (.int .u8)) (hc : P.cellsOf e = 1)
    (h : DataW.trod enc P W 0 (fun _ => true) true m t [.slice a l c] = some y) : l ≤ maxLen ∧ Byts W (.slice a l c) l := by
  rcases open_ints ht he hc h with ⟨hcs, _⟩ | ⟨x, l', c', zs, hcs, _, hl, hm, hz, _, hcell, _⟩
  · injection hcs with hcs
    injection hcs with h1 h2 h3
    subst h1 h2 h3
    exact ⟨Nat.zero_le _, fun _ => 0, none, 0, rfl, ⟨Nat.le_refl _, Nat.zero_le _⟩, fun h => absurd h (Nat.lt_irrefl _)⟩
  · injection hcs with hcs
    injection hcs with h1 h2 h3
    subst h1 h2 h3
    refine ⟨by omega, fun j => zs.getD j 0, some x, c, rfl, ⟨hl, hm⟩, fun h0 => ?_⟩
    have hz' : zs.length = c := by simpa using hz
    have h0' := hcell 0 (by omega)
    obtain ⟨b, off, spot⟩ := x
    have hs : spot = none := by
      cases spot with
      | none => rfl
      | some s => simp [Addr.add, World.cell?] at h0'; split at h0' <;> simp_all
    subst hs
    refine ⟨b, off, rfl, fun j hj => ?_⟩
    have hadd : (⟨b, off, none⟩ : Addr).add j = ⟨b, off + j, none⟩ := by unfold Addr.add; split <;> simp_all
    rw [← hadd]
    exact hcell j (by omega)
end

end Go.Proofs.YtgebjjpcgakjgaaGreat

namespace Go.Proofs.YtgebjjpcgakjgaaGreat
set_option linter.all false
open Go.RowKit

/-- bytes that can be read, each in its range -/
def Byts8 (w : World) (v : Value) (n : Nat) : Prop := ∃ f : Nat → Int, (Rd w v n fun j => .int .u8 (f j)) ∧ ∀ j, j < n → 0 ≤ f j ∧ f j ≤ 255
theorem Byts8.byts {w : World} {v : Value} {n : Nat} (h : Byts8 w v n) : Byts w v n := by
  obtain ⟨f, h, _⟩ := h
  exact ⟨f, h⟩
theorem Byts8.below {w w' : World} {v : Value} {n : Nat} (h : Byts8 w v n) (hb : Below w.heap.size w w') : Byts8 w' v n := by
  obtain ⟨f, h, h2⟩ := h
  exact ⟨f, h.below hb, h2⟩

theorem identity_ret (n : Nat) : ∀ j, j < n → (Value.int .i64 (j : Int)) = iv (idL n) j := fun j hj => by rw [iv, idL_getD hj]

set_option maxRecDepth 100000 in
set_option maxHeartbeats 2000000 in
theorem implIdentity_any (n : Nat) (w : World) (h1 : 1 ≤ n) (h7 : n ≤ 7) :
    Calls Tryz.prog 27 #[.int .i64 (n : Int)] w (RetI w (idL n)) := by
  have hmk := run_make_row' (P := Tryz.prog) 24 3 (.int .i64 0) 8 Tryz.underlying24 info_int rfl .i64 .i64 n (by omega) (by omega)
  have hn1 : (1 : Int) ≤ n := by omega
  have hn7 : (n : Int) ≤ 7 := by omega
  have hns : ¬ (n : Int) < 1 := by omega
  have hns2 : ¬ (7 : Int) < n := by omega
  have hs : ∀ w, Calls Tryz.prog 54 #[.int .i64 (n : Int)] w fun e w' => e = .returned (.bool true) ∧ w = w' := fun w => by
    go_enter Tryz.func54, Tryz.ntmps54
    go_wp2_with fail
    go_ret
    exact ⟨rfl, rfl⟩
  go_enter Tryz.func27, Tryz.ntmps27
  go_wp2_with fail
  refine (hs w).mono ?_
  rintro e w1 ⟨rfl, rfl⟩
  go_wp2_with fail
  go_loopg [12] n (fun g s14 wr => ∃ k : Nat, k ≤ n ∧ g = n - k ∧ s14 = .int .i64 k ∧ Below w.heap.size w wr ∧ Hid (wr.rowIs w.heap.size 3 n (fun j => .int .i64 (if j < k then (j : Int) else 0))))
  case atStart =>
    refine ⟨0, Nat.zero_le _, rfl, rfl, below_alloc _ _, ?_⟩
    exact (World.rowIs_made w (.int .i64 0) n 3).congr fun j _ => by simp
  case round =>
    obtain ⟨k, hk, rfl, rfl, hbw, hrow⟩ := hrel
    by_cases hlt : k < n
    · obtain ⟨z, c2⟩ : ∃ z, wr.cell? ⟨w.heap.size, k, none⟩ = some (.int .i64 z) := ⟨_, hrow.out.cell hlt⟩
      have c3 := hrow.out.frozen k
      have i1 : (k : Int) < (n : Int) := by omega
      have Hrow := Lib.hid hrow.out
      clear hrow
      go_wp2_with fail
      go_roundg (n - (k + 1))
      case measure => omega
      case rel =>
        refine ⟨k + 1, by omega, rfl, by go_num, hbw.setCell (Nat.le_refl _) _, (Hrow.out.set k _).congr fun j hj => ?_⟩
        by_cases e : j = k
        · subst e; simp
        · have : j < k + 1 ↔ j < k := by omega
          simp [e, this]
    · obtain rfl : k = n := by omega
      have i1 : ¬ (k : Int) < (k : Int) := by omega
      have ho := rowIs_ints (xs := idL k) (by rw [idL_length]; exact hrow.out.congr fun j hj => by rw [iv, idL_getD hj, if_pos hj]) (by rw [idL_length]; unfold maxLen; omega)
      rw [idL_length] at ho
      have Ho := Lib.hid ho
      clear ho hrow
      go_wp2_with fail
      go_ret
      exact ⟨_, rfl, Ho.out, hbw⟩

section
open Go.ChangeShapes Go.WideShapes Go.RowKit Go.Deep Go.WideElems Go.Maps
/-- bytes that came in -/
theorem trod_byts8 {H : Type} {enc : TypeId × Value → H} {P : Program} {W : World} {m : Nat} {t e : TypeId} {a : Option Addr} {l c : Nat} {y : DataW H × List MemPlace}
    (ht : P.underlying t = some (.slice e)) (he : P.underlying e = some (.int .u8)) (hc : P.cellsOf e = 1)
    (h : DataW.trod enc P W 0 (fun _ => true) true m t [.slice a l c] = some y) : l ≤ maxLen ∧ Byts8 W (.slice a l c) l := by
  rcases open_ints ht he hc h with ⟨hcs, _⟩ | ⟨x, l', c', zs, hcs, _, hl, hm, hz, _, hcell, hwf⟩
  · injection hcs with hcs
    injection hcs with h1 h2 h3
    subst h1 h2 h3
    exact ⟨Nat.zero_le _, fun _ => 0, ⟨none, 0, rfl, ⟨Nat.le_refl _, Nat.zero_le _⟩, fun h => absurd h (Nat.lt_irrefl _)⟩, fun j hj => absurd hj (Nat.not_lt_zero _)⟩
  · injection hcs with hcs
    injection hcs with h1 h2 h3
    subst h1 h2 h3
    have hz' : zs.length = c := by simpa using hz
    refine ⟨by omega, fun j => zs.getD j 0, ⟨some x, c, rfl, ⟨hl, hm⟩, fun h0 => ?_⟩, fun j hj => ?_⟩
    · have h0' := hcell 0 (by omega)
      obtain ⟨b, off, spot⟩ := x
      have hs : spot = none := by
        cases spot with
        | none => rfl
        | some s => simp [Addr.add, World.cell?] at h0'; split at h0' <;> simp_all
      subst hs
      refine ⟨b, off, rfl, fun j hj => ?_⟩
      have hadd : (⟨b, off, none⟩ : Addr).add j = ⟨b, off + j, none⟩ := by unfold Addr.add; split <;> simp_all
      rw [← hadd]
      exact hcell j (by omega)
    · have hw := hwf (zs.getD j 0) (getD_mem (by omega))
      simp [Lit.wf, IntKind.wrap] at hw
      rw [show IntKind.u8.min = 0 from by rfl, show IntKind.u8.max = 255 from by rfl] at hw
      simpa [List.getD_eq_getElem?_getD] using hw
end

end Go.Proofs.YtgebjjpcgakjgaaGreat

namespace Go.Proofs.YtgebjjpcgakjgaaGreat
set_option linter.all false
set_option maxRecDepth 100000
open Go.RowKit Go.Sort Go.Shelf

theorem eraseIdx_getD {xs : List Int} {i j : Nat} (hi : i < xs.length) : (xs.eraseIdx i).getD j 0 = if j < i then xs.getD j 0 else xs.getD (j + 1) 0 := by
  rw [List.getD_eq_getElem?_getD, List.getElem?_eraseIdx]
  split <;> rw [List.getD_eq_getElem?_getD]

theorem delete_any (g cap i n : Nat) (lo hi : Nat) (xs : List Int) (w : World) (h : OwnI 3 w lo hi (.slice (some ⟨g, 0, none⟩) n cap) xs) (hn : xs.length = n) (hi' : i < n) :
    Calls Tryz.prog 71 #[.slice (some ⟨g, 0, none⟩) n cap, .int .i64 (i : Int), .int .i64 ((i : Int) + 1)] w fun e w' =>
      e = .returned (.slice (some ⟨g, 0, none⟩) (n - 1) cap) ∧ OwnI 3 w' lo hi (.slice (some ⟨g, 0, none⟩) (n - 1) cap) (xs.eraseIdx i) ∧ Frm lo hi w w' := by
  have hf := h.fn
  rw [hn] at hf
  obtain ⟨F, ⟨c, hc1, hc2, hc3⟩, hF, hl, hh, hnc, hcm, _⟩ := hf.opened
  have hH : Holds encI w g 0 xs.toArray := fun j hj => by
    have hj' : j < n := by rw [← hn]; simpa using hj
    refine ⟨?_, ?_⟩
    · rw [Nat.zero_add, hf.cell hj']
      show some (Value.int .i64 (xs.getD j 0)) = some (Value.int .i64 (xs.toArray[j]!))
      rw [getElem!_pos xs.toArray j hj, getD_lt (by rw [hn]; exact hj')]
      simp
    · rw [Nat.zero_add]; exact hf.frozen j
  have es : xs.toArray.size = n := by simpa using hn
  have hcon := AnyG.slices_Delete_int_arr (P := Tryz.prog) (ρ := Tryz.delI_ren) { Tryz.delI with } g 0 cap i (i + 1) xs.toArray w hH (by rw [es]; exact hnc) (by unfold maxLen at hcm; omega) (by omega) (by rw [es]; omega)
  change Calls Tryz.prog 71 _ _ _ at hcon
  rw [es, show i + 1 - i = 1 by omega, show ((i + 1 : Nat) : Int) = (i : Int) + 1 by omega] at hcon
  refine hcon.mono ?_
  rintro e w' ⟨rfl, q, rfl⟩
  obtain ⟨D, hD⟩ : ∃ D, D = (xs.toArray.toList.take i ++ xs.toArray.toList.drop (i + 1) ++ List.replicate 1 0).toArray := ⟨_, rfl⟩
  rw [← hD]
  have hDs : D.size = n := by rw [hD]; simp; omega
  have hDg : ∀ j, j < n - 1 → D[j]! = (xs.eraseIdx i).getD j 0 := fun j hj => by
    rw [getElem!_pos D j (by omega)]
    have : D[j]? = some ((xs.eraseIdx i).getD j 0) := by
      rw [hD, List.getElem?_toArray, List.getElem?_append_left (by simp; omega), eraseIdx_getD (by omega)]
      have e2 : (xs.toArray.toList.take i).length = i := by simp; omega
      by_cases hji : j < i
      · rw [List.getElem?_append_left (by omega), if_pos hji, List.getElem?_take, if_pos hji]
        simp [List.getD_eq_getElem?_getD, show j < xs.length by omega]
      · rw [List.getElem?_append_right (by omega), e2, if_neg hji, List.getElem?_drop, show i + 1 + (j - i) = j + 1 by omega]
        simp [List.getD_eq_getElem?_getD, show j + 1 < xs.length by omega]
    rw [Array.getElem?_eq_getElem (by omega)] at this
    exact Option.some.inj this
  have hblk : (putRow encI (Sort.ahead w q) g 0 D).heap[g]? = some (.cells (putCells encI 0 D c) 3 (0, 0)) := by
    unfold putRow mapBlock
    simp only [Array.getElem?_modify]
    have : (Sort.ahead w q).heap = w.heap := rfl
    rw [this, hc1]
    simp [onCells]
  have hoth : ∀ k, k < w.heap.size → k ≠ g → (putRow encI (Sort.ahead w q) g 0 D).heap[k]? = w.heap[k]? := fun k hk hne => by
    unfold putRow mapBlock
    simp only [Array.getElem?_modify]
    have : (Sort.ahead w q).heap = w.heap := rfl
    rw [this, if_neg (fun e => hne e.symm)]
  refine ⟨rfl, ?_, ⟨rfl, rfl, rfl, by rw [size_putRow]; exact Nat.le_refl _, fun k hk ho => hoth k hk (fun e => by omega)⟩⟩
  have hlen : (xs.eraseIdx i).length = n - 1 := by rw [List.length_eraseIdx, if_pos (by omega), hn]
  have hown : OwnF (putRow encI (Sort.ahead w q) g 0 D) lo hi 3 (.slice (some ⟨g, 0, none⟩) (n - 1) cap) (n - 1) (iv (xs.eraseIdx i)) := by
    refine OwnF.mk' (F := fun j => if j < n then .int .i64 (D[j]!) else F j) ⟨_, hblk, by simp [putCells, hc2], fun j hj => ?_⟩ hl hh (by omega) hcm (fun j hj => ?_)
    · simp only [putCells, Array.getElem?_mapIdx, hc3 j hj, Option.map_some, Nat.zero_le, true_and, Nat.zero_add, Nat.sub_zero, hDs]
    · rw [if_pos (by omega)]
      show Value.int .i64 (D[j]!) = .int .i64 ((xs.eraseIdx i).getD j 0)
      rw [hDg j hj]
  rw [← hlen] at hown ⊢
  exact OwnF.ints hown

/-- what is left, and what is taken, behind k numbers of a code -/
def poR (c : List Int) : Nat → List Int
  | 0 => idL c.length
  | k + 1 => (poR c k).eraseIdx (c.getD k 0).toNat
def poO (c : List Int) : Nat → List Int
  | 0 => []
  | k + 1 => poO c k ++ [(poR c k).getD (c.getD k 0).toNat 0]
def poB (c : List Int) : Bool := (List.range c.length).all fun k => decide (0 ≤ c.getD k 0) && decide (c.getD k 0 < ((c.length - k : Nat) : Int))
theorem poB_at {c : List Int} (h : poB c = true) {k : Nat} (hk : k < c.length) : 0 ≤ c.getD k 0 ∧ c.getD k 0 < ((c.length - k : Nat) : Int) := by
  unfold poB at h
  have := List.all_eq_true.1 h k (List.mem_range.2 hk)
  simpa using this
theorem poR_len {c : List Int} (h : poB c = true) : ∀ k, k ≤ c.length → (poR c k).length = c.length - k
  | 0, _ => by simp [poR, idL]
  | k + 1, hk => by
    have ih := poR_len h k (by omega)
    have := poB_at h (k := k) (by omega)
    unfold poR
    rw [List.length_eraseIdx, if_pos (by omega), ih]
    omega
theorem poO_len (c : List Int) : ∀ k, (poO c k).length = k
  | 0 => rfl
  | k + 1 => by unfold poO; rw [List.length_append, poO_len c k]; rfl

set_option maxHeartbeats 4000000 in
theorem PermOfCode_any (v : Value) (c : List Int) (w : World) (h : Ints w v c) (h1 : 1 ≤ c.length) (h7 : c.length ≤ 7) (hb : poB c = true) :
    Calls Tryz.prog 51 #[v] w (RetI w (poO c c.length)) := by
  obtain ⟨p, cap, rfl, ⟨m1, m2⟩, hq⟩ := h
  obtain ⟨b, off, rfl, hc⟩ := hq (by omega)
  clear hq
  unfold maxLen at m2
  obtain ⟨n, hn⟩ : ∃ n, n = c.length := ⟨_, rfl⟩
  have Hn := Lib.hid hn
  have HB := Lib.hid hb
  have HRl := Lib.hid (show ∀ k, k ≤ n → (poR c k).length = n - k from fun k hk => by rw [hn]; exact poR_len hb k (by omega))
  have Hat := Lib.hid (show ∀ k, k < n → 0 ≤ c.getD k 0 ∧ c.getD k 0 < ((n - k : Nat) : Int) from fun k hk => by rw [hn]; exact poB_at hb (by omega))
  rw [← hn] at h1 h7 m1 hc ⊢
  have Hc := Lib.hid hc
  have h0 := idL_length n
  clear hn hb hc
  go_enter Tryz.func51, Tryz.ntmps51
  go_wp2_with fail
  refine (implIdentity_any n _ h1 h7).mono ?_
  rintro e w1 ⟨u, rfl, ho, hb1⟩
  obtain ⟨pu, ku, rfl, hk1, hk2⟩ := ho.shape
  rw [h0] at hk1 ⊢
  obtain ⟨gu, rfl, _, _, _⟩ := ho.fn.at_ (by rw [h0]; exact h1)
  unfold maxLen at hk2
  have keq := Lib.run_eql_slice_nil (P := Tryz.prog) w1 24 3 (some ⟨gu, 0, none⟩) n ku 0 0 Tryz.underlying24
  have Ho := Lib.hid (show OwnI 3 w1 w.heap.size w1.heap.size (.slice (some ⟨gu, 0, none⟩) n ku) (idL n) by
    have := ho
    rw [h0] at this
    exact this)
  have Hb1 := Lib.hid hb1
  have hs1 := hb1.size
  clear ho hb1 h0
  go_wp2_with fail
  clear keq
  go_loopg [3, 4, 6, 15] n (fun g s3 s4 s6 s15 wr => ∃ (k : Nat), k ≤ n ∧ g = n - k ∧ s15 = .int .i64 k ∧ s3 = .slice (some ⟨gu, 0, none⟩) (n - k) ku ∧ Hid (OwnI 3 wr w.heap.size w1.heap.size s3 (poR c k)) ∧ Hid (OwnI 3 wr w1.heap.size wr.heap.size s4 (poO c k)) ∧ Hid (Below w.heap.size w wr) ∧ w1.heap.size ≤ wr.heap.size)
  case atStart =>
    refine ⟨0, Nat.zero_le _, rfl, rfl, rfl, ?_, ?_, Hb1.out.trans ((below_alloc w1 _).mono hs1), by rw [size_alloc]; omega⟩
    · show OwnI _ _ _ _ _ (idL c.length)
      rw [← Hn.out]
      exact Ho.out.below (below_alloc w1 _)
    · exact (OwnF.ints (xs := []) (OwnF.made0 w1 3 (iv []))).mono (Nat.le_refl _) (by rw [size_alloc]; exact Nat.le_refl _)
  case round =>
    obtain ⟨k, hk, rfl, rfl, rfl, hR, hO, hb, hsz1⟩ := hrel
    obtain ⟨wo, rfl⟩ : ∃ x : World, x = wr := ⟨_, rfl⟩
    have HR := Lib.hid hR.out
    have HO := Lib.hid hO.out
    have Hb := Lib.hid hb.out
    clear hR hO hb
    by_cases hlt : k < n
    · have hkz : (k : Int) < (n : Int) := by omega
      have c0 : wo.cell? ⟨b, off + k, none⟩ = some (.int .i64 (c.getD k 0)) := cell_below Hb.out (Hc.out k hlt)
      obtain ⟨r1, r2⟩ := Hat.out k hlt
      obtain ⟨x, hx⟩ := Int.eq_ofNat_of_zero_le r1
      rw [hx] at c0 r2
      have Hx := Lib.hid hx
      have hxn : x < n - k := by omega
      have hlen := HRl.out k (by omega)
      have c1 := HR.out.fn.cell (j := x) (by rw [hlen]; exact hxn)
      obtain ⟨y, hy⟩ : ∃ y, y = (poR c k).getD x 0 := ⟨_, rfl⟩
      have c1' : wo.cell? ⟨gu, x, none⟩ = some (.int .i64 y) := by rw [hy]; exact c1
      have Hy := Lib.hid hy
      have hx0 : ¬ ((x : Nat) : Int) < 0 := by omega
      have hxl : ¬ (((n - k : Nat) : Int) ≤ (x : Int)) := by omega
      have hxl2 : (x : Int) < ((n - k : Nat) : Int) := by omega
      obtain ⟨p4, k4, e4, _, _⟩ := HO.out.shape
      subst e4
      have hol := poO_len c k
      rw [hol] at HO ⊢
      have hofn := HO.out.fn
      rw [hol] at hofn
      have Ho4 := Lib.hid hofn
      have Hol := Lib.hid hol
      have hw1 : IntKind.i64.wrap ((x : Int) + 1) = (x : Int) + 1 := k64 (by omega) (by omega)
      have Hlen := Lib.hid hlen
      clear c1 hy hlen hx hol hofn r1 r2
      go_wp2_with (at_builtin; go_must (refine wpList_append_F rfl (.tmp 27) (.tmp 32) 24 rfl 3 (.int .i64 0) 8 Tryz.underlying24 info_int rfl w1.heap.size wo.heap.size _ k (iv (poO c k)) rfl (Ho4.out.below (below_alloc wo _)) (by rw [size_alloc]; omega) (by rw [size_alloc]; omega) _ 1 _ rfl (rd_one _ _ _ rfl) (fun j _ => rfl) (by unfold maxLen; omega) (by omega) ?_; intro v2 w2 ho2 hg2))
      have hbB : Below w1.heap.size (wo.alloc (.cells #[.int .i64 y] 3)) w2 := grownBy_below hg2 Ho4.out.blocks (Nat.le_refl _) (by rw [size_alloc]; omega)
      have HR2 := Lib.hid (show OwnI 3 w2 w.heap.size w1.heap.size (.slice (some ⟨gu, 0, none⟩) (n - k) ku) (poR c k) from
        Own.keep HR.out fun t _ ht1 ht2 => (hbB.block t ht1).trans ((below_alloc wo _).block t ht2))
      have HO2 := Lib.hid (show OwnI 3 w2 w1.heap.size w2.heap.size v2 (poO c k ++ [y]) from OwnI.snoc1 (by rw [Hol.out]; exact ho2))
      have Hb2 := Lib.hid ((Hb.out.trans ((below_alloc wo (.cells #[.int .i64 y] 3)).mono Hb.out.size)).trans (hbB.mono hs1))
      have hs2 := hbB.size
      rw [size_alloc] at hs2
      have HD := Lib.hid (delete_any gu ku x (n - k) w.heap.size w1.heap.size (poR c k) w2 HR2.out Hlen.out hxn)
      obtain ⟨pv, lv, kv, rfl⟩ : ∃ p l k, v2 = .slice p l k := by obtain ⟨p, k, e, _⟩ := HO2.out.shape; exact ⟨_, _, _, e⟩
      clear ho2 hg2 hbB
      refine HD.out.mono ?_
      rintro e w3 ⟨rfl, hR3, hf3⟩
      have HR3 := Lib.hid hR3
      have HO3 := Lib.hid ((HO2.out.frm hf3 (Or.inr (Nat.le_refl _))).mono (Nat.le_refl _) hf3.size)
      have Hb3 := Lib.hid (Hb2.out.trans (hf3.below (Nat.le_refl _) (by have := Hb2.out.size; omega)))
      have hs3 := hf3.size
      clear hR3 hf3
      go_wp2_with fail
      go_roundg (n - (k + 1))
      case measure => omega
      case rel =>
        have ex : (c.getD k 0).toNat = x := by rw [Hx.out]; rfl
        refine ⟨k + 1, by omega, rfl, by go_num, by rw [Nat.sub_sub], ?_, ?_, Hb3.out, by omega⟩
        · show OwnI _ _ _ _ _ ((poR c k).eraseIdx (c.getD k 0).toNat)
          rw [ex]
          exact HR3.out
        · show OwnI _ _ _ _ _ (poO c k ++ [(poR c k).getD (c.getD k 0).toNat 0])
          rw [ex, ← Hy.out]
          exact HO3.out
    · obtain rfl : k = n := by omega
      obtain ⟨p4, k4, e4, _, _⟩ := HO.out.shape
      subst e4
      go_wp2_with fail
      go_ret
      exact ⟨_, rfl, HO.out.mono hs1 (Nat.le_refl _), Hb.out⟩

end Go.Proofs.YtgebjjpcgakjgaaGreat
