/-
  addRow: a multiple of a row is added to another one, in it itself.
-/
import Derived.Test.YtajilmfaconjbaaLines
import Derived.StillTailTactics
namespace Go.Proofs.Ytajilmfaconjbaa
set_option linter.all false
open Go.RowKit

/-- a multiple of a row added to another one, number by number, modulo p -/
def addRowL (p k : Int) (xs ys : List Int) : List Int := (List.range xs.length).map fun (j : Nat) => (xs.getD j 0 + k * ys.getD j 0) % p
theorem addRowL_length (p k : Int) (xs ys : List Int) : (addRowL p k xs ys).length = xs.length := by simp [addRowL]
theorem addRowL_getD {p k : Int} {xs ys : List Int} {j : Nat} (h : j < xs.length) : (addRowL p k xs ys).getD j 0 = (xs.getD j 0 + k * ys.getD j 0) % p := by
  simp [addRowL, List.getD_eq_getElem?_getD, h]

/-- all numbers small, none below 0 -/
def Small (xs : List Int) : Prop := ∀ x ∈ xs, 0 ≤ x ∧ x ≤ 1000
theorem Small.at_ {xs : List Int} (h : Small xs) (j : Nat) : 0 ≤ xs.getD j 0 ∧ xs.getD j 0 ≤ 1000 := by
  by_cases hj : j < xs.length
  · exact h _ (getD_mem hj)
  · simp [List.getD_eq_getElem?_getD, show xs[j]? = none by simp; omega]

theorem grownBy_frm {w w' : World} {v : Value} {lo hi : Nat} (h : w.grownBy w' v.ownBlock) (hlo : ∀ k, v.ownBlock = some k → lo ≤ k ∧ k < hi) : Frm lo hi w w' :=
  ⟨h.os, h.tape, h.output, h.size, fun k hk ho => h.block k hk fun e => by have := hlo k e.symm; omega⟩

set_option maxRecDepth 100000 in
set_option maxHeartbeats 1000000 in
theorem addRow_any (v u : Value) (xs ys : List Int) (k p : Int) (lo hi : Nat) (w : World) (h : OwnI 3 w lo hi v xs) (hu : Ints w u ys) (hne : ∀ b, v.ownBlock = some b → u.ownBlock ≠ some b)
    (hl : xs.length ≤ ys.length) (hxs : Small xs) (hys : Small ys) (hk : 0 ≤ k ∧ k ≤ 1000) (hp : 1 ≤ p ∧ p ≤ 1000) :
    Calls Try.prog 67 #[v, .int .i64 k, u, .int .i64 p] w fun e w' => e = .returned (.tuple #[]) ∧ OwnI 3 w' lo hi v (addRowL p k xs ys) ∧ w.grownBy w' v.ownBlock := by
  obtain ⟨a, cap, rfl, hnc, hcm, _⟩ := h.fn.shape
  unfold maxLen at hcm
  obtain ⟨q, capu, rfl, ⟨hu1, hu2⟩, huc⟩ := hu
  unfold maxLen at hu2
  have Hf := Lib.hid h.fn
  have Hne := Lib.hid hne
  have Huc := Lib.hid huc
  have Hk := Lib.hid hk
  have Hp := Lib.hid hp
  have Hxs := Lib.hid hxs
  have Hys := Lib.hid hys
  clear hne huc hk hp hxs hys h
  go_enter Try.func67, Try.ntmps67
  go_wp2_with fail
  go_loopg [11] xs.length (fun g i wr => ∃ j : Nat, j ≤ xs.length ∧ g = xs.length - j ∧ i = .int .i64 j ∧ World.grownBy w wr (Value.ownBlock (.slice a xs.length cap)) ∧
    OwnF wr lo hi 3 (.slice a xs.length cap) xs.length (fun t => if t < j then .int .i64 ((xs.getD t 0 + k * ys.getD t 0) % p) else iv xs t))
  case atStart => exact ⟨0, Nat.zero_le _, rfl, rfl, World.grownBy.refl _ _, Hf.out.congr fun t _ => by simp⟩
  case round =>
    obtain ⟨j, hj, rfl, rfl, hg, hr⟩ := hrel
    by_cases hlt : j < xs.length
    · obtain ⟨g, rfl, hg1, hg2, hg3⟩ := hr.at_ (by omega)
      obtain ⟨b, off, rfl, hc⟩ := Huc.out (by omega)
      have hbg : b ≠ g := fun e => Hne.out g rfl (by simp [Value.ownBlock, e])
      obtain ⟨x, hx⟩ : ∃ x, x = xs.getD j 0 := ⟨_, rfl⟩
      obtain ⟨y, hy⟩ : ∃ y, y = ys.getD j 0 := ⟨_, rfl⟩
      have c1 : wr.cell? ⟨g, j, none⟩ = some (.int .i64 x) := by rw [hr.cell hlt]; simp [iv, hx]
      have c2 : wr.cell? ⟨b, off + j, none⟩ = some (.int .i64 y) := by
        have h0 := hc j (by omega)
        rw [World.cell?_of_block (w := w) (hg.block b (World.block_lt_of_cell? _ _ h0) (by simp [Value.ownBlock]; exact hbg)), h0, iv, hy]
      have c3 := hr.frozen j
      have hju : j < ys.length := by omega
      have sx := Hxs.out.at_ j
      have sy := Hys.out.at_ j
      rw [← hx] at sx
      rw [← hy] at sy
      have hkk := Hk.out
      have hpp := Hp.out
      have hm0 : 0 ≤ k * y := Int.mul_nonneg hkk.1 sy.1
      have hm1 : k * y ≤ 1000 * 1000 := Int.mul_le_mul hkk.2 sy.2 sy.1 (by omega)
      have b1 : -1000000000000000000 ≤ k * y := by omega
      have b2 : k * y ≤ 1000000000000000000 := by omega
      have b3 : -1000000000000000000 ≤ x + k * y := by omega
      have b4 : x + k * y ≤ 1000000000000000000 := by omega
      have hnn : 0 ≤ x + k * y := by omega
      have hp0 : ¬ p = 0 := by omega
      have e1 : Int.tmod (x + k * y) p = (x + k * y) % p := Int.tmod_eq_emod_of_nonneg hnn
      have b5 : 0 ≤ (x + k * y) % p := Int.emod_nonneg _ (by omega)
      have b6 : (x + k * y) % p < p := Int.emod_lt_of_pos _ (by omega)
      have b7 : -1000000000000000000 ≤ (x + k * y) % p := by omega
      have b8 : (x + k * y) % p ≤ 1000000000000000000 := by omega
      have Hx := Lib.hid hx
      have Hy := Lib.hid hy
      have E1 := Lib.hid e1
      have Hg := Lib.hid hg
      have Hr := Lib.hid hr
      have f1 := k64 b1 b2
      have f2 := k64 b3 b4
      have f3 := k64 b7 b8
      clear hx hy hc sx sy hm0 hm1 b1 b2 b3 b4 b5 b6 b7 b8 hg hr e1 hkk hpp
      go_wp2_with fail
      go_still_tail 16, (by kernel_rfl)
      change wpList _ _ _ _ _ wr.drew
      clear f1 f2 f3
      go_wp2_with fail
      go_roundg (xs.length - (j + 1))
      case measure => omega
      case rel =>
        refine ⟨j + 1, by omega, rfl, by go_num, ?_, OwnF.congr (f := fun t => if t = j then .int .i64 ((x + k * y) % p) else if t < j then .int .i64 ((xs.getD t 0 + k * ys.getD t 0) % p) else iv xs t) ?_ fun t ht => ?_⟩
        · exact ⟨Hg.out.os, Hg.out.tape, Hg.out.output, by simpa [World.setCell] using Hg.out.size, fun i hi hne => (Below.heap_setCell _ _ _ _ (by simpa [Value.ownBlock] using hne)).trans (Hg.out.block i hi hne)⟩
        · exact (Hr.out.set j _).keep fun _ _ _ _ => rfl
        · by_cases e : t = j
          · subst e
            simp only [if_true, show t < t + 1 by omega]
            rw [Hx.out, Hy.out]
          · by_cases e2 : t < j
            · simp only [e, if_false, e2, if_true, show t < j + 1 by omega]
            · simp only [e, if_false, e2, show ¬ t < j + 1 by omega]
    · go_wp2_with fail
      go_end0
      refine ⟨rfl, OwnF.ints ?_, hg⟩
      obtain rfl : j = xs.length := by omega
      rw [addRowL_length]
      exact hr.congr fun t ht => by simp only [ht, if_true]; rw [iv, addRowL_getD ht]

end Go.Proofs.Ytajilmfaconjbaa
