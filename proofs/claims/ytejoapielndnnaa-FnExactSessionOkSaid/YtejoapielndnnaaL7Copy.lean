/-
  l1Ints, l7Copy, l7Inverse, l7Top.
-/
import Derived.Test.YtejoapielndnnaaAt
import Derived.Test.YtejoapielndnnaaPivot
import Derived.Test.YtejoapielndnnaaHeld2
import Derived.Test.YtejoapielndnnaaApp2
namespace Go.Proofs.Ytejoapielndnnaa
set_option linter.all false
open Go.RowKit

set_option maxRecDepth 100000 in
set_option maxHeartbeats 400000 in
theorem l1Ints_any (v : Value) (xs : List Int) (w : World) (h : Ints w v xs) (hl : xs.length ≤ 1000000) :
    Calls Try.prog 95 #[v] w (RetI w xs) := by
  have hI := Lib.hid h
  obtain ⟨p, cap, rfl, ⟨hx1, hx2⟩, hxc⟩ := h
  have Hb1 := Lib.hid (show 0 + xs.length ≤ maxLen by unfold maxLen; omega)
  have Hb2 := Lib.hid (show (0 + xs.length) * 8 ≤ 140737488355328 by omega)
  clear hxc
  go_enter Try.func95, Try.ntmps95
  go_wp2_with (at_builtin; go_must (refine wpList_append_F rfl (.tmp 3) (.tmp 4) 22 rfl 3 (.int .i64 0) 8 Try.underlying22 info_int rfl w.heap.size (w.heap.size + 1) _ 0 (fun _ => undef) rfl (OwnF.made0 w _ _) (by simp) (by simp) _ _ _ rfl (hI.out.below (below_alloc w _)) (fun j _ => iv_one _ j) Hb1.out Hb2.out ?_; intro v' w' ho' hg'))
  go_ret
  refine ⟨_, rfl, OwnF.ints ?_, (below_alloc w _).trans (grownBy_below hg' (OwnF.made0 w 3 (fun _ => undef)).blocks (Nat.le_refl _) (by simp))⟩
  rw [Nat.zero_add] at ho'
  exact ho'.congr fun j _ => by simp

/-- the argument's box, and a block for the result, whatever it holds -/
theorem keep5 {w W W' : World} {a0 a1 a2 a3 : Addr} {v0 v1 v2 v3 : Value} {b : Nat} {T : TypeId} (hb : Below W.heap.size W W')
    (h : ((W.cell? a0 = some v0 ∧ W.cell? a1 = some v1 ∧ W.cell? a2 = some v2 ∧ W.cell? a3 = some v3) ∧ ∃ y0 y1 y2 y3, W.heap[b]? = some (.cells #[y0, y1, y2, y3] T (0, 0))) ∧ Below w.heap.size w W) :
    ((W'.cell? a0 = some v0 ∧ W'.cell? a1 = some v1 ∧ W'.cell? a2 = some v2 ∧ W'.cell? a3 = some v3) ∧ ∃ y0 y1 y2 y3, W'.heap[b]? = some (.cells #[y0, y1, y2, y3] T (0, 0))) ∧ Below w.heap.size w W' := by
  obtain ⟨⟨⟨h0, h1, h2, h3⟩, y0, y1, y2, y3, hy⟩, hB⟩ := h
  exact ⟨⟨⟨cell_below hb h0, cell_below hb h1, cell_below hb h2, cell_below hb h3⟩, y0, y1, y2, y3, blk_later hy hb⟩, hB.trans (hb.mono hB.size)⟩
theorem keep5_gen {w W W' : World} {b1 o0 o1 o2 o3 : Nat} {v0 v1 v2 v3 z0 z1 z2 z3 : Value} {b : Nat} {T : TypeId} (hh : W'.heap[b1]? = W.heap[b1]?) (hy : W'.heap[b]? = some (.cells #[z0, z1, z2, z3] T (0, 0))) (hB : Below w.heap.size w W')
    (h : W.cell? ⟨b1, o0, none⟩ = some v0 ∧ W.cell? ⟨b1, o1, none⟩ = some v1 ∧ W.cell? ⟨b1, o2, none⟩ = some v2 ∧ W.cell? ⟨b1, o3, none⟩ = some v3) :
    ((W'.cell? ⟨b1, o0, none⟩ = some v0 ∧ W'.cell? ⟨b1, o1, none⟩ = some v1 ∧ W'.cell? ⟨b1, o2, none⟩ = some v2 ∧ W'.cell? ⟨b1, o3, none⟩ = some v3) ∧ ∃ y0 y1 y2 y3, W'.heap[b]? = some (.cells #[y0, y1, y2, y3] T (0, 0))) ∧ Below w.heap.size w W' := by
  obtain ⟨h0, h1, h2, h3⟩ := h
  refine ⟨⟨⟨?_, ?_, ?_, ?_⟩, z0, z1, z2, z3, hy⟩, hB⟩
  · rw [World.cell?_of_block (w := W) hh]; exact h0
  · rw [World.cell?_of_block (w := W) hh]; exact h1
  · rw [World.cell?_of_block (w := W) hh]; exact h2
  · rw [World.cell?_of_block (w := W) hh]; exact h3
theorem keep5_set {w W : World} {b1 o0 o1 o2 o3 : Nat} {v0 v1 v2 v3 : Value} {b : Nat} {T : TypeId} (hne : b1 ≠ b) (hbw : w.heap.size ≤ b) (x0 x1 x2 x3 : Value)
    (h : ((W.cell? ⟨b1, o0, none⟩ = some v0 ∧ W.cell? ⟨b1, o1, none⟩ = some v1 ∧ W.cell? ⟨b1, o2, none⟩ = some v2 ∧ W.cell? ⟨b1, o3, none⟩ = some v3) ∧ ∃ y0 y1 y2 y3, W.heap[b]? = some (.cells #[y0, y1, y2, y3] T (0, 0))) ∧ Below w.heap.size w W) :
    ((((((W.setCell ⟨b, 0, none⟩ x0).setCell ⟨b, 1, none⟩ x1).setCell ⟨b, 2, none⟩ x2).setCell ⟨b, 3, none⟩ x3).cell? ⟨b1, o0, none⟩ = some v0 ∧ ((((W.setCell ⟨b, 0, none⟩ x0).setCell ⟨b, 1, none⟩ x1).setCell ⟨b, 2, none⟩ x2).setCell ⟨b, 3, none⟩ x3).cell? ⟨b1, o1, none⟩ = some v1 ∧
      ((((W.setCell ⟨b, 0, none⟩ x0).setCell ⟨b, 1, none⟩ x1).setCell ⟨b, 2, none⟩ x2).setCell ⟨b, 3, none⟩ x3).cell? ⟨b1, o2, none⟩ = some v2 ∧ ((((W.setCell ⟨b, 0, none⟩ x0).setCell ⟨b, 1, none⟩ x1).setCell ⟨b, 2, none⟩ x2).setCell ⟨b, 3, none⟩ x3).cell? ⟨b1, o3, none⟩ = some v3) ∧
      ∃ y0 y1 y2 y3, ((((W.setCell ⟨b, 0, none⟩ x0).setCell ⟨b, 1, none⟩ x1).setCell ⟨b, 2, none⟩ x2).setCell ⟨b, 3, none⟩ x3).heap[b]? = some (.cells #[y0, y1, y2, y3] T (0, 0))) ∧
      Below w.heap.size w ((((W.setCell ⟨b, 0, none⟩ x0).setCell ⟨b, 1, none⟩ x1).setCell ⟨b, 2, none⟩ x2).setCell ⟨b, 3, none⟩ x3) := by
  obtain ⟨⟨hc, y0, y1, y2, y3, hy⟩, hB⟩ := h
  have hh : ((((W.setCell ⟨b, 0, none⟩ x0).setCell ⟨b, 1, none⟩ x1).setCell ⟨b, 2, none⟩ x2).setCell ⟨b, 3, none⟩ x3).heap[b1]? = W.heap[b1]? := by
    rw [Below.heap_setCell _ _ _ _ (show b1 ≠ (⟨b, 3, none⟩ : Addr).block from hne), Below.heap_setCell _ _ _ _ (show b1 ≠ (⟨b, 2, none⟩ : Addr).block from hne), Below.heap_setCell _ _ _ _ (show b1 ≠ (⟨b, 1, none⟩ : Addr).block from hne), Below.heap_setCell _ _ _ _ (show b1 ≠ (⟨b, 0, none⟩ : Addr).block from hne)]
  have hy4 := set4_all hy x0 x1 x2 x3
  have hB4 := below_set4 hB hbw x0 x1 x2 x3
  exact keep5_gen hh hy4 hB4 hc
theorem s5_blk {w W : World} {a0 a1 a2 a3 : Addr} {v0 v1 v2 v3 : Value} {b : Nat} {T : TypeId}
    (h : ((W.cell? a0 = some v0 ∧ W.cell? a1 = some v1 ∧ W.cell? a2 = some v2 ∧ W.cell? a3 = some v3) ∧ ∃ y0 y1 y2 y3, W.heap[b]? = some (.cells #[y0, y1, y2, y3] T (0, 0))) ∧ Below w.heap.size w W) :
    ∃ y0 y1 y2 y3, W.heap[b]? = some (.cells #[y0, y1, y2, y3] T (0, 0)) := h.1.2

/-- the box of a matrix argument and the result's cell -/
theorem box2_start (w : World) (T T2 : TypeId) (P R C : Int) (d : Value) :
    ((w.alloc (.cells #[.int .i64 P, .int .i64 R, .int .i64 C, d] T)).alloc (.cells #[.int .i64 0, .int .i64 0, .int .i64 0, .slice none 0 0] T2)).heap[w.heap.size]? = some (.cells #[.int .i64 P, .int .i64 R, .int .i64 C, d] T (0, 0)) ∧
    ((w.alloc (.cells #[.int .i64 P, .int .i64 R, .int .i64 C, d] T)).alloc (.cells #[.int .i64 0, .int .i64 0, .int .i64 0, .slice none 0 0] T2)).heap[w.heap.size + 1]? = some (.cells #[.int .i64 0, .int .i64 0, .int .i64 0, .slice none 0 0] T2 (0, 0)) := by
  refine ⟨?_, heap_alloc_at _ _ (by simp)⟩
  rw [heap_alloc_low _ _ (by simp)]; exact heap_alloc_top _ _

set_option maxRecDepth 100000 in
set_option maxHeartbeats 1000000 in
theorem l7Copy_any (P R C : Int) (d : Value) (xs : List Int) (w : World) (h : Ints w d xs) (hl : xs.length ≤ 1000000) :
    Calls Try.prog 69 #[.agg #[.int .i64 P, .int .i64 R, .int .i64 C, d]] w (RetM w ⟨P, R, C, xs⟩) := by
  have hI := Lib.hid h
  obtain ⟨pd, kd, rfl, ⟨_, mx⟩, _⟩ := h
  unfold maxLen at mx
  obtain ⟨z1, z2⟩ := box2_start w 27 27 P R C (.slice pd xs.length kd)
  have hB0 := below_alloc2 w (.cells #[.int .i64 P, .int .i64 R, .int .i64 C, .slice pd xs.length kd] 27) (.cells #[.int .i64 0, .int .i64 0, .int .i64 0, .slice none 0 0] 27)
  have Z1 := Lib.hid z1
  have Z2 := Lib.hid z2
  have HB0 := Lib.hid hB0
  clear z1 z2 hB0
  go_enter Try.func69, Try.ntmps69
  go_wp2_with fail
  have hs0 : ((w.alloc (.cells #[.int .i64 P, .int .i64 R, .int .i64 C, .slice pd xs.length kd] 27)).alloc (.cells #[.int .i64 0, .int .i64 0, .int .i64 0, .slice none 0 0] 27)).heap.size = w.heap.size + 1 + 1 := by simp
  generalize (w.alloc (.cells #[.int .i64 P, .int .i64 R, .int .i64 C, .slice pd xs.length kd] 27)).alloc (.cells #[.int .i64 0, .int .i64 0, .int .i64 0, .slice none 0 0] 27) = w2 at *
  obtain ⟨c0, c1, c2, c3, cf, hz⟩ := blk4 Z1.out
  go_region_held3 (fun w' => ((w'.cell? ⟨w.heap.size, 0, none⟩ = some (.int .i64 P) ∧ w'.cell? ⟨w.heap.size, 1, none⟩ = some (.int .i64 R) ∧ w'.cell? ⟨w.heap.size, 2, none⟩ = some (.int .i64 C) ∧ w'.cell? ⟨w.heap.size, 3, none⟩ = some (.slice pd xs.length kd)) ∧ ∃ y0 y1 y2 y3, w'.heap[w.heap.size + 1]? = some (.cells #[y0, y1, y2, y3] 27 (0, 0))) ∧ Below w.heap.size w w')
    (first | exact ⟨⟨⟨c0, c1, c2, c3⟩, _, _, _, _, Z2.out⟩, HB0.out.drew⟩ | exact keep5 hb1 (by assumption) | exact keep5_set (by omega) (by omega) _ _ _ _ (by assumption))
    (first | (go_at_call 95; refine (l1Ints_any _ xs _ (held_ints hI.out (by assumption)) hl).mono ?_; rintro e w' ⟨u, rfl, ho, hb1⟩; obtain ⟨pu, ku, rfl, _, _⟩ := ho.shape; obtain ⟨y0, y1, y2, y3, hy⟩ := s5_blk (by assumption); obtain ⟨d0, d1, d2, d3, df, dz⟩ := blk4 (blk_later hy hb1)))
  have hds : w2.drew.heap.size = w2.heap.size := rfl
  have hbz : Below w.heap.size w w' := HB0.out.trans ((below_of_drew hb1).mono (by omega))
  have hsz := hb1.size
  have hz4 := set4_all (blk_later Z2.out (below_of_drew hb1)) (.int .i64 P) (.int .i64 R) (.int .i64 C) (.slice pu xs.length ku)
  have ho4 : OwnI 3 w' (w.heap.size + 1 + 1) w'.heap.size (.slice pu xs.length ku) xs := ho.mono (by have : w2.drew.heap.size = w2.heap.size := rfl; omega) (Nat.le_refl _)
  have Hz4 := Lib.hid hz4
  have Ho4 := Lib.hid ho4
  have Hbz := Lib.hid hbz
  clear hz4 ho4 hbz ho hb1 hy d0 d1 d2 d3 df
  obtain ⟨f0, f1, f2, f3, ff, fz⟩ := blk4 Hz4.out
  go_wp2_with fail
  refine bodyPost_ret (v := .agg #[.int .i64 P, .int .i64 R, .int .i64 C, .slice pu xs.length ku]) (by simp [results, Try.results69, go_sem, f0, f1, f2, f3, fz]) rfl ⟨_, rfl, ?_, ?_⟩
  · exact (own_set4 Ho4.out (.inl (by omega)) _ _ _ _).mono (by omega) (by simp only [size_setCell]; omega)
  · exact below_set4 Hbz.out (by omega) _ _ _ _

set_option maxRecDepth 100000 in
set_option maxHeartbeats 1000000 in
theorem l7Inverse_any (x p : Int) (w : World) (hp : primeOk p = true) (h0 : 0 < x) (h1 : x < p) :
    Calls Try.prog 99 #[.int .i64 x, .int .i64 p] w fun e w' => ∃ y : Int, e = .returned (.int .i64 y) ∧ 1 ≤ y ∧ y < p ∧ x * y % p = 1 ∧ Qt w w' := by
  obtain ⟨hp2, hp7⟩ := primeOk_range hp
  obtain ⟨k0, hk1, hk2, hk3⟩ := inv_ex hp h0 h1
  obtain ⟨k0n, rfl⟩ := Int.eq_ofNat_of_zero_le (show (0 : Int) ≤ k0 by omega)
  rw [Int.mul_comm] at hk3
  have Hk3 := Lib.hid hk3
  clear hk3 hp
  go_enter Try.func99, Try.ntmps99
  go_wp2_with fail
  go_loopg [5] (k0n - 1) (fun g s5 wr => ∃ k : Nat, 1 ≤ k ∧ k ≤ k0n ∧ g = k0n - k ∧ s5 = .int .i64 k ∧ Qt w wr)
  case atStart => exact ⟨1, Nat.le_refl _, by omega, rfl, rfl, Qt.refl _⟩
  case round =>
    obtain ⟨k, hka, hkb, rfl, rfl, hq⟩ := hrel
    have hm0 : 0 ≤ x * (k : Int) := Int.mul_nonneg (by omega) (by omega)
    have hm1 : x * (k : Int) ≤ 7 * 7 := Int.mul_le_mul (by omega) (by omega) (by omega) (by omega)
    have hp0 : ¬ p = 0 := by omega
    have e1 : Int.tmod (x * (k : Int)) p = x * (k : Int) % p := Int.tmod_eq_emod_of_nonneg hm0
    have b5 : 0 ≤ x * (k : Int) % p := Int.emod_nonneg _ (by omega)
    have b6 : x * (k : Int) % p < p := Int.emod_lt_of_pos _ (by omega)
    have hkp : (k : Int) < p := by omega
    by_cases he : x * (k : Int) % p = 1
    · have he2 : (x * (k : Int) % p == 1) = true := by simpa using he
      have He := Lib.hid he
      clear he
      go_wp2_with fail
      go_ret
      exact ⟨_, rfl, by omega, hkp, He.out, hq⟩
    · have hlt : k < k0n := by
        rcases Nat.lt_or_ge k k0n with h1 | h1
        · exact h1
        · exact absurd (by rw [show k = k0n by omega]; exact Hk3.out) he
      have he2 : (x * (k : Int) % p == 1) = false := by simpa using he
      clear he
      go_wp2_with fail
      go_roundg (k0n - (k + 1))
      case measure => omega
      case rel => exact ⟨k + 1, by omega, by omega, rfl, by go_num, hq⟩

end Go.Proofs.Ytejoapielndnnaa
