/-
  The rows of two matrices, one behind the other: l7Both.
-/
import Derived.Test.YtapmnfakjnhlbaaStep
import Derived.Test.YtapmnfakjnhlbaaL7Red
namespace Go.Proofs.Ytapmnfakjnhlbaa
set_option linter.all false
open Go.RowKit


set_option maxRecDepth 100000 in
set_option maxHeartbeats 8000000 in
theorem l7Both_any (P : Int) (AR BR C : Nat) (BC : Int) (dA dB : Value) (DA DB : List Int) (w : World) (hdA : Ints w dA DA) (hdB : Ints w dB DB) (hlA : DA.length ≤ 1000) (hlB : DB.length ≤ 1000) (hrA : AR ≤ 1000) (hrB : BR ≤ 1000) :
    Calls Try.prog 66 #[.agg #[.int .i64 P, .int .i64 (AR : Int), .int .i64 (C : Int), dA], .agg #[.int .i64 P, .int .i64 (BR : Int), .int .i64 BC, dB]] w (RetM w ⟨P, ((AR + BR : Nat) : Int), C, DA ++ DB⟩) := by
  have HdA := Lib.hid hdA
  obtain ⟨pA, kA, rfl, ⟨_, mA⟩, _⟩ := hdA
  unfold maxLen at mA
  have HdB := Lib.hid hdB
  obtain ⟨pB, kB, rfl, ⟨_, mB⟩, _⟩ := hdB
  unfold maxLen at mB
  have Hadd := Lib.hid (show IntKind.i64.wrap ((AR : Int) + (BR : Int)) = (AR : Int) + (BR : Int) from (rng64 (by omega) (by omega)).2)
  obtain ⟨z0, z1, z2⟩ := boxes_abz w (.cells #[.int .i64 P, .int .i64 (AR : Int), .int .i64 (C : Int), .slice pA DA.length kA] 26) (.cells #[.int .i64 P, .int .i64 (BR : Int), .int .i64 BC, .slice pB DB.length kB] 26) (.cells #[.int .i64 0, .int .i64 0, .int .i64 0, .slice none 0 0] 26)
  have ZA1 := Lib.hid z0
  have ZB1 := Lib.hid z1
  have ZZ1 := Lib.hid z2
  clear z0 z1 z2
  have HB1 := Lib.hid (below_alloc3 w (.cells #[.int .i64 P, .int .i64 (AR : Int), .int .i64 (C : Int), .slice pA DA.length kA] 26) (.cells #[.int .i64 P, .int .i64 (BR : Int), .int .i64 BC, .slice pB DB.length kB] 26) (.cells #[.int .i64 0, .int .i64 0, .int .i64 0, .slice none 0 0] 26))
  go_enter Try.func66, Try.ntmps66
  go_wp2_with fail
  have hs1 : (((w.alloc (.cells #[.int .i64 P, .int .i64 (AR : Int), .int .i64 (C : Int), .slice pA DA.length kA] 26)).alloc (.cells #[.int .i64 P, .int .i64 (BR : Int), .int .i64 BC, .slice pB DB.length kB] 26)).alloc (.cells #[.int .i64 0, .int .i64 0, .int .i64 0, .slice none 0 0] 26)).heap.size = w.heap.size + 1 + 1 + 1 := by simp
  generalize ((w.alloc (.cells #[.int .i64 P, .int .i64 (AR : Int), .int .i64 (C : Int), .slice pA DA.length kA] 26)).alloc (.cells #[.int .i64 P, .int .i64 (BR : Int), .int .i64 BC, .slice pB DB.length kB] 26)).alloc (.cells #[.int .i64 0, .int .i64 0, .int .i64 0, .slice none 0 0] 26) = w1 at *
  have hadd := Hadd.out
  have Hl1 := Lib.hid (show DA.length + DB.length ≤ maxLen by unfold maxLen; omega)
  have Hl2 := Lib.hid (show (DA.length + DB.length) * 8 ≤ 140737488355328 by omega)
  obtain ⟨cA0, cA1, cA2, cA3, cAf, cAz⟩ := blk4 ZA1.out
  obtain ⟨cB0, cB1, cB2, cB3, cBf, cBz⟩ := blk4 ZB1.out
  have hne1 : w.heap.size ≠ w.heap.size + 1 + 1 := by omega
  have hne2 : w.heap.size + 1 ≠ w.heap.size + 1 + 1 := by omega
  have hne3 : w.heap.size ≤ w.heap.size + 1 + 1 := by omega
  go_region_held3 (fun w' => ((w'.cell? ⟨w.heap.size, 0, none⟩ = some (.int .i64 P) ∧ w'.cell? ⟨w.heap.size, 1, none⟩ = some (.int .i64 (AR : Int)) ∧ w'.cell? ⟨w.heap.size, 2, none⟩ = some (.int .i64 (C : Int)) ∧ w'.cell? ⟨w.heap.size, 3, none⟩ = some (.slice pA DA.length kA) ∧ w'.cell? ⟨w.heap.size + 1, 0, none⟩ = some (.int .i64 P) ∧ w'.cell? ⟨w.heap.size + 1, 1, none⟩ = some (.int .i64 (BR : Int)) ∧ w'.cell? ⟨w.heap.size + 1, 2, none⟩ = some (.int .i64 BC) ∧ w'.cell? ⟨w.heap.size + 1, 3, none⟩ = some (.slice pB DB.length kB)) ∧ ∃ y0 y1 y2 y3, w'.heap[w.heap.size + 1 + 1]? = some (.cells #[y0, y1, y2, y3] 26 (0, 0))) ∧ Below w.heap.size w w')
    (first | exact ⟨⟨⟨cA0, cA1, cA2, cA3, cB0, cB1, cB2, cB3⟩, _, _, _, _, ZZ1.out⟩, HB1.out.drew⟩ | exact keep9 hb1 (by assumption) | exact keep9B hbB (by omega) (by omega) (by omega) (by omega) (by assumption) | exact keep9_set hne1 hne2 hne3 _ _ _ _ (by assumption))
    (first
      | (go_at_call 75; refine (l1Ints_any _ DA _ (held_ints HdA.out (by assumption)) (by omega)).mono ?_; rintro e w' ⟨u, rfl, hoI, hb1⟩; obtain ⟨pu, ku, rfl, _, _⟩ := hoI.shape; have hSx := held_lt (by assumption))
      | (refine step_append_F rfl _ _ 22 rfl 3 (.int .i64 0) 8 Try.underlying22 info_int rfl (w.heap.size + 1 + 1 + 1) _ _ DA.length _ rfl (OwnF.mono (OwnI.below hoI (by first | exact Below.refl _ _ | exact (Below.refl _ _).drew)).fn hSx (Nat.le_refl _)) (held_lt (by assumption)) (Nat.le_refl _) _ _ _ rfl (held_ints HdB.out (by assumption)) (fun j _ => iv_one _ j) Hl1.out Hl2.out ?_; intro v' w' ho' hg'; have hbB := grownBy_below2 hg' (OwnF.mono (OwnI.below hoI (by first | exact Below.refl _ _ | exact (Below.refl _ _).drew)).fn hSx (Nat.le_refl _)) (Nat.le_refl _) (held_lt (by assumption)); clear hb1; have hBz : Below w.heap.size w w' := (held_below (by assumption)).trans (hbB.mono (by omega)); have hown := own_join ho'; clear ho' hg'; obtain ⟨FL, hFL⟩ : ∃ FL, FL = DA ++ DB := ⟨_, rfl⟩; rw [← hFL] at hown; have HFL := Lib.hid hFL; clear hFL; obtain ⟨pv, kv, rfl, _, _⟩ := hown.shape; obtain ⟨y0, y1, y2, y3, hy⟩ := s9_blk (by assumption); have hy := (hbB.block _ (by omega)).trans hy; obtain ⟨d0, d1, d2, d3, df, dz⟩ := blk4 hy))
  have Hz4 := Lib.hid (set4_all hy (.int .i64 P) (.int .i64 ((AR : Int) + (BR : Int))) (.int .i64 (C : Int)) (.slice pv FL.length kv))
  have HoM := Lib.hid hown
  have HBz := Lib.hid hBz
  clear hy hown hBz hbB d0 d1 d2 d3 df
  obtain ⟨f0, f1, f2, f3, ff, fz⟩ := blk4 Hz4.out
  go_wp2_with fail
  refine bodyPost_ret (v := .agg #[.int .i64 P, .int .i64 ((AR : Int) + (BR : Int)), .int .i64 (C : Int), .slice pv FL.length kv]) (by simp [results, Try.results66, go_sem, f0, f1, f2, f3, fz]) rfl ?_
  rw [show (AR : Int) + (BR : Int) = ((AR + BR : Nat) : Int) by omega, ← HFL.out]
  refine ⟨_, rfl, ?_, ?_⟩
  · exact (own_set4 HoM.out (.inl (by omega)) _ _ _ _).mono (by omega) (by simp only [size_setCell]; omega)
  · exact below_set4 HBz.out (by omega) _ _ _ _

end Go.Proofs.Ytapmnfakjnhlbaa
