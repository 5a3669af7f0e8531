/-
  The law FnExactSessionOk, walked call by call: it returns true, and nothing that was there has changed.
-/
import Derived.Test.YtejoapielndnnaaSess
namespace Go.Proofs.Ytejoapielndnnaa
set_option linter.all false
open Go.RowKit

theorem keep10 {wr W W' : World} {a0 a1 a2 a3 a4 a5 a6 a7 a8 a9 : Addr} {v0 v1 v2 v3 v4 v5 v6 v7 v8 v9 : Value} (hb : Below W.heap.size W W') (h : (W.cell? a0 = some v0 ∧ W.cell? a1 = some v1 ∧ W.cell? a2 = some v2 ∧ W.cell? a3 = some v3 ∧ W.cell? a4 = some v4 ∧ W.cell? a5 = some v5 ∧ W.cell? a6 = some v6 ∧ W.cell? a7 = some v7 ∧ W.cell? a8 = some v8 ∧ W.cell? a9 = some v9) ∧ Below wr.heap.size wr W) : (W'.cell? a0 = some v0 ∧ W'.cell? a1 = some v1 ∧ W'.cell? a2 = some v2 ∧ W'.cell? a3 = some v3 ∧ W'.cell? a4 = some v4 ∧ W'.cell? a5 = some v5 ∧ W'.cell? a6 = some v6 ∧ W'.cell? a7 = some v7 ∧ W'.cell? a8 = some v8 ∧ W'.cell? a9 = some v9) ∧ Below wr.heap.size wr W' := by
  obtain ⟨⟨h0, h1, h2, h3, h4, h5, h6, h7, h8, h9⟩, hB⟩ := h
  exact ⟨⟨cell_below hb h0, cell_below hb h1, cell_below hb h2, cell_below hb h3, cell_below hb h4, cell_below hb h5, cell_below hb h6, cell_below hb h7, cell_below hb h8, cell_below hb h9⟩, below_trans hB hb⟩

theorem RdCl.shapeK {w : World} {v : Value} {cs : List Cls} (h : RdCl w v cs) : ∃ p k, v = .slice p cs.length k := by
  obtain ⟨f, ⟨p, k, e, _⟩, _⟩ := h
  exact ⟨p, k, e⟩
theorem Ints.shapeK {w : World} {v : Value} {xs : List Int} (h : Ints w v xs) : ∃ p k, v = .slice p xs.length k := by
  obtain ⟨p, k, e, _⟩ := h
  exact ⟨p, k, e⟩
set_option maxRecDepth 100000 in
set_option maxHeartbeats 8000000 in
theorem lawSessionOk (dp dc ds : Value) (xs ys : List Int) (cs : List Cls) (K N : Int) (w0 : World) (h1 : Ints w0 dp xs) (h2 : RdClA w0 dc cs) (h3 : Ints w0 ds ys) :
    Calls Try.prog 6 #[.agg #[dp, dc, ds, .int .i64 K, .int .i64 N]] w0 fun e w' => e = .returned (.bool true) ∧ Below w0.heap.size w0 w' := by
  obtain ⟨b, hb⟩ : ∃ b, b = sessOk xs cs ys K N := ⟨_, rfl⟩
  have CI := Lib.hid (fun dp dc ds w h1 h2 h3 => hb ▸ implSessionOk_any dp dc ds xs ys cs K N w h1 h2 h3)
  have CS := Lib.hid (fun dp dc ds w h1 h2 h3 => hb ▸ specSessionOk_any dp dc ds xs ys cs K N w h1 h2 h3)
  have hbb : (b != b) = false := by simp
  have H1 := Lib.hid h1
  have H2 := Lib.hid h2
  have H3 := Lib.hid h3
  have B0 := Lib.hid (below_alloc w0 (.cells #[dp, dc, ds, .int .i64 K, .int .i64 N] 42))
  have Z0 := Lib.hid (heap_alloc_top w0 (.cells #[dp, dc, ds, .int .i64 K, .int .i64 N] 42))
  clear hb h1 h2 h3
  go_enter Try.func6, Try.ntmps6
  go_wp2_with fail
  generalize w0.alloc (.cells #[dp, dc, ds, .int .i64 K, .int .i64 N] 42) = wa at *
  obtain ⟨a0, a1, a2, a3, a4, af, az⟩ := blk5s Z0.out
  go_wp2_with fail
  refine (szSession_any _ _ _ xs ys cs K N 1048576 _ (H1.out.below B0.out) (H2.out.below B0.out) (H3.out.below B0.out) (by omega) (by omega)).mono ?_
  rintro e w1 ⟨r, rfl, hr, hb⟩
  have Z1 := Lib.hid (blk_later Z0.out hb)
  have B1 := Lib.hid (B0.out.trans (hb.mono B0.out.size))
  clear hb a0 a1 a2 a3 a4 af az
  obtain ⟨a0, a1, a2, a3, a4, af, az⟩ := blk5s Z1.out
  rcases hr with hr | ⟨hr0, hf1, hf2, hf3⟩
  · subst hr
    go_wp2_with fail
    go_ret
    exact ⟨rfl, B1.out⟩
  have hr2 : ¬ r < 0 := by omega
  have F1 := Lib.hid hf1
  have F2 := Lib.hid hf2
  have F3 := Lib.hid hf3
  clear hf1 hf2 hf3
  go_wp2_with fail
  refine (toSession_any _ _ _ xs ys cs K N _ (H1.out.below B1.out) (H2.out.below B1.out) (H3.out.below B1.out) F1.out F2.out F3.out).mono ?_
  rintro e w2 ⟨u1, u2, u3, rfl, i1, i2, i3, hb⟩
  obtain ⟨q1, l1, rfl⟩ := i1.shapeK
  obtain ⟨q2, l2, rfl⟩ := i2.shapeK
  obtain ⟨q3, l3, rfl⟩ := i3.shapeK
  have Z2 := Lib.hid (blk_later Z1.out hb)
  have B2 := Lib.hid (B1.out.trans (hb.mono B1.out.size))
  have I1 := Lib.hid i1
  have I2 := Lib.hid i2
  have I3 := Lib.hid i3
  clear hb i1 i2 i3 a0 a1 a2 a3 a4 af az
  obtain ⟨a0, a1, a2, a3, a4, af, az⟩ := blk5s Z2.out
  go_wp2_with fail
  refine (CS.out _ _ _ _ I1.out I2.out I3.out).mono ?_
  rintro e w3 ⟨rfl, hb⟩
  have Z3 := Lib.hid (blk_later Z2.out hb)
  have B3 := Lib.hid (B2.out.trans (hb.mono B2.out.size))
  clear hb a0 a1 a2 a3 a4 af az I1 I2 I3
  obtain ⟨a0, a1, a2, a3, a4, af, az⟩ := blk5s Z3.out
  go_wp2_with fail
  refine (toSession_any _ _ _ xs ys cs K N _ (H1.out.below B3.out) (H2.out.below B3.out) (H3.out.below B3.out) F1.out F2.out F3.out).mono ?_
  rintro e w5 ⟨u1, u2, u3, rfl, i1, i2, i3, hb⟩
  obtain ⟨p1, k1, rfl⟩ := i1.shapeK
  obtain ⟨p2, k2, rfl⟩ := i2.shapeK
  obtain ⟨p3, k3, rfl⟩ := i3.shapeK
  have Z5 := Lib.hid (blk_later Z3.out hb)
  have B5 := Lib.hid (B3.out.trans (hb.mono B3.out.size))
  have I1 := Lib.hid i1
  have I2 := Lib.hid i2
  have I3 := Lib.hid i3
  have Ba := Lib.hid (below_alloc w5 (.cells #[.slice p1 xs.length k1, .slice p2 cs.length k2, .slice p3 ys.length k3, .int .i64 K, .int .i64 N] 47))
  have Zx := Lib.hid (heap_alloc_top w5 (.cells #[.slice p1 xs.length k1, .slice p2 cs.length k2, .slice p3 ys.length k3, .int .i64 K, .int .i64 N] 47))
  clear hb i1 i2 i3 a0 a1 a2 a3 a4 af az
  obtain ⟨a0, a1, a2, a3, a4, af, az⟩ := blk5s Z5.out
  go_wp2_with fail
  refine (CI.out _ _ _ _ (I1.out.below Ba.out) (I2.out.below Ba.out) (I3.out.below Ba.out)).mono ?_
  rintro e w6 ⟨rfl, hb⟩
  have B6a := Lib.hid (Ba.out.trans (hb.mono Ba.out.size))
  have Zx6 := Lib.hid (blk_later Zx.out hb)
  have Z6 := Lib.hid (blk_later Z5.out B6a.out)
  have B6 := Lib.hid (B5.out.trans (B6a.out.mono B5.out.size))
  have J1 := Lib.hid (I1.out.below B6a.out)
  have J2 := Lib.hid (I2.out.below B6a.out)
  have J3 := Lib.hid (I3.out.below B6a.out)
  have K1 := Lib.hid (H1.out.below B6.out)
  have K2 := Lib.hid (H2.out.below B6.out)
  have K3 := Lib.hid (H3.out.below B6.out)
  clear hb a0 a1 a2 a3 a4 af az I1 I2 I3 Ba Zx B6a
  obtain ⟨a0, a1, a2, a3, a4, af, az⟩ := blk5s Z6.out
  obtain ⟨x0, x1, x2, x3, x4, xf, xz⟩ := blk5s Zx6.out
  go_wp2_with fail
  go_region_held3 (fun w' => (w'.cell? ⟨w0.heap.size, 0, none⟩ = some (dp) ∧ w'.cell? ⟨w0.heap.size, 1, none⟩ = some (dc) ∧ w'.cell? ⟨w0.heap.size, 2, none⟩ = some (ds) ∧ w'.cell? ⟨w0.heap.size, 3, none⟩ = some (.int .i64 K) ∧ w'.cell? ⟨w0.heap.size, 4, none⟩ = some (.int .i64 N) ∧ w'.cell? ⟨w5.heap.size, 0, none⟩ = some (.slice p1 xs.length k1) ∧ w'.cell? ⟨w5.heap.size, 1, none⟩ = some (.slice p2 cs.length k2) ∧ w'.cell? ⟨w5.heap.size, 2, none⟩ = some (.slice p3 ys.length k3) ∧ w'.cell? ⟨w5.heap.size, 3, none⟩ = some (.int .i64 K) ∧ w'.cell? ⟨w5.heap.size, 4, none⟩ = some (.int .i64 N)) ∧ Below w6.heap.size w6 w')
    (first | exact ⟨⟨a0, a1, a2, a3, a4, x0, x1, x2, x3, x4⟩, (Below.refl _ _).drew⟩ | with_reducible exact keep10 hb1 (by assumption))
    (first
      | (go_at_call 24; refine (toSession_any _ _ _ xs ys cs K N _ (K1.out.below (held_below (by assumption))) (K2.out.below (held_below (by assumption))) (K3.out.below (held_below (by assumption))) F1.out F2.out F3.out).mono ?_; rintro e w' ⟨u1, u2, u3, rfl, i1, i2, i3, hb1⟩; have hB7 : Below w6.heap.size w6 w' := below_trans (held_below (by assumption)) hb1; obtain ⟨q1, l1, rfl⟩ := i1.shapeK; obtain ⟨q2, l2, rfl⟩ := i2.shapeK; obtain ⟨q3, l3, rfl⟩ := i3.shapeK; have I1 := Lib.hid i1; have I2 := Lib.hid i2; have I3 := Lib.hid i3; clear i1 i2 i3)
      | (go_at_call 26; refine (eqSession_same _ _ _ _ _ _ xs ys cs K N _ (J1.out.below (held_below (by assumption))) (J2.out.below (held_below (by assumption))) (J3.out.below (held_below (by assumption))) I1.out I2.out I3.out).mono ?_; rintro e w' ⟨rfl, hb1⟩))
  have hbw := held_below (by assumption)
  go_wp2_with fail
  go_ret
  exact ⟨rfl, B6.out.trans (Below.mono hbw B6.out.size)⟩

end Go.Proofs.Ytejoapielndnnaa
