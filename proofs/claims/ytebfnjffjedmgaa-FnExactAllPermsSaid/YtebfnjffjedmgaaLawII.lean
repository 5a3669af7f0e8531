/-
  The law's helpers on slices of slices of ints: compared, written over, read again.
-/
import Derived.Test.YtebfnjffjedmgaaLawM
import Derived.Test.YtebfnjffjedmgaaApp
import Derived.Test.YtebfnjffjedmgaaHeld
namespace Go.Proofs.Ytebfnjffjedmgaa
set_option linter.all false
open Go.RowKit

theorem ints_at {w : World} {v : Value} {rows : List (List Int)} {f : Nat → Value} (h : ∀ i, i < rows.length → Ints w (f i) (rows.getD i [])) {i : Nat} (hi : i < rows.length) :
    ∃ p cap, f i = .slice p (rows.getD i []).length cap ∧ (rows.getD i []).length ≤ cap ∧ cap ≤ maxLen := by
  obtain ⟨p, cap, e, ⟨h1, h2⟩, _⟩ := h i hi
  exact ⟨p, cap, e, h1, h2⟩

theorem keep2 {wr W W' : World} {a0 a1 : Addr} {v0 v1 : Value} (hb : Below W.heap.size W W') (h : (W.cell? a0 = some v0 ∧ W.cell? a1 = some v1) ∧ Below wr.heap.size wr W) :
    (W'.cell? a0 = some v0 ∧ W'.cell? a1 = some v1) ∧ Below wr.heap.size wr W' := ⟨⟨cell_below hb h.1.1, cell_below hb h.1.2⟩, below_trans h.2 hb⟩

/-- two lists of lists are the same row by row -/
theorem rows_eq {xs ys : List (List Int)} (hl : xs.length = ys.length) (h : ∀ j, j < xs.length → xs.getD j [] = ys.getD j []) : xs = ys := by
  apply List.ext_getElem hl
  intro i h1 h2
  have := h i h1
  simpa [List.getD_eq_getElem?_getD, h1, h2] using this

set_option maxRecDepth 100000 in
set_option maxHeartbeats 1000000 in
/-- two equal lists of lists -/
theorem eqIntSS_same (v1 v2 : Value) (rows : List (List Int)) (w : World) (h1 : RdII w v1 rows) (h2 : RdII w v2 rows) :
    Calls Try.prog 14 #[v1, v2] w fun e w' => e = .returned (.bool true) ∧ Below w.heap.size w w' := by
  obtain ⟨f, ⟨p, cap, rfl, ⟨hx1, hx⟩, hxc⟩, hf⟩ := h1
  obtain ⟨g, ⟨q, cap', rfl, ⟨hy1, hy⟩, hyc⟩, hg⟩ := h2
  unfold maxLen at hx hy
  have Hf := Lib.hid hf
  have Hg := Lib.hid hg
  clear hf hg
  go_enter Try.func14, Try.ntmps14
  go_wp2
  go_loopg [5] rows.length (fun n i wr => ∃ k : Nat, k ≤ rows.length ∧ n = rows.length - k ∧ i = .int .i64 k ∧ Below w.heap.size w wr)
  case atStart => exact ⟨0, Nat.zero_le _, rfl, rfl, Below.refl _ _⟩
  case round =>
    obtain ⟨k, hk, rfl, rfl, hb⟩ := hrel
    by_cases hlt : k < rows.length
    · obtain ⟨b, off, rfl, hc⟩ := hxc (by omega)
      obtain ⟨b', off', rfl, hc'⟩ := hyc (by omega)
      have c1 := cell_below hb (hc k hlt)
      have c2 := cell_below hb (hc' k hlt)
      obtain ⟨p1, k1, e1, _, _⟩ := ints_at (v := .slice none 0 0) Hf.out hlt
      obtain ⟨p2, k2, e2, _, _⟩ := ints_at (v := .slice none 0 0) Hg.out hlt
      have I1 := Lib.hid ((Hf.out k hlt).below hb)
      have I2 := Lib.hid ((Hg.out k hlt).below hb)
      generalize rows.getD k [] = ys at e1 e2 I1 I2
      rw [e1] at c1 I1
      rw [e2] at c2 I2
      clear hxc hyc hc hc' e1 e2
      go_wp2_with fail
      obtain ⟨wo, rfl⟩ : ∃ x : World, x = wr := ⟨_, rfl⟩
      go_region_held3 (fun w' => (w'.cell? ⟨b, off + k, none⟩ = some (.slice p1 ys.length k1) ∧ w'.cell? ⟨b', off' + k, none⟩ = some (.slice p2 ys.length k2)) ∧ Below wo.heap.size wo w')
        (first | exact ⟨⟨c1, c2⟩, (Below.refl _ _).drew⟩ | exact keep2 hb1 (by assumption))
        (first
          | (go_at_call 21; refine (eqIntS_same _ _ ys _ (held_ints I1.out (by assumption)) (held_ints I2.out (by assumption))).mono ?_; rintro e w' ⟨rfl, hb1⟩))
      have hbw : Below wo.heap.size wo _ := held_below (by assumption)
      go_wp2_with fail
      go_roundg (rows.length - (k + 1))
      case measure => omega
      case rel => exact ⟨k + 1, by omega, rfl, by go_num, hb.trans (hbw.mono hb.size)⟩
    · go_wp2
      go_ret
      exact ⟨rfl, hb⟩

/-- slices of different types lie in different blocks -/
theorem own_types {Ts Ti : TypeId} {w : World} {lo hi lo1 hi1 n : Nat} {v y : Value} {f : Nat → Value} {ys : List Int} (g1 : OwnF w lo hi Ts v n f) (hy : OwnI Ti w lo1 hi1 y ys) (hT : Ts ≠ Ti)
    {k : Nat} (hv : v.ownBlock = some k) (hk : y.ownBlock = some k) : False := by
  obtain ⟨zs, hz, _⟩ := g1
  rcases Own.row hz with ⟨e1, _⟩ | ⟨g, cap', F, e1, _, _, _, _, hr, _⟩
  · rw [e1] at hv; simp [Value.ownBlock] at hv
  · rw [e1] at hv
    simp only [Value.ownBlock, Option.some.injEq] at hv
    subst hv
    rcases Own.row hy with ⟨e2, _⟩ | ⟨g', cap2, F2, e2, _, _, _, _, hr2, _⟩
    · rw [e2] at hk; simp [Value.ownBlock] at hk
    · rw [e2] at hk
      simp only [Value.ownBlock, Option.some.injEq] at hk
      subst hk
      obtain ⟨c, hc, _⟩ := hr
      obtain ⟨c2, hc2, _⟩ := hr2
      rw [hc] at hc2
      injection hc2 with hc2
      injection hc2 with _ hc2
      exact hT hc2
/-- an owned slice lies in its own block, or in none -/
theorem OwnI.tight {T : TypeId} {w : World} {lo hi : Nat} {v : Value} {xs : List Int} (h : OwnI T w lo hi v xs) :
    ∃ lo' hi', OwnI T w lo' hi' v xs ∧ (∀ k, lo' ≤ k → k < hi' → v.ownBlock = some k ∧ lo ≤ k ∧ k < hi) := by
  obtain ⟨⟨hl, hr⟩, hh⟩ := h
  rcases hr with ⟨rfl, h0⟩ | ⟨g, cap, cur, rfl, hg, r⟩
  · exact ⟨0, 0, ⟨⟨hl, .inl ⟨rfl, h0⟩⟩, fun k hk => by simp [Value.ownBlock] at hk⟩, fun k h1 h2 => absurd h2 (Nat.not_lt_zero _)⟩
  · refine ⟨g, g + 1, ⟨⟨hl, .inr ⟨g, cap, cur, rfl, Nat.le_refl _, r⟩⟩, fun k hk => by simp [Value.ownBlock] at hk; omega⟩, fun k h1 h2 => ?_⟩
    obtain rfl : k = g := by omega
    exact ⟨rfl, hg, hh k rfl⟩

theorem OwnI.widen {T : TypeId} {w : World} {lo hi lo' hi' : Nat} {v : Value} {xs : List Int} (h : OwnI T w lo' hi' v xs) (hin : ∀ k, v.ownBlock = some k → lo ≤ k ∧ k < hi) : OwnI T w lo hi v xs := by
  obtain ⟨⟨hl, hr⟩, hh⟩ := h
  rcases hr with ⟨rfl, h0⟩ | ⟨g, cap, cur, rfl, hg, r⟩
  · exact ⟨⟨hl, .inl ⟨rfl, h0⟩⟩, fun k hk => by simp [Value.ownBlock] at hk⟩
  · exact ⟨⟨hl, .inr ⟨g, cap, cur, rfl, (hin g rfl).1, r⟩⟩, fun k hk => (hin k hk).2⟩
theorem OwnI.besides {T : TypeId} {w w' : World} {lo hi lo' hi' : Nat} {v : Value} {xs : List Int} (h : OwnI T w lo hi v xs) (hf : Frm lo' hi' w w') (hne : ∀ b, v.ownBlock = some b → b < lo' ∨ hi' ≤ b) : OwnI T w' lo hi v xs :=
  ⟨ownsRow_of_block h.1 fun b hb => hf.block b (Own.block h hb).2.2 (hne b hb), h.2⟩
theorem OwnF.besides {T : TypeId} {w w' : World} {lo hi lo' hi' n : Nat} {v : Value} {f : Nat → Value} (h : OwnF w lo hi T v n f) (hf : Frm lo' hi' w w') (hne : ∀ b, v.ownBlock = some b → b < lo' ∨ hi' ≤ b) : OwnF w' lo hi T v n f := by
  obtain ⟨xs, h, hx⟩ := h
  exact ⟨xs, ⟨ownsRow_of_block h.1 fun b hb => hf.block b (Own.block h hb).2.2 (hne b hb), h.2⟩, hx⟩

/-- how many numbers the first k rows have -/
def pre (rows : List (List Int)) (k : Nat) : Nat := (rows.take k).flatten.length
theorem pre_zero (rows : List (List Int)) : pre rows 0 = 0 := by simp [pre]
theorem pre_succ (rows : List (List Int)) (k : Nat) (h : k < rows.length) : pre rows (k + 1) = pre rows k + (rows.getD k []).length := by
  have e : rows[k]? = some (rows.getD k []) := by rw [List.getD_eq_getElem?_getD, List.getElem?_eq_getElem h]; rfl
  unfold pre
  rw [List.take_add_one, List.flatten_append, List.length_append, e]
  simp only [Option.toList, List.flatten_cons, List.flatten_nil, List.append_nil]
theorem pre_le (rows : List (List Int)) (k : Nat) : pre rows k ≤ rows.flatten.length := by
  have e : rows.flatten.length = (rows.take k).flatten.length + (rows.drop k).flatten.length := by
    rw [← List.length_append, ← List.flatten_append, List.take_append_drop]
  unfold pre; omega
theorem pre_all (rows : List (List Int)) : pre rows rows.length = rows.flatten.length := by simp [pre]
/-- the rows, written over by m, m+1, .. -/
def runsII (m : Int) (rows : List (List Int)) : List (List Int) := (List.range rows.length).map fun i => runs (m + pre rows i) (rows.getD i []).length
theorem length_runsII (m : Int) (rows : List (List Int)) : (runsII m rows).length = rows.length := by simp [runsII]
theorem getD_runsII (m : Int) (rows : List (List Int)) {i : Nat} (h : i < rows.length) : (runsII m rows).getD i [] = runs (m + pre rows i) (rows.getD i []).length := by
  simp [runsII, List.getD_eq_getElem?_getD, h]

set_option maxRecDepth 100000 in
set_option maxHeartbeats 1000000 in
theorem markIntSS_any (v : Value) (rows : List (List Int)) (lo hi : Nat) (m : Int) (w : World) (h : OwnII 22 3 w lo hi v rows) (h0 : 0 ≤ m) (h1 : m + rows.flatten.length ≤ 1000000000000) :
    Calls Try.prog 15 #[v, .int .i64 m] w fun e w' => e = .returned (.int .i64 (m + rows.flatten.length)) ∧ OwnII 22 3 w' lo hi v (runsII m rows) ∧ Frm lo hi w w' := by
  obtain ⟨f, g1, g2, g3⟩ := h
  obtain ⟨p, cap, rfl, hnc, hcm, hp⟩ := g1.shape
  unfold maxLen at hcm
  have G1 := Lib.hid g1
  have G2 := Lib.hid g2
  have G3 := Lib.hid g3
  clear g1 g2 g3
  go_enter Try.func15, Try.ntmps15
  go_wp2
  go_loopg [1, 5] rows.length (fun n s1 i wr => ∃ k : Nat, k ≤ rows.length ∧ n = rows.length - k ∧ i = .int .i64 k ∧ s1 = .int .i64 (m + pre rows k) ∧ Frm lo hi w wr ∧
    Hid (OwnF wr lo hi 22 (.slice p rows.length cap) rows.length f ∧ ∀ i, i < rows.length → OwnI 3 wr lo hi (f i) (if i < k then runs (m + pre rows i) (rows.getD i []).length else rows.getD i [])))
  case atStart => exact ⟨0, Nat.zero_le _, rfl, rfl, by simp [pre_zero], Frm.refl _ _ _, ⟨G1.out, fun i hi => by simpa using G2.out i hi⟩⟩
  case round =>
    obtain ⟨k, hk, rfl, rfl, rfl, hb, hr⟩ := hrel
    by_cases hlt : k < rows.length
    · obtain ⟨g, rfl, _, _, _⟩ := hr.out.1.at_ (by omega)
      have c3 := hr.out.1.cell hlt
      have ho := hr.out.2 k hlt
      rw [if_neg (Nat.lt_irrefl k)] at ho
      obtain ⟨p1, k1, e1, _, _⟩ := ho.shape
      obtain ⟨lo', hi', ht, hin⟩ := ho.tight
      have Hb := Lib.hid fun b hb => Own.block ho (k := b) hb
      have He := Lib.hid e1
      rw [e1] at ht
      have Hin := Lib.hid hin
      have Hp := Lib.hid (pre_succ rows k hlt)
      have hle := pre_le rows (k + 1)
      rw [Hp.out] at hle
      rw [e1] at c3
      have hc := fun (W : World) (hW : OwnI 3 W lo' hi' (.slice p1 (rows.getD k []).length k1) (rows.getD k [])) => markIntS_any _ (rows.getD k []) lo' hi' (m + pre rows k) W hW (by omega) (by omega)
      generalize hL : (rows.getD k []).length = L at c3 hle hc ht
      generalize hR : pre rows k = R at hle hc
      have Hc := Lib.hid hc
      have Ht := Lib.hid ht
      have HL := Lib.hid hL
      have HR := Lib.hid hR
      clear ho ht hin hp e1 hL hR hc
      go_wp2_with fail
      refine (Hc.out _ Ht.out).mono ?_
      rintro e w1 ⟨rfl, ho1, hf1⟩
      have Ho1 := Lib.hid ho1
      clear ho1
      go_wp2_with fail
      go_roundg (rows.length - (k + 1))
      case measure => omega
      case rel =>
        have hrng : ∀ b, ¬ (b < lo' ∨ hi' ≤ b) → (f k).ownBlock = some b ∧ lo ≤ b ∧ b < hi := fun b hb => Hin.out b (by omega) (by omega)
        refine ⟨k + 1, by omega, rfl, by go_num, by rw [Hp.out, HR.out, HL.out]; go_num, hb.trans ⟨hf1.os, hf1.tape, hf1.output, hf1.size, fun b hb ho => hf1.block b hb ?_⟩, ⟨hr.out.1.besides hf1 fun b hb => ?_, fun i hi => ?_⟩⟩
        · rcases Classical.em (b < lo' ∨ hi' ≤ b) with h | h
          · exact h
          · have := hrng b h; omega
        · rcases Classical.em (b < lo' ∨ hi' ≤ b) with h | h
          · exact h
          · exact (own_types hr.out.1 (hr.out.2 k hlt) (by decide) hb (hrng b h).1).elim
        · by_cases e : i = k
          · subst e
            rw [if_pos (by omega), HR.out, HL.out, He.out, HL.out]
            refine Ho1.out.widen fun b hb => ?_
            have := Hb.out b (by rw [He.out, HL.out]; exact hb)
            omega
          · have e2 : (if i < k + 1 then runs (m + pre rows i) (rows.getD i []).length else rows.getD i []) = (if i < k then runs (m + pre rows i) (rows.getD i []).length else rows.getD i []) := by
              by_cases h1 : i < k
              · rw [if_pos h1, if_pos (by omega)]
              · rw [if_neg h1, if_neg (by omega)]
            rw [e2]
            refine (hr.out.2 i hi).besides hf1 fun b hb => ?_
            rcases Classical.em (b < lo' ∨ hi' ≤ b) with h | h
            · exact h
            · have h3 := (hrng b h).1
              rcases Nat.lt_or_gt_of_ne e with h4 | h4
              · exact (G3.out i k h4 hlt b hb h3).elim
              · exact (G3.out k i h4 hi b h3 hb).elim
    · go_wp2
      go_ret
      obtain rfl : k = rows.length := by omega
      rw [pre_all]
      refine ⟨rfl, ⟨f, ?_, fun i hi => ?_, fun i j hij hj => ?_⟩, hb⟩
      · rw [length_runsII]; exact hr.out.1
      · rw [length_runsII] at hi
        rw [getD_runsII m rows hi]
        simpa [hi] using hr.out.2 i hi
      · rw [length_runsII] at hj
        exact G3.out i j hij hj

set_option maxRecDepth 100000 in
set_option maxHeartbeats 1000000 in
theorem heldIntSS_runs (v : Value) (rows : List (List Int)) (m : Int) (w : World) (h : RdII w v (runsII m rows)) (h0 : 0 ≤ m) (h1 : m + rows.flatten.length ≤ 1000000000000) :
    Calls Try.prog 16 #[v, .int .i64 m] w fun e w' => e = .returned (.int .i64 (m + rows.flatten.length)) ∧ Below w.heap.size w w' := by
  obtain ⟨f, ⟨p, cap, rfl, ⟨hx1, hx⟩, hxc⟩, hf⟩ := h
  rw [length_runsII] at *
  unfold maxLen at hx
  have Hf := Lib.hid hf
  clear hf
  go_enter Try.func16, Try.ntmps16
  go_wp2
  go_loopg [1, 5] rows.length (fun n s1 i wr => ∃ k : Nat, k ≤ rows.length ∧ n = rows.length - k ∧ i = .int .i64 k ∧ s1 = .int .i64 (m + pre rows k) ∧ Below w.heap.size w wr)
  case atStart => exact ⟨0, Nat.zero_le _, rfl, rfl, by simp [pre_zero], Below.refl _ _⟩
  case round =>
    obtain ⟨k, hk, rfl, rfl, rfl, hb⟩ := hrel
    by_cases hlt : k < rows.length
    · obtain ⟨b, off, rfl, hc⟩ := hxc (by omega)
      have c1 := cell_below hb (hc k hlt)
      have I := (Hf.out k hlt).below hb
      rw [getD_runsII m rows hlt] at I
      obtain ⟨p1, k1, e1, ⟨_, _⟩, _⟩ := id I
      rw [length_runs] at e1
      have Hp := Lib.hid (pre_succ rows k hlt)
      have hle := pre_le rows (k + 1)
      rw [Hp.out] at hle
      rw [e1] at c1 I
      generalize hL : (rows.getD k []).length = L at c1 hle I
      generalize hR : pre rows k = R at hle I
      have HL := Lib.hid hL
      have HR := Lib.hid hR
      have HI := Lib.hid I
      clear hxc hc e1 hL hR I
      go_wp2_with fail
      refine (heldIntS_runs _ L _ _ HI.out (by omega) (by omega)).mono ?_
      rintro e w1 ⟨rfl, hb1⟩
      go_wp2_with fail
      go_roundg (rows.length - (k + 1))
      case measure => omega
      case rel => exact ⟨k + 1, by omega, rfl, by go_num, by rw [Hp.out, HR.out, HL.out]; go_num, hb.trans (hb1.mono hb.size)⟩
    · go_wp2
      go_ret
      obtain rfl : k = rows.length := by omega
      rw [pre_all]
      exact ⟨rfl, hb⟩

end Go.Proofs.Ytebfnjffjedmgaa
