/-
  The program's sorting of classes.
  ClassesOk, on both sides.
-/
import Derived.Test.YtgebjjpcgakjgaaGreatJ4
import Derived.Test.YtgebjjpcgakjgaaGreatJ5
import Derived.Test.YtgebjjpcgakjgaaGreatJ13
import Derived.Test.YtgebjjpcgakjgaaGreatJ2
namespace Go.Proofs.YtgebjjpcgakjgaaGreat
set_option linter.all false
open Go.RowKit Go.Sort Go.Shelf

set_option maxRecDepth 1000000 in
set_option maxHeartbeats 4000000 in
theorem cmpCls_any (d d' : Value) (xs ys : List Int) (c c' : Int) (w : World) (h : Ints w d xs) (h' : Ints w d' ys) :
    Calls Tryz.prog 65 #[.agg #[d, .int .i64 c], .agg #[d', .int .i64 c']] w fun e w' => e = .returned (.int .i64 (cmpB xs ys)) ∧ ∃ q os', w' = grow (w.drewN q) os' := by
  have q1 := fun o o' => compare_any d d' xs ys ((w.alloc o).alloc o') (h.below (below_alloc2 w o o')) (h'.below (below_alloc2 w o o'))
  have Q1 := Lib.hid q1
  clear q1
  obtain ⟨p, cap, rfl, _, _⟩ := h
  obtain ⟨p', cap', rfl, _, _⟩ := h'
  go_enter Tryz.func65, Tryz.ntmps65
  go_wp2_with fail
  refine (Q1.out _ _).mono ?_
  rintro e w1 ⟨rfl, rfl⟩
  go_wp2_with fail
  go_ret
  exact ⟨rfl, 0, _, by rw [alloc_eq_grow, alloc_eq_grow, grow_grow]; rfl⟩

theorem swo_cls (R : Nat → List Int) : SWO (ltOf fun i j => cmpB (R i) (R j)) where
  irrefl x := by simp only [ltOf, cmpB_neg]; exact ltB_irrefl _
  trans x y z h1 h2 := by simp only [ltOf, cmpB_neg] at *; exact ltB_trans _ _ _ h1 h2
  ntrans x y z h1 h2 := by simp only [ltOf, cmpB_neg] at *; exact ltB_ntrans _ _ _ h1 h2

set_option maxRecDepth 100000 in
theorem sortFC_any (v : Value) (cs : List Cls) (lo hi : Nat) (w : World) (h : OwnCd w lo hi v cs) (hn : cs.length ≤ 1000) (hnd : (cs.map (·.1)).Nodup) :
    Calls Tryz.prog 64 #[v, .func (.func 65) #[] #[]] w fun e w' =>
      e = .returned (.tuple #[]) ∧ OwnCd w' lo hi v (srtC cs) ∧ Frm lo hi w w' := by
  have hcl := h
  obtain ⟨F, g1, g2, g3⟩ := h
  obtain ⟨p, cap, rfl, hnc, hcm, hp⟩ := g1.shape
  by_cases h0 : cs.length = 0
  · have hcs : cs = [] := List.eq_nil_of_length_eq_zero h0
    subst hcs
    have hcon := AnyF.slices_SortFunc_none (P := Tryz.prog) (ρ := Tryz.sortC_ren) Tryz.sortC p cap (.func (.func 65) #[] #[]) w
    change Calls Tryz.prog 64 _ _ _ at hcon
    refine hcon.mono ?_
    rintro e w' ⟨rfl, rfl⟩
    exact ⟨rfl, hcl, Frm.refl _ _ _⟩
  · obtain ⟨g, rfl, hg1, hg2, hg3⟩ := hp (by omega)
    have g1' := g1
    obtain ⟨xs, hown, hxf⟩ := g1'
    obtain ⟨cur, hgc, hsz⟩ : ∃ cur : Array Value, w.heap[g]? = some (.cells cur 34 (0, 0)) ∧ cur.size = cap * 2 := by
      rcases hown.1.2 with ⟨e, _⟩ | ⟨g', cap', cur, e, hb, hg, hn', hm, hs, ht⟩
      · injection e with e; cases e
      · injection e with e1 e2 e3
        injection e1 with e1
        injection e1 with e1
        subst e1 e3
        exact ⟨cur, hg, hs⟩
    obtain ⟨n, hN⟩ : ∃ n, n = cs.length := ⟨_, rfl⟩
    have enter : ∀ args w, (callFunc 65 args).run Tryz.prog w = .ok (.enter 65 args) w := enters_of Tryz.func65 (by kernel_rfl) rfl
    obtain ⟨D, hD⟩ : ∃ D : Nat → Value, D = fun i => if i < n then F i else .slice none 0 0 := ⟨_, rfl⟩
    obtain ⟨C, hC⟩ : ∃ C : Nat → Int, C = fun i => if i < n then (cs.getD i clD).2 else 0 := ⟨_, rfl⟩
    obtain ⟨R, hR⟩ : ∃ R : Nat → List Int, R = fun i => if i < n then (cs.getD i clD).1 else [] := ⟨_, rfl⟩
    have hDs : ∀ i, ∃ p k m, D i = .slice p k m := fun i => by
      rw [hD]
      by_cases e : i < n
      · obtain ⟨p1, k1, e1, _⟩ := (g2 i (by omega)).shape
        simp only [e, if_true]
        exact ⟨_, _, _, e1⟩
      · simp only [e, if_false]; exact ⟨_, _, _, rfl⟩
    have hnb : ∀ i, i < n → ∀ k, (F i).ownBlock = some k → k ≠ g ∧ k < w.heap.size := fun i hi k hk => ⟨fun e => by
      subst e
      exact ne_of_kinds ((g2 i (by omega)).kind k hk) ⟨cur, (0, 0), hgc⟩ (by decide), (Own.block (g2 i (by omega)) hk).2.2⟩
    have hcmp : CmpLays Tryz.prog 65 #[] (fun i => [D i, .int .i64 (C i)]) 2 (fun i j => cmpB (R i) (R j)) g 0 (Array.range n).size w := by
      intro m os dk _ x y
      have hI : ∀ i, Ints (sortWorldK (fun i => [D i, .int .i64 (C i)]) 2 w g 0 m dk os) (D i) (R i) := fun i => by
        by_cases e : i < n
        · have d1 : D i = F i := by rw [hD]; simp only [e, if_true]
          have r1 : R i = (cs.getD i clD).1 := by rw [hR]; simp only [e, if_true]
          rw [d1, r1]
          refine OwnI.ints (lo := lo) (hi := hi) (T := 3) ⟨ownsRow_of_block (g2 i (by omega)).1 fun k hk => ?_, (g2 i (by omega)).2⟩
          exact swd_other id (hnb i e k hk).2 (hnb i e k hk).1 m (flatK (fun i => [D i, .int .i64 (C i)]) 2 dk) os
        · have d1 : D i = .slice none 0 0 := by rw [hD]; simp only [e, if_false]
          have r1 : R i = [] := by rw [hR]; simp only [e, if_false]
          rw [d1, r1]
          exact ⟨none, 0, rfl, ⟨Nat.le_refl _, Nat.zero_le _⟩, fun h => absurd h (by simp)⟩
      exact cmpCls_any (D x) (D y) (R x) (R y) (C x) (C y) _ (hI x) (hI y)
    have sz : (Array.range n).size = n := by simp
    have hH : HoldsK (fun i => [D i, .int .i64 (C i)]) 2 w g 0 (Array.range n) := fun j hj => by
      rw [size_flatK, sz] at hj
      rw [get_flatK _ _ _ _ (by rw [sz]; exact hj), Nat.zero_add]
      have hj2 : j / 2 < n := by omega
      have e : (Array.range n)[j / 2]! = j / 2 := by rw [getElem!_pos _ _ (by simpa using hj2)]; simp
      rw [e]
      refine ⟨?_, g1.frozen j⟩
      have hm : j % 2 = 0 ∨ j % 2 = 1 := by omega
      rcases hm with hm | hm
      · have := g1.cell (i := j / 2) (j := 0) (by omega) (by omega)
        rw [show j / 2 * 2 + 0 = j by omega] at this
        rw [this, hm, hD]
        simp [hj2, clF]
      · have := g1.cell (i := j / 2) (j := 1) (by omega) (by omega)
        rw [show j / 2 * 2 + 1 = j by omega] at this
        rw [this, hm, hC]
        simp [hj2, clF]
    have hcon := AnyQ.slices_SortFunc Tryz.sortC 2 (by intro w; exact Tryz.isAgg34 w) (by intro w; exact Tryz.sizeOf34 w) (fun i => [D i, .int .i64 (C i)]) (fun _ => rfl) (fun x v hv => by
      simp only [List.mem_cons, List.not_mem_nil, or_false] at hv
      rcases hv with rfl | rfl
      · obtain ⟨p, k, m, e⟩ := hDs x
        rw [e]; rfl
      · rfl) (fun i j => cmpB (R i) (R j)) (swo_cls R) 65 #[] g 0 cap (Array.range n) w enter hcmp hH hg3 (by rw [sz]; omega)
    change Calls Tryz.prog 64 _ _ _ at hcon
    rw [sz] at hcon
    rw [← hN]
    refine hcon.mono ?_
    rintro e w' ⟨rfl, d', m, os, hp1, hs1, hw'⟩
    have hw2 : w' = sortWorld id w g 0 m (flatK (fun i => [D i, .int .i64 (C i)]) 2 d') os := hw'
    clear hw'
    subst hw2
    have hds : d'.size = n := by simpa using hp1.1
    have hperm : d'.toList.Perm (List.range n) := by
      have h1 := hp1.2.2
      have e1 : d'.extract 0 n = d' := by rw [← hds]; simp
      have e2 : (Array.range n).extract 0 n = Array.range n := by
        have := Array.extract_size (xs := Array.range n)
        rwa [Array.size_range] at this
      rw [e1, e2] at h1
      simpa using h1
    have hat : ∀ i (hi : i < n), d'[i]! = d'.toList[i]'(by simpa [hds] using hi) := fun i hi => by
      rw [getElem!_pos d' i (by omega)]; simp
    have hlt : ∀ i, i < n → d'[i]! < n := fun i hi => by
      have : d'[i]! ∈ d'.toList := by rw [hat i hi]; exact List.getElem_mem _
      simpa using hperm.mem_iff.1 this
    have hl : (d'.toList.map fun i => cs.getD i clD).length = n := by simp [hds]
    have hgd : ∀ i, i < n → (d'.toList.map fun i => cs.getD i clD).getD i clD = cs.getD d'[i]! clD := fun i hi => by
      rw [List.getD_eq_getElem?_getD, List.getElem?_map, hat i hi, List.getElem?_eq_getElem (by simpa [hds] using hi)]
      rfl
    have hcs : (d'.toList.map fun i => cs.getD i clD) = srtC cs := by
      refine srtC_eq hnd ?_ ?_
      · refine (hperm.map _).trans (List.Perm.of_eq ?_)
        apply List.ext_getElem?
        intro i
        rw [List.getElem?_map]
        by_cases hi : i < n
        · rw [List.getElem?_range hi, Option.map_some, List.getD_eq_getElem?_getD, List.getElem?_eq_getElem (by omega)]; rfl
        · rw [List.getElem?_eq_none (by simp; omega), List.getElem?_eq_none (by omega)]; rfl
      · rw [List.pairwise_iff_getElem]
        intro i j hi hj hij
        have hi' : i < n := by omega
        have hj' : j < n := by omega
        have h1 := hs1 i j (Nat.zero_le _) hij hj'
        simp only [ltOf, cmpB_neg, hR, hlt i hi', hlt j hj', if_true] at h1
        rw [List.getElem_map, List.getElem_map, ← hat i hi', ← hat j hj']
        exact h1
    rw [← hcs]
    have hfr : Frm lo hi w (sortWorld id w g 0 m (flatK (fun i => [D i, .int .i64 (C i)]) 2 d') os) :=
      ⟨rfl, rfl, rfl, swd_size _ _ _ _ _ _, fun k hk ho => swd_other id hk (by omega) m _ os⟩
    have hnod : d'.toList.Nodup := hperm.nodup_iff.2 List.nodup_range
    have hneq : ∀ i j, i < j → j < n → d'[i]! ≠ d'[j]! := fun i j hij hj => by
      rw [hat i (by omega), hat j hj]
      exact (List.pairwise_iff_getElem.1 hnod) i j _ _ hij
    refine ⟨rfl, ⟨fun i => F d'[i]!, ?_, fun i hi => ?_, fun i j hij hj k hk => ?_⟩, hfr⟩
    · have hflat : ∀ t, t < n * 2 → (putCells id 0 (flatK (fun i => [D i, .int .i64 (C i)]) 2 d') cur)[t]? = some (clF (d'.toList.map fun i => cs.getD i clD) (fun i => F d'[i]!) (t / 2) (t % 2)) := fun t ht => by
        have htc : t < cur.size := by omega
        simp only [putCells, Array.getElem?_mapIdx, Array.getElem?_eq_getElem htc, Option.map_some, Nat.zero_le, true_and, Nat.zero_add, Nat.sub_zero, size_flatK, hds, ht, if_true, id]
        rw [get_flatK _ _ _ _ (by rw [hds]; exact ht)]
        have ht2 : t / 2 < n := by omega
        have hm : t % 2 = 0 ∨ t % 2 = 1 := by omega
        congr 1
        rcases hm with hm | hm
        · rw [hm, hD]; simp [clF, hlt _ ht2]
        · rw [hm, hC]; simp only [clF]; rw [hgd _ ht2]; simp [hlt _ ht2]
      rw [hl]
      refine ⟨((putCells id 0 (flatK (fun i => [D i, .int .i64 (C i)]) 2 d') cur).toList.take (n * 2)), ⟨⟨?_, .inr ⟨g, cap, _, rfl, hg1, swd_at id hgc m _ os, by omega, hcm, ?_, rfl⟩⟩, fun k hk => ?_⟩, fun i hi j hj => ?_⟩
      · rw [List.length_take]; simp [putCells, hsz]; omega
      · simp [putCells, hsz]
      · simp [Value.ownBlock] at hk; omega
      · have ht : i * 2 + j < n * 2 := by omega
        rw [List.getElem?_take, if_pos ht, Array.getElem?_toList, hflat _ ht, show (i * 2 + j) / 2 = i by omega, show (i * 2 + j) % 2 = j by omega]
    · rw [hl] at hi
      rw [hgd i hi]
      refine ⟨ownsRow_of_block (g2 _ (by have := hlt i hi; omega)).1 fun k hk => ?_, (g2 _ (by have := hlt i hi; omega)).2⟩
      exact swd_other id (hnb _ (hlt i hi) k hk).2 (hnb _ (hlt i hi) k hk).1 m _ os
    · rw [hl] at hj
      have h1 := hneq i j hij hj
      intro hk2
      rcases Nat.lt_or_gt_of_ne h1 with h2 | h2
      · exact g3 _ _ h2 (by have := hlt j hj; omega) k hk hk2
      · exact g3 _ _ h2 (by have := hlt i (by omega); omega) k hk2 hk

set_option maxRecDepth 100000 in
set_option maxHeartbeats 2000000 in
theorem sortClasses_any (v : Value) (cs : List Cls) (lo hi : Nat) (w : World) (h : OwnCd w lo hi v cs) (hn : cs.length ≤ 1000) (hnd : (cs.map (·.1)).Nodup) :
    Calls Tryz.prog 44 #[v] w fun e w' => e = .returned (.tuple #[]) ∧ OwnCd w' lo hi v (srtC cs) ∧ Frm lo hi w w' := by
  have Hi := Lib.hid (sortFC_any v cs lo hi w h hn hnd)
  obtain ⟨p, cap, rfl, _, _⟩ := h.shape
  clear h hn hnd
  go_enter Tryz.func44, Tryz.ntmps44
  go_wp2_with fail
  refine Hi.out.mono ?_
  rintro e w1 ⟨rfl, ho, hf⟩
  have Ho := Lib.hid ho
  have Hf := Lib.hid hf
  clear ho hf
  go_wp2_with fail
  go_end0
  exact ⟨rfl, Ho.out, Hf.out⟩

end Go.Proofs.YtgebjjpcgakjgaaGreat

namespace Go.Proofs.YtgebjjpcgakjgaaGreat
set_option linter.all false
open Go.RowKit

/-- class k of a list is as it should be -/
def clAt (cs : List Cls) (k : Nat) : Bool :=
  permOk (cs.getD k clD).1 && decide (trimN (cs.getD k clD).1 (cs.getD k clD).1.length = (cs.getD k clD).1.length) && !decide ((cs.getD k clD).2 = 0) && !decide ((cs.getD k clD).2 < -1000000) && !decide (1000000 < (cs.getD k clD).2) &&
    (!decide (0 < k) || ltB (cs.getD (k - 1) clD).1 (cs.getD k clD).1)
def clsOk (cs : List Cls) : Bool := decide (cs.length ≤ 100) && (List.range cs.length).all (clAt cs)
theorem clsOk_big {cs : List Cls} (h : 100 < cs.length) : clsOk cs = false := by
  unfold clsOk; rw [decide_eq_false (by omega)]; rfl
theorem clsOk_bad {cs : List Cls} {k : Nat} (hk : k < cs.length) (h : clAt cs k = false) : clsOk cs = false := by
  unfold clsOk
  have : (List.range cs.length).all (clAt cs) = false := List.all_eq_false.2 ⟨k, List.mem_range.2 hk, by simp [h]⟩
  rw [this, Bool.and_false]
theorem clsOk_yes {cs : List Cls} (hl : cs.length ≤ 100) (h : ∀ k, k < cs.length → clAt cs k = true) : clsOk cs = true := by
  unfold clsOk
  rw [decide_eq_true hl, Bool.true_and, List.all_eq_true]
  exact fun k hk => h k (List.mem_range.1 hk)
theorem implTrim_sh (v : Value) (xs : List Int) (w : World) (h : Ints w v xs) (hp : permOk xs = true) :
    Calls Tryz.prog 43 #[v] w fun e w' => ∃ (p : Option Addr) (k : Nat), e = .returned (.slice p (trimN xs xs.length) k) ∧ Below w.heap.size w w' :=
  (implTrim_yes v xs w h hp).mono fun e w' ⟨u, h1, h2, h3⟩ => by
    obtain ⟨p, k, rfl, _, _⟩ := h2.shape
    exact ⟨p, k, by rw [h1, trimL_length], h3⟩
theorem keep3w {wr W W' : World} {a0 a1 a2 : Addr} {v0 v1 v2 : Value} (hb : Below W.heap.size W W') (h : (W.cell? a0 = some v0 ∧ W.cell? a1 = some v1 ∧ W.cell? a2 = some v2) ∧ Below wr.heap.size wr W) :
    (W'.cell? a0 = some v0 ∧ W'.cell? a1 = some v1 ∧ W'.cell? a2 = some v2) ∧ Below wr.heap.size wr W' :=
  ⟨⟨cell_below hb h.1.1, cell_below hb h.1.2.1, cell_below hb h.1.2.2⟩, below_trans h.2 hb⟩

theorem Qt.belowS {w w' : World} (h : Qt w w') : Below w.heap.size w w' := h.below _
end Go.Proofs.YtgebjjpcgakjgaaGreat
