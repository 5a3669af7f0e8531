/-
  slices.DeleteFunc of dreams that stand in another list.
  Copies of dreams, dreams in order, isDream.
  isDream.
  Slices of structs, any number of one-cell fields an element: over any program.
  Ladder moves: what the walk wants. Plain, and a cell written.
-/
import Derived.Test.YtcbjcmhnlakgbaaJ5
import Derived.Test.YtcbjcmhnlakgbaaJ4
import Derived.Test.YtcbjcmhnlakgbaaJ3
import Derived.Lib.OwnKind
import Derived.Test.YtcbjcmhnlakgbaaJ2
namespace Go.Proofs.Ytcbjcmhnlakgbaa
set_option linter.all false
set_option maxRecDepth 100000
open Go.RowKit

theorem sameD_any (x y : Value) (cs d : Drm) (b : Nat) (w : World) (hx : RdC w x cs) (hb : w.cell? ⟨b, 0, none⟩ = some y) (hy : RdC w y d) :
    Calls Try.prog 26 #[x, .pointer (some ⟨b, 0, none⟩)] w fun e w' => e = .returned (.bool (decide (cs = d))) ∧ Qt w w' := by
  have H := Lib.hid (equalC_any x y cs d w hx hy)
  obtain ⟨p, l, c, rfl⟩ := hx.sh
  obtain ⟨p', l', c', rfl⟩ := hy.sh
  clear hx hy
  go_enter Try.func26, Try.ntmps26
  go_wp2_with fail
  refine H.out.mono ?_
  rintro e w1 ⟨rfl, hq⟩
  go_wp2_with fail
  go_ret
  exact ⟨rfl, hq⟩

set_option maxHeartbeats 2000000 in
theorem indexFB_any (v y : Value) (L : List Drm) (d : Drm) (b : Nat) (w : World) (h : RdD w v L) (hb : w.cell? ⟨b, 0, none⟩ = some y) (hy : RdC w y d) :
    Calls Try.prog 37 #[v, .func (.func 26) #[] #[.pointer (some ⟨b, 0, none⟩)]] w fun e w' =>
      ∃ r : Int, e = .returned (.int .i64 r) ∧ (0 ≤ r ↔ d ∈ L) ∧ -1 ≤ r ∧ Qt w w' := by
  obtain ⟨f, h1, h2⟩ := h
  have H2 := Lib.hid h2
  obtain ⟨p, cap, rfl, ⟨hx1, hx2⟩, hxc⟩ := h1
  unfold maxLen at hx2
  have Hxc := Lib.hid hxc
  have Hb := Lib.hid hb
  have Hy := Lib.hid hy
  clear hxc h2 hb hy
  go_enter Try.func37, Try.ntmps37
  go_wp2_with fail
  go_loopg [5, 8] L.length (fun g s5 s8 wr => ∃ k : Nat, k ≤ L.length ∧ g = L.length - k ∧ s8 = .int .i64 (k : Int) ∧ Qt w wr ∧ Hid (d ∉ L.take k))
  case atStart => exact ⟨0, Nat.zero_le _, rfl, rfl, Qt.refl _, by simp [Hid]⟩
  case round =>
    obtain ⟨k, hk, rfl, rfl, hq, hno⟩ := hrel
    by_cases hlt : k < L.length
    · obtain ⟨g, off, rfl, hc⟩ := Hxc.out (by omega)
      have c1 := hq.cell (hc k hlt)
      have q1 := sameD_any (f k) y (L.getD k []) d b wr ((H2.out k hlt).qt hq) (hq.cell Hb.out) (Hy.out.qt hq)
      obtain ⟨p1, l1, k1, e1⟩ := (H2.out k hlt).sh
      have T1 := Lib.hid (takeD_snoc (d := ([] : Drm)) hlt)
      have hmem : L.getD k [] ∈ L := by
        have e : L.getD k [] = L[k] := by simp [List.getD_eq_getElem?_getD, hlt]
        rw [e]; exact List.getElem_mem hlt
      have Hmem := Lib.hid hmem
      rw [e1] at c1 q1
      clear hc e1 hmem
      have hk0 : (0 : Int) ≤ (k : Int) := by omega
      by_cases e : L.getD k [] = d
      · rw [decide_eq_true e] at q1
        have Hm2 := Lib.hid (show d ∈ L by rw [← e]; exact Hmem.out)
        have Q1 := Lib.hid q1
        clear e q1
        go_wp2_with fail
        refine Q1.out.mono ?_
        rintro e w1 ⟨rfl, hq1⟩
        go_wp2_with fail
        go_ret
        exact ⟨(k : Int), rfl, ⟨fun _ => Hm2.out, fun _ => hk0⟩, by omega, hq.trans hq1⟩
      · rw [decide_eq_false e] at q1
        have hn : Hid (d ∉ L.take (k + 1)) := by
          show _ ∉ L.take (k + 1)
          rw [T1.out, List.mem_append]
          rintro (h | h)
          · exact hno.out h
          · simp only [List.mem_singleton] at h; exact e h.symm
        have Q1 := Lib.hid q1
        clear e q1
        go_wp2_with fail
        refine Q1.out.mono ?_
        rintro e w1 ⟨rfl, hq1⟩
        go_wp2_with fail
        go_roundg (L.length - (k + 1))
        case measure => omega
        case rel => exact ⟨k + 1, by omega, rfl, by go_num, hq.trans hq1, hn⟩
    · obtain rfl : k = L.length := by omega
      have hn := hno.out
      rw [List.take_of_length_le (Nat.le_refl _)] at hn
      have Hn := Lib.hid hn
      clear hn
      go_wp2_with fail
      go_ret
      exact ⟨-1, rfl, ⟨fun h => absurd h (by decide), fun h => absurd h Hn.out⟩, by omega, hq⟩

theorem containsFB_any (v y : Value) (L : List Drm) (d : Drm) (b : Nat) (w : World) (h : RdD w v L) (hb : w.cell? ⟨b, 0, none⟩ = some y) (hy : RdC w y d) :
    Calls Try.prog 25 #[v, .func (.func 26) #[] #[.pointer (some ⟨b, 0, none⟩)]] w fun e w' =>
      e = .returned (.bool (decide (d ∈ L))) ∧ Qt w w' := by
  have H := Lib.hid (indexFB_any v y L d b w h hb hy)
  obtain ⟨f, ⟨p, cap, rfl, _⟩, _⟩ := h
  clear hb hy
  go_enter Try.func25, Try.ntmps25
  go_wp2_with fail
  refine H.out.mono ?_
  rintro e w1 ⟨r', rfl, hr, hr1, hq⟩
  have Hr := Lib.hid hr
  clear hr
  go_wp2_with fail
  go_ret
  exact ⟨ret_bool (by rw [decide_eq_decide]; exact Hr.out), hq⟩

/-- is a dream among all? -/
theorem among_any (x y : Value) (A : List Drm) (d : Drm) (b : Nat) (w : World) (hx : RdC w x d) (hb : w.cell? ⟨b, 0, none⟩ = some y) (hy : RdD w y A) :
    Calls Try.prog 24 #[x, .pointer (some ⟨b, 0, none⟩)] w fun e w' => e = .returned (.bool (decide (d ∈ A))) ∧ Gw w w' := by
  have z0 := heap_alloc_top w (.cells #[x] 27)
  have x1 := cell_of_blk z0 (j := 0) rfl
  have H := Lib.hid (containsFB_any y x A d w.heap.size (w.alloc (.cells #[x] 27)) (hy.below (below_alloc w _)) x1 (hx.below (below_alloc w _)))
  have Hg := Lib.hid ((Gw.refl w).alloc (.cells #[x] 27))
  have b1 : (w.alloc (.cells #[x] 27)).cell? ⟨b, 0, none⟩ = some y := Lib.cell?_alloc_some _ hb
  obtain ⟨p, l, c, rfl⟩ := hx.sh
  obtain ⟨f, ⟨p', cap', rfl, _⟩, _⟩ := hy
  clear z0 hx
  go_enter Try.func24, Try.ntmps24
  go_wp2_with fail
  refine H.out.mono ?_
  rintro e w1 ⟨rfl, hq⟩
  have Hq := Lib.hid hq
  clear hq
  go_wp2_with fail
  go_ret
  exact ⟨rfl, Hg.out.qt Hq.out⟩

set_option maxHeartbeats 2000000 in
theorem indexFA_any (v y : Value) (L A : List Drm) (b : Nat) (w : World) (h : RdD w v L) (hb : w.cell? ⟨b, 0, none⟩ = some y) (hy : RdD w y A) :
    Calls Try.prog 37 #[v, .func (.func 24) #[] #[.pointer (some ⟨b, 0, none⟩)]] w fun e w' =>
      ((e = .returned (.int .i64 (-1)) ∧ ∀ d ∈ L, d ∉ A) ∨ ∃ k : Nat, e = .returned (.int .i64 (k : Int)) ∧ k < L.length ∧ L.getD k [] ∈ A ∧ ∀ d ∈ L.take k, d ∉ A) ∧ Gw w w' := by
  obtain ⟨f, h1, h2⟩ := h
  have H2 := Lib.hid h2
  obtain ⟨p, cap, rfl, ⟨hx1, hx2⟩, hxc⟩ := h1
  unfold maxLen at hx2
  have Hxc := Lib.hid hxc
  have Hb := Lib.hid hb
  have Hy := Lib.hid hy
  clear hxc h2 hb hy
  go_enter Try.func37, Try.ntmps37
  go_wp2_with fail
  go_loopg [5, 8] L.length (fun g s5 s8 wr => ∃ k : Nat, k ≤ L.length ∧ g = L.length - k ∧ s8 = .int .i64 (k : Int) ∧ Hid (Gw w wr) ∧ Hid (∀ d ∈ L.take k, d ∉ A))
  case atStart => exact ⟨0, Nat.zero_le _, rfl, rfl, Gw.refl _, by simp [Hid]⟩
  case round =>
    obtain ⟨k, hk, rfl, rfl, hq, hno⟩ := hrel
    by_cases hlt : k < L.length
    · obtain ⟨g, off, rfl, hc⟩ := Hxc.out (by omega)
      have c0 := hc k hlt
      have c1 : wr.cell? _ = some _ := hq.out.below.cell (World.block_lt_of_cell? w _ c0) ▸ c0
      have b1 : wr.cell? _ = some _ := hq.out.below.cell (World.block_lt_of_cell? w _ Hb.out) ▸ Hb.out
      have q1 := among_any (f k) y A (L.getD k []) b wr ((H2.out k hlt).below hq.out.below) b1 (Hy.out.below hq.out.below)
      obtain ⟨p1, l1, k1, e1⟩ := (H2.out k hlt).sh
      have T1 := Lib.hid (takeD_snoc (d := ([] : Drm)) hlt)
      rw [e1] at c1 q1
      clear hc e1 c0 b1
      have hk0 : (0 : Int) ≤ (k : Int) := by omega
      by_cases e : L.getD k [] ∈ A
      · rw [decide_eq_true e] at q1
        have He := Lib.hid e
        have Q1 := Lib.hid q1
        clear e q1
        go_wp2_with fail
        refine Q1.out.mono ?_
        rintro e w1 ⟨rfl, hq1⟩
        have Hq1 := Lib.hid (hq.out.trans hq1)
        clear hq1
        go_wp2_with fail
        go_ret
        exact ⟨.inr ⟨k, rfl, hlt, He.out, hno.out⟩, Hq1.out⟩
      · rw [decide_eq_false e] at q1
        have hn : Hid (∀ d ∈ L.take (k + 1), d ∉ A) := by
          show ∀ d ∈ L.take (k + 1), d ∉ A
          rw [T1.out]
          intro d hd
          rcases List.mem_append.1 hd with h | h
          · exact hno.out d h
          · simp only [List.mem_singleton] at h; rw [h]; exact e
        have Q1 := Lib.hid q1
        clear e q1
        go_wp2_with fail
        refine Q1.out.mono ?_
        rintro e w1 ⟨rfl, hq1⟩
        have Hq1 := Lib.hid (hq.out.trans hq1)
        clear hq1
        go_wp2_with fail
        go_roundg (L.length - (k + 1))
        case measure => omega
        case rel => exact ⟨k + 1, by omega, rfl, by go_num, Hq1, hn⟩
    · obtain rfl : k = L.length := by omega
      have hn := hno.out
      rw [List.take_of_length_le (Nat.le_refl _)] at hn
      have Hn := Lib.hid hn
      clear hn
      go_wp2_with fail
      go_ret
      exact ⟨.inl ⟨rfl, Hn.out⟩, hq.out⟩

def notIn (A : List Drm) (d : Drm) : Bool := decide (d ∉ A)
theorem filter_all {A L : List Drm} (h : ∀ d ∈ L, d ∉ A) : L.filter (notIn A) = L := List.filter_eq_self.2 fun d hd => decide_eq_true (h d hd)
theorem filter_snoc {A L : List Drm} {d : Drm} : (L ++ [d]).filter (notIn A) = if d ∈ A then L.filter (notIn A) else L.filter (notIn A) ++ [d] := by
  rw [List.filter_append]
  by_cases e : d ∈ A
  · rw [if_pos e, List.filter_cons, if_neg (by simp [notIn, e])]
    simp
  · rw [if_neg e, List.filter_cons, if_pos (by simp [notIn, e])]
    simp

theorem Gw.frm {w w' : World} (h : Gw w w') (lo hi : Nat) : Frm lo hi w w' := Frm.of_below h.below lo hi

set_option maxHeartbeats 4000000 in
theorem deleteFA_any (v y : Value) (L A : List Drm) (b lo0 lo hi : Nat) (w : World) (h : OwnD w lo hi v L) (hn : L.length ≤ 1000) (hb : w.cell? ⟨b, 0, none⟩ = some y) (hbl : b < lo) (hy : OwnD w lo0 lo y A) :
    Calls Try.prog 23 #[v, .func (.func 24) #[] #[.pointer (some ⟨b, 0, none⟩)]] w fun e w' =>
      ∃ u, e = .returned u ∧ OwnD w' lo hi u (L.filter (notIn A)) ∧ Frm lo hi w w' := by
  have hcl := h
  have HI := Lib.hid (indexFA_any v y L A b w h.rd hb hy.rd)
  obtain ⟨F, g1, g2⟩ := h
  obtain ⟨p, cap, rfl, hnc, hcm, hp⟩ := g1.shape
  have hpA : ∀ W, Frm lo hi w W → ∀ x cs, RdC W x cs → Calls Try.prog 24 #[x, .pointer (some ⟨b, 0, none⟩)] W fun e w' => e = .returned (.bool (decide (cs ∈ A))) ∧ Gw W w' := fun W hf x cs hx =>
    among_any x y A cs b W hx (by
      have hlt := World.block_lt_of_cell? w _ hb
      have := hf.block b hlt (Or.inl hbl)
      simp only [World.cell?] at hb ⊢
      rw [this]
      exact hb) (hy.frm hf (Or.inl (Nat.le_refl _))).rd
  have HA := Lib.hid hpA
  have hsy := hy.shape
  obtain ⟨py, cy, rfl, _, _⟩ := hsy
  obtain ⟨n, hN⟩ : ∃ n, n = L.length := ⟨_, rfl⟩
  have hK : Kept w lo hi F L := g2
  rw [← hN] at g1 hnc hn hcl hp ⊢
  have G1 := Lib.hid g1
  have G2 := Lib.hid hK
  have HN := Lib.hid hN
  have Hcl := Lib.hid hcl
  have Hp := Lib.hid hp
  rw [← hN] at HI
  unfold maxLen at hcm
  have Hcm := Lib.hid hcm
  clear g1 g2 hK hN hcl hpA hb hbl hy hp
  go_enter Try.func23, Try.ntmps23
  go_wp2_with fail
  refine HI.out.mono ?_
  rintro e w1 ⟨hr, hg⟩
  have Hg := Lib.hid hg
  clear hg
  rcases hr with ⟨rfl, hall⟩ | ⟨k, rfl, hk, hin, hall⟩
  · have Hall := Lib.hid hall
    clear hall
    go_wp2_with fail
    go_ret
    exact ⟨_, rfl, by rw [filter_all Hall.out]; exact Hcl.out.below Hg.out.below, Hg.out.frm _ _⟩
  · obtain ⟨g, rfl, hg1, hg2, hg3⟩ := Hp.out (by omega)
    have hk1 : ((k : Int) == -1) = false := beq_eq_false_iff_ne.2 (by omega)
    have hstart : Hid ((L.take (k + 1)).filter (notIn A) = L.take k) := by
      show _ = _
      rw [takeD_snoc (d := ([] : Drm)) (by rw [← HN.out]; exact hk), filter_snoc, if_pos hin, filter_all hall]
    clear hin hall
    go_wp2_with fail
    go_loopg [5, 6, 7] (n - (k + 1)) (fun t s5 s6 s7 wr => ∃ (j m : Nat) (F' : Nat → Value), k + 1 ≤ j ∧ j ≤ n ∧ t = n - j ∧ s6 = .int .i64 (j : Int) ∧ s5 = .int .i64 (m : Int) ∧ m < j ∧ Hid (m = ((L.take j).filter (notIn A)).length) ∧ Hid (Frm lo hi w wr) ∧ Hid (OwnF wr lo hi 27 (.slice (some ⟨g, 0, none⟩) n cap) n F') ∧ Hid (Kept wr lo hi F' ((L.take j).filter (notIn A))) ∧ Hid (Kept wr lo hi F L) ∧ Hid (∀ x, j ≤ x → x < n → F' x = F x))
    case atStart =>
      refine ⟨k + 1, k, F, Nat.le_refl _, by omega, rfl, by go_num, rfl, by omega, ?_, Hg.out.frm _ _, G1.out.below Hg.out.below, ?_, G2.out.below Hg.out.below, fun _ _ _ => rfl⟩
      · show k = _
        rw [hstart.out, List.length_take, Nat.min_eq_left (by rw [← HN.out]; omega)]
      · rw [hstart.out]
        intro i hi
        rw [List.length_take] at hi
        have e2 : (L.take k).getD i [] = L.getD i [] := by simp [List.getD_eq_getElem?_getD, List.getElem?_take, show i < k by omega]
        rw [e2]
        exact (G2.out i (by omega)).below Hg.out.below
    case round =>
      obtain ⟨j, m, F', hkj, hjn, rfl, rfl, rfl, hmj, Hm, Hfr, H1, HKp, HKl, HF⟩ := hrel
      by_cases hlt : j < n
      · have o1 := (HKl.out j (by rw [← HN.out]; exact hlt)).rd
        have c1 := H1.out.cell hlt
        rw [HF.out _ (Nat.le_refl _) hlt] at c1
        have cm := H1.out.cell (show m < n by omega)
        have fm := H1.out.frozen m
        have Q1 := HA.out wr Hfr.out (F j) (L.getD j []) o1
        have T1 := Lib.hid (takeD_snoc (d := ([] : Drm)) (l := L) (k := j) (by rw [← HN.out]; exact hlt))
        have HsetF := Lib.hid (fun W (hW : Gw wr W) => (H1.out.below hW.below).set m (F j))
        have hsnoc := HKp.out.snoc (HKl.out j (by rw [← HN.out]; exact hlt))
        rw [← Hm.out] at hsnoc
        have Hsnoc := Lib.hid (fun W (hW : Gw wr W) => (hsnoc.below hW.below).set (H1.out.below hW.below) m (F j))
        have Hkl2 := Lib.hid (fun W (hW : Gw wr W) => (HKl.out.below hW.below).set (H1.out.below hW.below) m (F j))
        have Hfr2 := Lib.hid (fun W (hW : Gw wr W) => (Hfr.out.trans (hW.frm lo hi)).setCell (p := ⟨g, m, none⟩) hg1 hg2 (F j))
        clear hsnoc
        obtain ⟨x1, hx1⟩ : ∃ x, x = F j := ⟨_, rfl⟩
        obtain ⟨xm, hxm⟩ : ∃ x, x = F' m := ⟨_, rfl⟩
        rw [← hx1] at c1 o1 HsetF Hsnoc Hkl2 Hfr2 Q1
        rw [← hxm] at cm
        obtain ⟨p1, l1, k1, rfl⟩ := o1.sh
        have Hx1 := Lib.hid hx1
        have hjz : (j : Int) < (n : Int) := by omega
        have hmz : (m : Int) < (n : Int) := by omega
        have Hcm' := Lib.hid cm
        have Hfm' := Lib.hid fm
        by_cases e : L.getD j [] ∈ A
        · rw [decide_eq_true e] at Q1
          have Hst := Lib.hid (show (L.take (j + 1)).filter (notIn A) = (L.take j).filter (notIn A) by rw [T1.out, filter_snoc, if_pos e])
          have HQ1 := Lib.hid Q1
          clear e hx1 hxm HsetF Hsnoc Hkl2 Hfr2 Q1 o1 cm fm
          go_wp2_with fail
          refine HQ1.out.mono ?_
          rintro e w2 ⟨rfl, hg2'⟩
          have Hg2 := Lib.hid hg2'
          clear hg2'
          go_wp2_with fail
          go_roundg (n - (j + 1))
          case measure => omega
          case rel =>
            refine ⟨j + 1, m, F', by omega, by omega, rfl, by go_num, rfl, by omega, ?_, Hfr.out.trans (Hg2.out.frm _ _), H1.out.below Hg2.out.below, ?_, HKl.out.below Hg2.out.below, fun x h1 h2 => HF.out x (by omega) h2⟩
            · show m = _
              rw [Hst.out, ← Hm.out]
            · rw [Hst.out]
              exact HKp.out.below Hg2.out.below
        · rw [decide_eq_false e] at Q1
          have Hst := Lib.hid (show (L.take (j + 1)).filter (notIn A) = (L.take j).filter (notIn A) ++ [L.getD j []] by rw [T1.out, filter_snoc, if_neg e])
          have HQ1 := Lib.hid Q1
          clear e hx1 hxm Q1 o1 cm fm
          go_wp2_with fail
          refine HQ1.out.mono ?_
          rintro e w2 ⟨rfl, hg2'⟩
          have Hg2 := Lib.hid hg2'
          have cm2 : w2.cell? ⟨g, m, none⟩ = some xm := by
            have := hg2'.below.cell (World.block_lt_of_cell? wr _ Hcm'.out)
            rw [this]; exact Hcm'.out
          have fm2 : w2.frozen? ⟨g, m, none⟩ = false := (H1.out.below hg2'.below).frozen m
          clear hg2'
          go_wp2_with fail
          go_roundg (n - (j + 1))
          case measure => omega
          case rel =>
            refine ⟨j + 1, m + 1, _, by omega, by omega, rfl, by go_num, by go_num, by omega, ?_, Hfr2.out _ Hg2.out, HsetF.out _ Hg2.out, ?_, Hkl2.out _ Hg2.out, fun x h1 h2 => ?_⟩
            · show m + 1 = _
              rw [Hst.out, List.length_append, ← Hm.out]
              rfl
            · rw [Hst.out]
              exact Hsnoc.out _ Hg2.out
            · show (if x = m then _ else F' x) = F x
              rw [if_neg (by omega)]
              exact HF.out x (by omega) h2
      · obtain rfl : j = n := by omega
        have hjz : ¬ ((j : Int) < (j : Int)) := by omega
        have hmn : m ≤ j := by omega
        have cm : ∀ t, t < j - m → wr.cell? ⟨g, m + t, none⟩ = some (F' (m + t)) := fun t ht => H1.out.cell (by omega)
        have fm : ∀ t, wr.frozen? ⟨g, m + t, none⟩ = false := fun t => H1.out.frozen _
        have hcl : ∀ ty, (Builtin.clear_ #[29] ty #[.slice (some ⟨g, m, none⟩) (j - m) (cap - m)]).run Try.prog wr = .ok (.tuple #[]) (wr.setCells g m (List.replicate (j - m) (.slice none 0 0))) := fun ty =>
          Lib.run_clear_slice wr _ _ ty _ Try.underlying29 zeroSlC rfl rfl g m _ _ (by omega) (fun t ht => by rw [cm t ht]; rfl) (fun t ht => fm t)
        have hmz : (m : Int) ≤ (j : Int) := by omega
        have hmz2 : (m : Int) ≤ (cap : Int) := by omega
        have hmc : m ≤ cap := by omega
        have Hres := Lib.hid (show OwnD (wr.setCells g m (List.replicate (j - m) (.slice none 0 0))) lo hi (.slice (some ⟨g, 0, none⟩) m cap) (L.filter (notIn A)) from by
          have hT : L.take j = L := List.take_of_length_le (by rw [← HN.out]; omega)
          have h1 := Hm.out
          have h2 := HKp.out
          rw [hT] at h1 h2
          refine ⟨F', by rw [← h1]; exact H1.out.wiped hmn _, Kept.setCells _ _ _ _ h2 H1.out⟩)
        have Hfr3 := Lib.hid (Hfr.out.trans (setCells_frm hg1 hg2 m (List.replicate (j - m) (.slice none 0 0))))
        clear cm fm
        go_wp2_with fail
        go_ret
        exact ⟨_, rfl, Hres.out, Hfr3.out⟩

end Go.Proofs.Ytcbjcmhnlakgbaa

namespace Go.Proofs.Ytcbjcmhnlakgbaa
set_option linter.all false
set_option maxRecDepth 100000
open Go.RowKit Go.Sort

/-- cells put behind cells of the call's own -/
theorem wpList_append_Cs {w : World} {ops : Array Oper} {rest : List Oper} {o : Oper} {a : Act} {Q : Exit → Act → World → Prop} (hgd : o.guard = none) (s x : Operand)
    (ho : o.op = .call { callee := .builtin .append, args := #[s, x], argTypes := #[27, 27] })
    (lo hi : Nat) (v : Value) (cs : Drm) (hs : a.eval s = v) (hown : OwnC w lo hi v cs) (hlo : lo ≤ w.heap.size)
    (b : Addr) (k : Nat) (ds : Drm) (hx : a.eval x = .slice (some b) ds.length k) (hd : 0 < ds.length → ∃ g, b = ⟨g, 0, none⟩ ∧ ∀ i, i < ds.length → w.cell? ⟨g, i * 2, none⟩ = some (.int .i64 (ds.getD i (0, 0)).1) ∧ w.cell? ⟨g, i * 2 + 1, none⟩ = some (.int .i64 (ds.getD i (0, 0)).2)) (hn : cs.length + ds.length ≤ 100000)
    (h : ∀ v' w', OwnC w' lo w'.heap.size v' (cs ++ ds) → w.grownBy w' v.ownBlock → wpList Try.prog ops Q rest (a.put o.dst v') w') :
    wpList Try.prog ops Q (o :: rest) a w := by
  obtain ⟨i, hi, hz, hsz, hby⟩ := info_parts2 info_cell
  refine wpList_append_own w hgd s x _ ho lo 41 i _ 2 16 Try.underlying27 hi hz hsz hby rfl (by omega) v cs.length (cellVs cs) hs hown.1 b ds.length k (cellVs ds) hx (cellVs_length ds)
    (fun j u hj => ?_) (fun u hu => ?_) (by unfold maxLen; omega) (by omega) hlo fun v' w' h2 h3 _ => h v' w' ?_ h3
  · have hj2 : j < ds.length * 2 := by
      rcases Nat.lt_or_ge j (ds.length * 2) with h | h
      · exact h
      · rw [List.getElem?_eq_none (by rw [cellVs_length]; exact h)] at hj; cases hj
    obtain ⟨g, rfl, hc⟩ := hd (by omega)
    have hadd : (⟨g, 0, none⟩ : Addr).add j = ⟨g, 0 + j, none⟩ := by unfold Addr.add; split <;> simp_all
    rw [hadd, Nat.zero_add]
    obtain ⟨q1, q2⟩ := cellVs_get ds (j / 2) (by omega)
    obtain ⟨r1, r2⟩ := hc (j / 2) (by omega)
    have hm : j % 2 = 0 ∨ j % 2 = 1 := by omega
    rcases hm with hm | hm
    · rw [show j / 2 * 2 = j by omega] at q1 r1
      rw [q1] at hj
      injection hj with hj
      rw [r1, hj]
    · rw [show j / 2 * 2 + 1 = j by omega] at q2 r2
      rw [q2] at hj
      injection hj with hj
      rw [r2, hj]
  · simp only [cellVs, List.mem_flatMap, List.mem_cons, List.not_mem_nil, or_false] at hu
    obtain ⟨c, _, rfl | rfl⟩ := hu <;> rfl
  · have := Own.of_row h2
    unfold OwnC
    rw [show cellVs (cs ++ ds) = cellVs cs ++ cellVs ds by simp [cellVs], List.length_append]
    exact this

set_option maxHeartbeats 400000 in
theorem cloneC_any (v : Value) (cs : Drm) (w : World) (h : RdC w v cs) (hl : cs.length ≤ 1000) :
    Calls Try.prog 18 #[v] w fun e w' => ∃ u, e = .returned u ∧ OwnC w' w.heap.size w'.heap.size u cs ∧ Below w.heap.size w w' := by
  obtain ⟨p, cap, rfl, ⟨hx1, hx2⟩, hxc⟩ := h
  have keq := fun (n c : Nat) => Lib.run_eql_slice_nil (P := Try.prog) w 27 41 p n c 0 0 Try.underlying27
  cases p with
  | none =>
    have hx0 : cs.length = 0 := by
      rcases Nat.eq_zero_or_pos cs.length with h0 | h0
      · exact h0
      · obtain ⟨b, e, _⟩ := hxc h0; cases e
    obtain rfl := List.eq_nil_of_length_eq_zero hx0
    clear hxc
    go_enter Try.func18, Try.ntmps18
    go_wp2_with fail
    go_ret
    exact ⟨_, rfl, ⟨World.ownsRow_nil _ _ _ _, fun k hk => by simp [Value.ownBlock] at hk⟩, Below.refl _ _⟩
  | some a =>
    have Hd := Lib.hid (show ∀ o, 0 < cs.length → ∃ g, a = ⟨g, 0, none⟩ ∧ ∀ i, i < cs.length → (w.alloc o).cell? ⟨g, i * 2, none⟩ = some (.int .i64 (cs.getD i (0, 0)).1) ∧ (w.alloc o).cell? ⟨g, i * 2 + 1, none⟩ = some (.int .i64 (cs.getD i (0, 0)).2) from fun o h0 => by
      obtain ⟨b, e, hc⟩ := hxc h0
      injection e with e
      exact ⟨b, e, fun i hi => ⟨Lib.cell?_alloc_some o (hc i hi).1, Lib.cell?_alloc_some o (hc i hi).2⟩⟩)
    have Hb1 := Lib.hid (show ([] : Drm).length + cs.length ≤ 100000 by simp; omega)
    clear hxc
    go_enter Try.func18, Try.ntmps18
    go_wp2_with (at_builtin; go_must (refine wpList_append_Cs rfl (.tmp 5) (.tmp 6) rfl w.heap.size (w.heap.size + 1) _ [] rfl (OwnC.made0 w) (by simp) _ _ cs rfl (Hd.out _) Hb1.out ?_; intro v' w' ho' hg'))
    go_ret
    exact ⟨_, rfl, ho', (below_alloc w _).trans (grownBy_below hg' (OwnC.made0 w).blocks (Nat.le_refl _) (by simp))⟩

set_option maxHeartbeats 400000 in
theorem cloneD_any (v : Value) (n : Nat) (f : Nat → Value) (w : World) (h : Rd w v n f) (h1 : ∀ j, j < n → (f j).oneCell' = true) (hl : n ≤ 1000) :
    Calls Try.prog 28 #[v] w fun e w' => ∃ u, e = .returned u ∧ OwnF w' w.heap.size w'.heap.size 27 u n f ∧ Below w.heap.size w w' := by
  have hI := Lib.hid h
  have H1 := Lib.hid h1
  obtain ⟨p, cap, rfl, ⟨hx1, hx2⟩, hxc⟩ := h
  have keq := fun (n c : Nat) => Lib.run_eql_slice_nil (P := Try.prog) w 29 27 p n c 0 0 Try.underlying29
  cases p with
  | none =>
    have hx0 : n = 0 := by
      rcases Nat.eq_zero_or_pos n with h0 | h0
      · exact h0
      · obtain ⟨b, off, e, _⟩ := hxc h0; cases e
    subst hx0
    clear hxc hI
    go_enter Try.func28, Try.ntmps28
    go_wp2_with fail
    go_ret
    exact ⟨_, rfl, OwnF.nil _ _ _ _ _, Below.refl _ _⟩
  | some a =>
    have Hb1 := Lib.hid (show 0 + n ≤ maxLen by unfold maxLen; omega)
    have Hb2 := Lib.hid (show (0 + n) * 24 ≤ 140737488355328 by omega)
    clear hxc h1
    go_enter Try.func28, Try.ntmps28
    go_wp2_with (at_builtin; go_must (refine wpList_append_F rfl (.tmp 5) (.tmp 6) 29 rfl 27 (.slice none 0 0) 24 Try.underlying29 info_slC rfl w.heap.size (w.heap.size + 1) _ 0 (fun _ => undef) rfl (OwnF.made0 w _ _) (by simp) (by simp) _ _ _ rfl (hI.out.below (below_alloc w _)) H1.out Hb1.out Hb2.out ?_; intro v' w' ho' hg'))
    go_ret
    refine ⟨_, rfl, ?_, (below_alloc w _).trans (grownBy_below hg' (OwnF.made0 w 27 (fun _ => undef)).blocks (Nat.le_refl _) (by simp))⟩
    rw [Nat.zero_add] at ho'
    exact ho'.congr fun j _ => by simp

theorem inOrder_any (v : Value) (L : List Drm) (lo hi : Nat) (w : World) (h : OwnD w lo hi v L) (hok : okL L = true) :
    Calls Try.prog 21 #[v] w fun e w' => ∃ u, e = .returned u ∧ OwnD w' lo hi u (ordD L) ∧ Frm lo hi w w' := by
  have H1 := Lib.hid (sortH_any v L lo hi w h hok)
  have hl : (srtD L).length ≤ 1000 := by
    rw [srtD_eq, (Cmp.srt_perm L).length_eq]
    have := (okL_at hok).1
    omega
  have H2 := Lib.hid (fun w1 (h1 : OwnD w1 lo hi v (srtD L)) => compactFD_any v (srtD L) lo hi w1 h1 hl)
  obtain ⟨p, cap, rfl, _⟩ := h.shape
  clear hl
  go_enter Try.func21, Try.ntmps21
  go_wp2_with fail
  refine H1.out.mono ?_
  rintro e w1 ⟨rfl, h1, hf1⟩
  have H2' := Lib.hid (H2.out w1 h1)
  have Hf1 := Lib.hid hf1
  clear h1 hf1 h
  go_wp2_with fail
  refine H2'.out.mono ?_
  rintro e w2 ⟨u, rfl, h2, hf2⟩
  obtain ⟨p2, cap2, rfl, _⟩ := h2.shape
  have Hr := Lib.hid h2
  have Hf2 := Lib.hid (Hf1.out.trans hf2)
  clear h2 hf2
  go_wp2_with fail
  go_ret
  exact ⟨_, rfl, Hr.out, Hf2.out⟩

theorem isC_any (v : Value) (cs : Drm) (r d : Int) (b : Nat) (w : World) (hb : w.cell? ⟨b, 0, none⟩ = some v) (h : RdC w v cs) :
    Calls Try.prog 16 #[.int .i64 r, .int .i64 d, .pointer (some ⟨b, 0, none⟩)] w fun e w' => e = .returned (.bool (decide ((r, d) ∈ cs))) ∧ Gw w w' := by
  have H := Lib.hid (containsC_any v cs r d w h)
  obtain ⟨p, l, c, rfl⟩ := h.sh
  clear h
  go_enter Try.func16, Try.ntmps16
  go_wp2_with fail
  refine H.out.mono ?_
  rintro e w1 ⟨rfl, hq⟩
  go_wp2_with fail
  go_ret
  exact ⟨rfl, hq⟩

end Go.Proofs.Ytcbjcmhnlakgbaa

namespace Go.Proofs.Ytcbjcmhnlakgbaa
set_option linter.all false
set_option maxRecDepth 1000000
open Go.RowKit Go.Sort

theorem isDrB_no {n : Int} {cs : Drm} {k : Nat} (hk : k < cs.length) (h : celOk n cs k = false) : isDrB n cs = false := by
  unfold isDrB
  rw [Bool.and_eq_false_iff]
  right
  rw [List.all_eq_false]
  exact ⟨k, List.mem_range.2 hk, by rw [h]; decide⟩

set_option maxHeartbeats 1000000 in
theorem isDream_any (n : Int) (v : Value) (cs : Drm) (w : World) (h : RdC w v cs) (hok : okD cs = true) (hn0 : 0 ≤ n) (hn7 : n ≤ 7) :
    Calls Try.prog 15 #[.int .i64 n, v] w fun e w' => e = .returned (.bool (isDrB n cs)) ∧ Below w.heap.size w w' := by
  obtain ⟨p, cap, rfl, ⟨hx1, hx2⟩, hxc⟩ := h
  unfold maxLen at hx2
  have hlen := (okD_at hok).1
  have Hok := Lib.hid (okD_getD hok)
  have Hxc := Lib.hid hxc
  clear hxc hok
  have mixed := Try.sortH.mixed
  by_cases hn1 : n < 1
  · have hb : isDrB n cs = false := by unfold isDrB; rw [decide_eq_false (by omega)]; rfl
    have Hb := Lib.hid hb
    clear hb
    go_enter Try.func15, Try.ntmps15
    go_wp2_with fail
    go_ret
    exact ⟨ret_bool Hb.out.symm, Below.refl _ _⟩
  by_cases hn6 : 6 < n
  · have hb : isDrB n cs = false := by unfold isDrB; rw [decide_eq_false (by omega)]; rfl
    have Hb := Lib.hid hb
    clear hb
    go_enter Try.func15, Try.ntmps15
    go_wp2_with fail
    go_ret
    exact ⟨ret_bool Hb.out.symm, Below.refl _ _⟩
  have Hn := Lib.hid (show decide (1 ≤ n ∧ n ≤ 6) = true from decide_eq_true (by omega))
  go_enter Try.func15, Try.ntmps15
  go_wp2_with fail
  go_loopg [5, 6, 15] cs.length (fun g s5 s6 s15 wr => ∃ k : Nat, k ≤ cs.length ∧ g = cs.length - k ∧ s15 = .int .i64 (k : Int) ∧ Hid (Below w.heap.size w wr) ∧ Hid (∀ j, j < k → celOk n cs j = true))
  case atStart => exact ⟨0, Nat.zero_le _, rfl, rfl, Below.refl _ _, fun j hj => absurd hj (Nat.not_lt_zero _)⟩
  case round =>
    obtain ⟨k, hk, rfl, rfl, hq, hall⟩ := hrel
    by_cases hlt : k < cs.length
    · obtain ⟨b, rfl, hc⟩ := Hxc.out (by omega)
      obtain ⟨c1, c2⟩ := hc k hlt
      have c1 : wr.cell? _ = some _ := hq.out.cell (World.block_lt_of_cell? w _ c1) ▸ c1
      have c2 : wr.cell? _ = some _ := hq.out.cell (World.block_lt_of_cell? w _ c2) ▸ c2
      change wr.cell? _ = some (Value.int IntKind.i64 (cs.getD k ceD).1) at c1
      change wr.cell? _ = some (Value.int IntKind.i64 (cs.getD k ceD).2) at c2
      have hX := Hok.out k
      have hcel : celOk n cs k = (decide (0 ≤ (cs.getD k ceD).1 ∧ (cs.getD k ceD).1 ≤ n - 2 ∧ 0 ≤ (cs.getD k ceD).2 ∧ (cs.getD k ceD).2 ≤ n - 2 - (cs.getD k ceD).1) && (decide (k = 0) || decide (cmpC (cs.getD (k - 1) ceD) (cs.getD k ceD) < 0))) := rfl
      obtain ⟨x, hxe⟩ : ∃ x, x = cs.getD k ceD := ⟨_, rfl⟩
      rw [← hxe] at c1 c2 hX hcel
      have Hxe := Lib.hid hxe
      obtain ⟨X, Y⟩ := x
      dsimp only at c1 c2 hX hcel
      obtain ⟨x1, x2, x3, x4⟩ := hX
      have z0 := heap_alloc_top wr (.cells #[.int .i64 X, .int .i64 Y] 41)
      obtain ⟨W, hW⟩ : ∃ W, W = wr.alloc (.cells #[.int .i64 X, .int .i64 Y] 41) := ⟨_, rfl⟩
      rw [← hW] at z0
      have hbW : Below w.heap.size w W := by rw [hW]; exact hq.out.alloc (hq.out.size) _
      have gb : ∀ n os, Below W.heap.size W (grow (atd W n) os) := fun n os => ⟨rfl, rfl, rfl, by rw [size_grow]; exact Nat.le_add_right _ _, fun k hk => heap_grow_old _ _ (by exact hk)⟩
      have e1 : ∀ n os, (grow (atd W n) os).cell? ⟨wr.heap.size, 0, none⟩ = some (.int .i64 X) := fun n os => cell_below (gb n os) (cell_of_blk z0 (j := 0) rfl)
      have e2 : ∀ n os, (grow (atd W n) os).cell? ⟨wr.heap.size, 1, none⟩ = some (.int .i64 Y) := fun n os => cell_below (gb n os) (cell_of_blk z0 (j := 1) rfl)
      have Hgb := Lib.hid (fun n os => hbW.trans ((gb n os).mono hbW.size))
      have HW := Lib.hid hW
      have hkz : (k : Int) < (cs.length : Int) := by omega
      have hw1 : IntKind.i64.wrap (n - 2) = n - 2 := k64 (by omega) (by omega)
      have hw2 : IntKind.i64.wrap (n - 2 - X) = n - 2 - X := k64 (by omega) (by omega)
      have HX0 := Lib.hid (show (X < 0) = False from eq_false (by omega))
      have HY0 := Lib.hid (show (Y < 0) = False from eq_false (by omega))
      have H1 := Lib.hid (Lib.hid Hn.out)
      have H2 := Lib.hid (Lib.hid Hn.out)
      have H3 := Lib.hid (Lib.hid Hn.out)
      have H4 := Lib.hid (Lib.hid Hn.out)
      have H5 := Lib.hid (Lib.hid Hn.out)
      by_cases h1 : n - 2 < X
      · have H1 := Lib.hid h1
        have hno : Hid (isDrB n cs = false) := isDrB_no hlt (by rw [hcel, decide_eq_false (by omega)]; rfl)
        clear hcel hc z0 hW hbW gb hxe
        go_wp2_with fail
        rw [← HW.out]
        have hX0 := HX0.out
        have hY0 := HY0.out
        have h1' := H1.out
        have h2' := H2.out
        have h3' := H3.out
        have h4' := H4.out
        refine wp_region_quiet_z (by assumption) (by kernel_rfl) ?_
        repeat (go_big_quiet_step (fail))
        refine wpQuiet_nil ?_
        intro _ hw'
        obtain ⟨⟨nq, osq⟩, hw''⟩ := hw'
        subst hw''
        go_wp2_with fail
        go_ret
        exact ⟨ret_bool hno.out.symm, Hgb.out _ _⟩
      have H1 := Lib.hid (eq_false h1)
      by_cases h2 : n - 2 - X < Y
      · have H2 := Lib.hid h2
        have hno : Hid (isDrB n cs = false) := isDrB_no hlt (by rw [hcel, decide_eq_false (by omega)]; rfl)
        clear hcel hc z0 hW hbW gb hxe
        go_wp2_with fail
        rw [← HW.out]
        have hX0 := HX0.out
        have hY0 := HY0.out
        have h1' := H1.out
        have h2' := H2.out
        have h3' := H3.out
        have h4' := H4.out
        refine wp_region_quiet_z (by assumption) (by kernel_rfl) ?_
        repeat (go_big_quiet_step (fail))
        refine wpQuiet_nil ?_
        intro _ hw'
        obtain ⟨⟨nq, osq⟩, hw''⟩ := hw'
        subst hw''
        go_wp2_with fail
        go_ret
        exact ⟨ret_bool hno.out.symm, Hgb.out _ _⟩
      rw [decide_eq_true (by omega), Bool.true_and] at hcel
      have H2 := Lib.hid (eq_false h2)
      rcases Nat.eq_zero_or_pos k with h0 | h0
      · subst h0
        have hyes : Hid (∀ j, j < 0 + 1 → celOk n cs j = true) := fun j hj => by
          obtain rfl : j = 0 := by omega
          rw [hcel]; rfl
        clear hcel hc z0 hW hbW gb hxe
        go_wp2_with fail
        rw [← HW.out]
        have hX0 := HX0.out
        have hY0 := HY0.out
        have h1' := H1.out
        have h2' := H2.out
        have h3' := H3.out
        have h4' := H4.out
        refine wp_region_quiet_z (by assumption) (by kernel_rfl) ?_
        repeat (go_big_quiet_step (fail))
        refine wpQuiet_nil ?_
        intro _ hw'
        obtain ⟨⟨nq, osq⟩, hw''⟩ := hw'
        subst hw''
        go_wp2_with fail
        go_roundg (cs.length - (0 + 1))
        case measure => omega
        case rel => exact ⟨0 + 1, by omega, rfl, by go_num, Hgb.out _ _, hyes⟩
      · obtain ⟨j, hj⟩ : ∃ j, j + 1 = k := ⟨k - 1, by omega⟩
        obtain ⟨d1, d2⟩ := hc j (by omega)
        have d1 : W.cell? _ = some _ := hbW.cell (World.block_lt_of_cell? w _ d1) ▸ d1
        have d2 : W.cell? _ = some _ := hbW.cell (World.block_lt_of_cell? w _ d2) ▸ d2
        change W.cell? _ = some (Value.int IntKind.i64 (cs.getD j ceD).1) at d1
        change W.cell? _ = some (Value.int IntKind.i64 (cs.getD j ceD).2) at d2
        have hX2 := Hok.out j
        have hkj : k - 1 = j := by omega
        rw [hkj] at hcel
        obtain ⟨x', hxe'⟩ : ∃ x, x = cs.getD j ceD := ⟨_, rfl⟩
        rw [← hxe'] at d1 d2 hX2 hcel
        obtain ⟨X', Y'⟩ := x'
        dsimp only at d1 d2 hX2 hcel
        have f1 : ∀ n os, (grow (atd W n) os).cell? ⟨b, j * 2, none⟩ = some (.int .i64 X') := fun n os => cell_below (gb n os) d1
        have f2 : ∀ n os, (grow (atd W n) os).cell? ⟨b, j * 2 + 1, none⟩ = some (.int .i64 Y') := fun n os => cell_below (gb n os) d2
        have q1 : ∀ n os, Calls Try.prog 20 #[.agg #[.int .i64 X', .int .i64 Y'], .agg #[.int .i64 X, .int .i64 Y]] (grow (atd W n) os) fun e w' => e = .returned (.int .i64 (cmpC (X', Y') (X, Y))) ∧ ∃ q os', w' = grow (atd (grow (atd W n) os) q) os' := fun n os =>
          (byCells_any (X', Y') (X, Y) hX2 ⟨x1, x2, x3, x4⟩ _).mono fun e w' ⟨he, hw⟩ => ⟨he, below_grow hw.below⟩
        obtain ⟨r, hr⟩ : ∃ r, r = cmpC (X', Y') (X, Y) := ⟨_, rfl⟩
        have hk0 : decide (k = 0) = false := decide_eq_false (by omega)
        rw [← hr] at q1 hcel
        rw [hk0, Bool.false_or] at hcel
        have H3 := Lib.hid (show (0 : Int) < (k : Int) by omega)
        have hcast : (k : Int) - 1 = (j : Int) := by omega
        have hjz : (j : Int) < (cs.length : Int) := by omega
        have Hcel := Lib.hid hcel
        clear d1 d2 hxe' hr hk0 hkj hX2 hcel
        by_cases hr0 : 0 ≤ r
        · have H4 := Lib.hid hr0
          have hno : Hid (isDrB n cs = false) := isDrB_no hlt (by rw [Hcel.out, decide_eq_false (by omega)])
          clear hc z0 hW hbW gb hxe
          go_wp2_with fail
          rw [← HW.out]
          have hX0 := HX0.out
          have hY0 := HY0.out
          have h1' := H1.out
          have h2' := H2.out
          have h3' := H3.out
          have h4' := H4.out
          refine wp_region_quiet_z (by assumption) (by kernel_rfl) ?_
          repeat (go_big_quiet_step (first | (with_reducible refine grown_z (q1 _ _))))
          refine wpQuiet_nil ?_
          intro _ hw'
          obtain ⟨⟨nq, osq⟩, hw''⟩ := hw'
          subst hw''
          go_wp2_with fail
          go_ret
          exact ⟨ret_bool hno.out.symm, Hgb.out _ _⟩
        · have H4 := Lib.hid (eq_false hr0)
          have hyes : Hid (∀ j, j < k + 1 → celOk n cs j = true) := fun j hj => by
            by_cases e : j < k
            · exact hall.out j e
            · obtain rfl : j = k := by omega
              rw [Hcel.out, decide_eq_true (by omega)]
          clear hc z0 hW hbW gb hxe
          go_wp2_with fail
          rw [← HW.out]
          have hX0 := HX0.out
          have hY0 := HY0.out
          have h1' := H1.out
          have h2' := H2.out
          have h3' := H3.out
          have h4' := H4.out
          refine wp_region_quiet_z (by assumption) (by kernel_rfl) ?_
          repeat (go_big_quiet_step (first | (with_reducible refine grown_z (q1 _ _))))
          refine wpQuiet_nil ?_
          intro _ hw'
          obtain ⟨⟨nq, osq⟩, hw''⟩ := hw'
          subst hw''
          go_wp2_with fail
          go_roundg (cs.length - (k + 1))
          case measure => omega
          case rel => exact ⟨k + 1, by omega, rfl, by go_num, Hgb.out _ _, hyes⟩
    · obtain rfl : k = cs.length := by omega
      have hyes : isDrB n cs = true := by
        unfold isDrB
        rw [Hn.out, Bool.true_and, List.all_eq_true]
        exact fun j hj => hall.out j (List.mem_range.1 hj)
      have Hy := Lib.hid hyes
      clear hyes
      go_wp2_with fail
      go_ret
      exact ⟨ret_bool Hy.out.symm, hq.out⟩

end Go.Proofs.Ytcbjcmhnlakgbaa

namespace Go.Proofs.Ytcbjcmhnlakgbaa
set_option linter.all false
open Go.RowKit

/-- a slice that can be read: n elements of so many cells each -/
def RdS (w : World) (size : Nat) (v : Value) (n : Nat) (F : Nat → Nat → Value) : Prop :=
  ∃ p cap, v = .slice p n cap ∧ (n ≤ cap ∧ cap ≤ maxLen) ∧ (0 < n → ∃ b, p = some ⟨b, 0, none⟩ ∧ ∀ i, i < n → ∀ j, j < size → w.cell? ⟨b, i * size + j, none⟩ = some (F i j))
theorem RdS.of_cells {w w' : World} {size : Nat} {v : Value} {n : Nat} {F : Nat → Nat → Value} (h : RdS w size v n F) (hc : ∀ a x, w.cell? a = some x → w'.cell? a = some x) : RdS w' size v n F := by
  obtain ⟨p, cap, rfl, hm, h⟩ := h
  refine ⟨p, cap, rfl, hm, fun h0 => ?_⟩
  obtain ⟨b, hp, hx⟩ := h h0
  exact ⟨b, hp, fun i hi j hj => hc _ _ (hx i hi j hj)⟩
theorem RdS.below {w w' : World} {size : Nat} {v : Value} {n : Nat} {F : Nat → Nat → Value} (h : RdS w size v n F) (hb : Below w.heap.size w w') : RdS w' size v n F :=
  h.of_cells fun a x hx => by rw [hb.cell (World.block_lt_of_cell? w a hx)]; exact hx
theorem RdS.qt {w w' : World} {size : Nat} {v : Value} {n : Nat} {F : Nat → Nat → Value} (h : RdS w size v n F) (q : Qt w w') : RdS w' size v n F := h.of_cells fun _ _ hx => q.cell hx
theorem RdS.congr {w : World} {size : Nat} {v : Value} {n : Nat} {F G : Nat → Nat → Value} (h : RdS w size v n F) (e : ∀ i, i < n → ∀ j, j < size → F i j = G i j) : RdS w size v n G := by
  obtain ⟨p, cap, rfl, hm, h⟩ := h
  refine ⟨p, cap, rfl, hm, fun h0 => ?_⟩
  obtain ⟨b, hp, hx⟩ := h h0
  exact ⟨b, hp, fun i hi j hj => by rw [← e i hi j hj]; exact hx i hi j hj⟩

/-- a slice of structs that a call made -/
def OwnS (w : World) (lo hi : Nat) (T : TypeId) (size : Nat) (v : Value) (n : Nat) (F : Nat → Nat → Value) : Prop :=
  ∃ xs, Own w lo hi T size v n xs ∧ ∀ i, i < n → ∀ j, j < size → xs[i * size + j]? = some (F i j)

namespace OwnS
variable {w w' : World} {lo hi : Nat} {T : TypeId} {size : Nat} {v : Value} {n : Nat} {F : Nat → Nat → Value}
theorem rd (h : OwnS w lo hi T size v n F) : RdS w size v n F := by
  obtain ⟨xs, h, hf⟩ := h
  rcases h.1.2 with ⟨rfl, e⟩ | ⟨g, cap, cur, rfl, _, _, hm, hm2, _⟩
  · exact ⟨none, 0, by rw [e], ⟨by omega, Nat.zero_le _⟩, fun h0 => absurd h0 (by omega)⟩
  · refine ⟨_, cap, rfl, ⟨hm, hm2⟩, fun _ => ⟨g, rfl, fun i hi j hj => ?_⟩⟩
    have hadd : ∀ j, (⟨g, 0, none⟩ : Addr).add j = ⟨g, 0 + j, none⟩ := fun j => by unfold Addr.add; split <;> simp_all
    have c1 := h.1.cells (g := g) rfl _ _ (hf i hi j hj)
    rw [hadd, Nat.zero_add] at c1
    exact c1
theorem shape (h : OwnS w lo hi T size v n F) : ∃ p cap, v = .slice p n cap ∧ n ≤ cap ∧ cap ≤ maxLen ∧ (0 < n → ∃ g, p = some ⟨g, 0, none⟩ ∧ lo ≤ g ∧ g < hi ∧ g < w.heap.size) := by
  obtain ⟨xs, h, hf⟩ := h
  have hb := fun k hk => h.block (k := k) hk
  rcases h.1.2 with ⟨rfl, e⟩ | ⟨g, cap, cur, rfl, _, _, hm, hm2, _⟩
  · exact ⟨none, 0, by rw [e], by omega, Nat.zero_le _, fun h0 => absurd h0 (by omega)⟩
  · exact ⟨_, cap, rfl, hm, hm2, fun _ => ⟨g, rfl, hb g rfl⟩⟩
theorem at_ {p : Option Addr} {cap : Nat} (h : OwnS w lo hi T size (.slice p n cap) n F) (h0 : 0 < n) : ∃ g, p = some ⟨g, 0, none⟩ ∧ lo ≤ g ∧ g < hi ∧ g < w.heap.size := by
  obtain ⟨q, c, e, _, _, h⟩ := h.shape
  injection e with e1 e2 e3
  subst e1
  exact h h0
theorem cell {g n' cap : Nat} (h : OwnS w lo hi T size (.slice (some ⟨g, 0, none⟩) n' cap) n F) {i j : Nat} (hi : i < n) (hj : j < size) : w.cell? ⟨g, i * size + j, none⟩ = some (F i j) := by
  obtain ⟨p, c, e, _, h⟩ := h.rd
  injection e with e1 _ _
  obtain ⟨b, e2, h⟩ := h (by omega)
  rw [← e1] at e2
  obtain rfl : g = b := by injection e2 with e2; injection e2
  exact h i hi j hj
theorem frozen {g n' cap : Nat} (h : OwnS w lo hi T size (.slice (some ⟨g, 0, none⟩) n' cap) n F) (j : Nat) : w.frozen? ⟨g, j, none⟩ = false := by
  obtain ⟨xs, h, _⟩ := h
  rcases h.1.2 with ⟨h', _⟩ | ⟨g', cap', cur, h', _, hg, _⟩
  · simp at h'
  · simp only [Value.slice.injEq, Option.some.injEq, Addr.mk.injEq, and_true, true_and] at h'
    obtain ⟨rfl, _, _⟩ := h'
    exact free_of_blk hg j
theorem congr {G : Nat → Nat → Value} (h : OwnS w lo hi T size v n F) (e : ∀ i, i < n → ∀ j, j < size → F i j = G i j) : OwnS w lo hi T size v n G := by
  obtain ⟨xs, h, hf⟩ := h
  exact ⟨xs, h, fun i hi j hj => by rw [← e i hi j hj]; exact hf i hi j hj⟩
theorem keep (h : OwnS w lo hi T size v n F) (hb : ∀ k, lo ≤ k → k < hi → k < w.heap.size → w'.heap[k]? = w.heap[k]?) : OwnS w' lo hi T size v n F := by
  obtain ⟨xs, h, hf⟩ := h
  exact ⟨xs, h.keep hb, hf⟩
theorem below (h : OwnS w lo hi T size v n F) (hb : Below w.heap.size w w') : OwnS w' lo hi T size v n F := h.keep fun k _ _ h3 => hb.block k h3
theorem frm {lo' hi' : Nat} (h : OwnS w lo hi T size v n F) (hb : Frm lo' hi' w w') (ho : hi ≤ lo' ∨ hi' ≤ lo) : OwnS w' lo hi T size v n F := h.keep fun k h1 h2 h3 => hb.block k h3 (by omega)
theorem mono {lo' hi' : Nat} (h : OwnS w lo hi T size v n F) (h1 : lo' ≤ lo) (h2 : hi ≤ hi') : OwnS w lo' hi' T size v n F := by
  obtain ⟨xs, h, hf⟩ := h
  exact ⟨xs, h.mono h1 h2, hf⟩
theorem besides {lo' hi' : Nat} (h : OwnS w lo hi T size v n F) (hf : Frm lo' hi' w w') (hne : ∀ b, v.ownBlock = some b → b < lo' ∨ hi' ≤ b) : OwnS w' lo hi T size v n F := by
  obtain ⟨xs, h, hx⟩ := h
  exact ⟨xs, ⟨ownsRow_of_block h.1 fun b hb => hf.block b (Own.block h hb).2.2 (hne b hb), h.2⟩, hx⟩
theorem blocks (h : OwnS w lo hi T size v n F) : ∀ k, v.ownBlock = some k → lo ≤ k ∧ k < hi := by
  obtain ⟨xs, h, _⟩ := h
  exact fun k hk => ⟨(h.block hk).1, (h.block hk).2.1⟩
theorem kind (h : OwnS w lo hi T size v n F) : ∀ g, v.ownBlock = some g → ∃ c fz, w.heap[g]? = some (.cells c T fz) := by
  obtain ⟨xs, h, _⟩ := h
  exact Lib.ownsRow_kind h.1
theorem setCell (h : OwnS w lo hi T size v n F) {a : Addr} (ho : a.block < lo ∨ hi ≤ a.block) (u : Value) : OwnS (w.setCell a u) lo hi T size v n F := by
  obtain ⟨xs, h, hf⟩ := h
  exact ⟨xs, h.setCell ho u, hf⟩
/-- a field of an element is written -/
theorem set {g n' cap : Nat} (h : OwnS w lo hi T size (.slice (some ⟨g, 0, none⟩) n' cap) n F) {i0 j0 : Nat} (hi0 : i0 < n) (hj0 : j0 < size) (u : Value) :
    OwnS (w.setCell ⟨g, i0 * size + j0, none⟩ u) lo hi T size (.slice (some ⟨g, 0, none⟩) n' cap) n (fun i j => if i = i0 ∧ j = j0 then u else F i j) := by
  obtain ⟨xs, h, hf⟩ := h
  have hle : ∀ i j, i < n → j < size → i * size + j < n * size := fun i j hi hj => by
    have : (i + 1) * size ≤ n * size := Nat.mul_le_mul_right _ hi
    rw [Nat.add_mul] at this; omega
  obtain ⟨q, c, e, _⟩ := (OwnS.shape ⟨xs, h, hf⟩ : _)
  have en : n' = n := by injection e
  subst en
  refine ⟨xs.set (i0 * size + j0) u, ⟨(World.ownsRow.stored h.1 _ u).1, h.2⟩, fun i hi j hj => ?_⟩
  rw [List.getElem?_set]
  by_cases e : i = i0 ∧ j = j0
  · obtain ⟨rfl, rfl⟩ := e
    have hlt : i * size + j < xs.length := by rw [h.len]; exact hle _ _ hi0 hj0
    simp [hlt]
  · show _ = some (if i = i0 ∧ j = j0 then u else F i j)
    rw [if_neg e, if_neg fun c => e ?_]
    · exact hf i hi j hj
    · have h1 := Nat.mul_add_mod' i size j
      have h2 := Nat.mul_add_mod' i0 size j0
      rw [Nat.mod_eq_of_lt hj] at h1
      rw [Nat.mod_eq_of_lt hj0] at h2
      have : j = j0 := by rw [← h1, ← h2, c]
      subst this
      exact ⟨Nat.eq_of_mul_eq_mul_right (by omega) (by omega : i * size = i0 * size), rfl⟩
theorem nil (w : World) (lo hi : Nat) (T : TypeId) (size : Nat) (F : Nat → Nat → Value) : OwnS w lo hi T size (.slice none 0 0) 0 F :=
  ⟨[], ⟨World.ownsRow_nil _ _ _ _, fun k hk => by simp [Value.ownBlock] at hk⟩, fun i hi => absurd hi (Nat.not_lt_zero _)⟩
theorem made0 (w : World) (T : TypeId) (size : Nat) (F : Nat → Nat → Value) : OwnS (w.alloc (.cells #[] T)) w.heap.size (w.heap.size + 1) T size (.slice (some ⟨w.heap.size, 0, none⟩) 0 0) 0 F :=
  ⟨[], ⟨World.ownsRow_made w #[] 0 (Nat.le_refl _) (Nat.zero_le _) (by simp), fun k hk => by simp [Value.ownBlock] at hk; omega⟩, fun i hi => absurd hi (Nat.not_lt_zero _)⟩
/-- behind an append on u: what is owned in other blocks stays -/
theorem grown {u : Value} (h : OwnS w lo hi T size v n F) (hg : w.grownBy w' u.ownBlock) (hne : ∀ k, v.ownBlock = some k → u.ownBlock ≠ some k) : OwnS w' lo hi T size v n F := by
  obtain ⟨xs, h, hf⟩ := h
  exact ⟨xs, ⟨ownsRow_of_block h.1 fun k hk => hg.block k (h.block hk).2.2 fun e => hne k hk e.symm, h.2⟩, hf⟩
end OwnS

theorem ne_of_kinds {w : World} {T U : TypeId} {g : Nat} (h1 : ∃ c fz, w.heap[g]? = some (.cells c T fz)) (h2 : ∃ c fz, w.heap[g]? = some (.cells c U fz)) (hT : T ≠ U) : False := by
  obtain ⟨c, fz, h1⟩ := h1
  obtain ⟨c', fz', h2⟩ := h2
  rw [h1] at h2
  injection h2 with h2
  injection h2 with _ h2
  exact hT h2
theorem OwnI.kind {T : TypeId} {w : World} {lo hi : Nat} {v : Value} {xs : List Int} (h : OwnI T w lo hi v xs) : ∀ g, v.ownBlock = some g → ∃ c fz, w.heap[g]? = some (.cells c T fz) := Lib.ownsRow_kind h.1

/-- append of one struct onto structs of the call's own -/
theorem run_append_S {P : Program} {w : World} {t ty e : TypeId} {i : TypeInfo} {z : Value} {size bytes : Nat} (ht : P.underlying t = some (.slice e)) (hi : P.info? e = some i) (hz : i.zero = some z)
    (hsize : i.size = size) (hby : i.bytes = bytes) (hzs : z.cells.size = size) (h0 : 0 < size)
    (lo hi' : Nat) (v : Value) (n : Nat) (F : Nat → Nat → Value) (hown : OwnS w lo hi' e size v n F) (hlo : lo ≤ w.heap.size)
    (b c : Nat) (G : Nat → Value) (hc : ∀ j, j < size → w.cell? ⟨b, j, none⟩ = some (G j)) (h1 : ∀ j, j < size → (G j).oneCell' = true) (h63 : n + 1 ≤ maxLen) (hbytes : (n + 1) * bytes ≤ 140737488355328) :
    ∃ v' w', (Builtin.append_ #[t, t] ty #[v, .slice (some ⟨b, 0, none⟩) 1 c]).run P w = .ok v' w' ∧ OwnS w' lo w'.heap.size e size v' (n + 1) (fun k => if k < n then F k else G) ∧ w.grownBy w' v.ownBlock := by
  obtain ⟨xs, ho, hf⟩ := hown
  have hG : ∀ (j : Nat) (u : Value), ((List.range size).map G)[j]? = some u → j < size ∧ u = G j := fun j u hj => by
    have hlt : j < size := by
      rcases Nat.lt_or_ge j size with h | h
      · exact h
      · rw [List.getElem?_eq_none (by simpa using h)] at hj; cases hj
    simp [hlt] at hj
    exact ⟨hlt, hj.symm⟩
  obtain ⟨v', w', hr, h2, h3, _⟩ := run_append_own (P := P) w lo t ty e i z size bytes ht hi hz hsize hby hzs h0 v n xs ho.1 ⟨b, 0, none⟩ 1 c ((List.range size).map G) (by simp)
    (fun j u hj => by
      obtain ⟨hlt, rfl⟩ := hG j u hj
      have hadd : (⟨b, 0, none⟩ : Addr).add j = ⟨b, 0 + j, none⟩ := by unfold Addr.add; split <;> simp_all
      rw [hadd, Nat.zero_add]
      exact hc j hlt)
    (fun u hu => by
      simp only [List.mem_map, List.mem_range] at hu
      obtain ⟨j, hj, rfl⟩ := hu
      exact h1 j hj) h63 hbytes hlo
  refine ⟨v', w', hr, ⟨_, Own.of_row h2, fun i hi j hj => ?_⟩, h3⟩
  have hl : xs.length = n * size := ho.len
  by_cases h : i < n
  · have hle : i * size + j < n * size := by
      have : (i + 1) * size ≤ n * size := Nat.mul_le_mul_right _ h
      rw [Nat.add_mul] at this; omega
    simp only [h, if_true]
    rw [List.getElem?_append_left (by omega), hf i h j hj]
  · have : i = n := by omega
    subst this
    simp only [h, if_false]
    rw [List.getElem?_append_right (by omega), hl, Nat.add_sub_cancel_left]
    simp [hj]
theorem info_partsS {P : Program} {t : TypeId} {z : Value} {size bytes : Nat} (h : (P.info? t).map (fun i => (i.zero, i.size, i.bytes)) = some (some z, size, bytes)) : ∃ i, P.info? t = some i ∧ i.zero = some z ∧ i.size = size ∧ i.bytes = bytes := by
  cases hi : P.info? t with
  | none => rw [hi] at h; cases h
  | some i =>
    rw [hi] at h
    simp only [Option.map_some, Option.some.injEq, Prod.mk.injEq] at h
    exact ⟨i, rfl, h.1, h.2.1, h.2.2⟩
/-- .. as a law of the walk -/
theorem wpList_append_S {P : Program} {w : World} {ops : Array Oper} {rest : List Oper} {o : Oper} {a : Act} {Q : Exit → Act → World → Prop} (hgd : o.guard = none) (s x : Operand) (t : TypeId)
    (ho : o.op = .call { callee := .builtin .append, args := #[s, x], argTypes := #[t, t] })
    (e : TypeId) (z : Value) (size bytes : Nat) (ht : P.underlying t = some (.slice e)) (hinfo : (P.info? e).map (fun i => (i.zero, i.size, i.bytes)) = some (some z, size, bytes)) (hzs : z.cells.size = size) (h0 : 0 < size)
    (lo hi' : Nat) (v : Value) (n : Nat) (F : Nat → Nat → Value) (hs : a.eval s = v) (hown : OwnS w lo hi' e size v n F) (hlo : lo ≤ w.heap.size)
    (b c : Nat) (G : Nat → Value) (hxu : a.eval x = .slice (some ⟨b, 0, none⟩) 1 c) (hc : ∀ j, j < size → w.cell? ⟨b, j, none⟩ = some (G j)) (h1 : ∀ j, j < size → (G j).oneCell' = true) (h63 : n + 1 ≤ maxLen) (hbytes : (n + 1) * bytes ≤ 140737488355328)
    (h : ∀ v' w', OwnS w' lo w'.heap.size e size v' (n + 1) (fun k => if k < n then F k else G) → w.grownBy w' v.ownBlock → wpList P ops Q rest (a.put o.dst v') w') :
    wpList P ops Q (o :: rest) a w := by
  refine wpList_plain hgd fun K hK' => ?_
  obtain ⟨i, hi, hz, hsz, hby⟩ := info_partsS hinfo
  obtain ⟨v', w', hr, h2, h3⟩ := run_append_S (P := P) (ty := o.type) ht hi hz hsz hby hzs h0 lo hi' v n F hown hlo b c G hc h1 h63 hbytes
  unfold Oper.wp
  simp [execOp, ho, resolve, invoke, builtin, hs, hxu, hr, Result.andThen]
  exact hK' _ _ (h v' w' h2 h3)
/-- .. as a step of a region that draws -/
theorem step_append_S {P : Program} {w : World} {ops : Array Oper} {o : Oper} {a : Act} {K : Act → World → Prop} {Q : Exit → Act → World → Prop} {E : Prop} (hgd : o.guard = none) (s x : Operand) (t : TypeId)
    (ho : o.op = .call { callee := .builtin .append, args := #[s, x], argTypes := #[t, t] })
    (e : TypeId) (z : Value) (size bytes : Nat) (ht : P.underlying t = some (.slice e)) (hinfo : (P.info? e).map (fun i => (i.zero, i.size, i.bytes)) = some (some z, size, bytes)) (hzs : z.cells.size = size) (h0 : 0 < size)
    (lo hi' : Nat) (v : Value) (n : Nat) (F : Nat → Nat → Value) (hs : a.eval s = v) (hown : OwnS w lo hi' e size v n F) (hlo : lo ≤ w.heap.size)
    (b c : Nat) (G : Nat → Value) (hxu : a.eval x = .slice (some ⟨b, 0, none⟩) 1 c) (hc : ∀ j, j < size → w.cell? ⟨b, j, none⟩ = some (G j)) (h1 : ∀ j, j < size → (G j).oneCell' = true) (h63 : n + 1 ≤ maxLen) (hbytes : (n + 1) * bytes ≤ 140737488355328)
    (h : ∀ v' w', OwnS w' lo w'.heap.size e size v' (n + 1) (fun k => if k < n then F k else G) → w.grownBy w' v.ownBlock → K (a.put o.dst v') w') :
    if Region.wanted o (yielded ops a.tmps) = true then Oper.wp P o a w K Q else E := by
  have hw : Region.wanted o (yielded ops a.tmps) = true := by simp [Region.wanted, hgd]
  rw [if_pos hw]
  obtain ⟨i, hi, hz, hsz, hby⟩ := info_partsS hinfo
  obtain ⟨v', w', hr, h2, h3⟩ := run_append_S (P := P) (ty := o.type) ht hi hz hsz hby hzs h0 lo hi' v n F hown hlo b c G hc h1 h63 hbytes
  unfold Oper.wp
  simp [execOp, ho, resolve, invoke, builtin, hs, hxu, hr, Result.andThen]
  exact h v' w' h2 h3

end Go.Proofs.Ytcbjcmhnlakgbaa

namespace Go.Proofs.Ytcbjcmhnlakgbaa
set_option linter.all false
set_option maxRecDepth 100000
open Go.RowKit Go.Sort

theorem down_le (cs : Drm) (c : Int) : ∀ r : Nat, -1 ≤ down cs c r ∧ down cs c r < (r : Int)
  | 0 => by unfold down; omega
  | r + 1 => by
    have := down_le cs c r
    unfold down
    split <;> omega
theorem isDrB_at {n : Int} {cs : Drm} (h : isDrB n cs = true) : (1 ≤ n ∧ n ≤ 6) ∧ ∀ k, k < cs.length → 0 ≤ (cs.getD k ceD).1 ∧ (cs.getD k ceD).1 ≤ n - 2 ∧ 0 ≤ (cs.getD k ceD).2 ∧ (cs.getD k ceD).2 ≤ n - 2 - (cs.getD k ceD).1 := by
  unfold isDrB at h
  rw [Bool.and_eq_true, decide_eq_true_eq, List.all_eq_true] at h
  refine ⟨h.1, fun k hk => ?_⟩
  have := h.2 k (List.mem_range.2 hk)
  unfold celOk at this
  rw [Bool.and_eq_true, decide_eq_true_eq] at this
  exact this.1
theorem okD_srt {d : Drm} (h : okD d = true) : okD (srtC d) = true := by
  have hp := (Cmp.srt_perm (cmp := cmpC) d)
  rw [← srtC_eq] at hp
  obtain ⟨h1, h2⟩ := okD_at h
  unfold okD
  rw [Bool.and_eq_true, decide_eq_true_eq, List.all_eq_true]
  exact ⟨by rw [hp.length_eq]; exact h1, fun c hc => decide_eq_true (h2 c (hp.mem_iff.1 hc))⟩
theorem okD_set {d : Drm} (h : okD d = true) {k : Nat} {c : Cel} (hc : CelB c) : okD (d.set k c) = true := by
  obtain ⟨h1, h2⟩ := okD_at h
  unfold okD
  rw [Bool.and_eq_true, decide_eq_true_eq, List.all_eq_true]
  refine ⟨by rw [List.length_set]; exact h1, fun x hx => decide_eq_true ?_⟩
  rcases List.mem_or_eq_of_mem_set hx with h | rfl
  · exact h2 x h
  · exact hc
theorem moveB_one (cs : Drm) (k : Nat) : (moveB cs k).length ≤ 1 := by
  unfold moveB
  dsimp only
  split
  · exact Nat.zero_le _
  · split
    · exact Nat.zero_le _
    · exact Nat.le_refl _
theorem moveB_ok {n : Int} {cs : Drm} (h : isDrB n cs = true) (hok : okD cs = true) {k : Nat} (hk : k < cs.length) : ∀ d ∈ moveB cs k, okD d = true := by
  obtain ⟨⟨n1, n6⟩, hc⟩ := isDrB_at h
  obtain ⟨h1, h2, h3, h4⟩ := hc k hk
  intro d hd
  unfold moveB at hd
  dsimp only at hd
  split at hd
  · cases hd
  · split at hd
    · cases hd
    · rename_i e
      rw [List.mem_singleton] at hd
      subst hd
      have := down_le cs (cs.getD k ceD).2 (cs.getD k ceD).1.toNat
      exact okD_srt (okD_set hok ⟨by dsimp only; omega, by dsimp only; omega, by dsimp only; omega, by dsimp only; omega⟩)
theorem movesTo_succ (cs : Drm) (k : Nat) : movesTo cs (k + 1) = movesTo cs k ++ moveB cs k := flatMap_snoc _ _
theorem movesTo_len (cs : Drm) (k : Nat) : (movesTo cs k).length ≤ k := by
  have := flatMap_len (moveB cs) 1 (moveB_one cs) k
  unfold movesTo
  omega
theorem movesTo_ok {n : Int} {cs : Drm} (h : isDrB n cs = true) (hok : okD cs = true) : okL (movesTo cs cs.length) = true := by
  unfold okL
  rw [Bool.and_eq_true, decide_eq_true_eq, List.all_eq_true]
  have := movesTo_len cs cs.length
  have := (okD_at hok).1
  refine ⟨by omega, fun d hd => ?_⟩
  unfold movesTo at hd
  rw [List.mem_flatMap] at hd
  obtain ⟨k, hk, hd⟩ := hd
  exact moveB_ok h hok (List.mem_range.1 hk) d hd
theorem moveB_a {cs : Drm} {k : Nat} {X Y : Int} (e : (X, Y) = cs.getD k ceD) (h : (X, Y + 1) ∈ cs) : moveB cs k = [] := by
  unfold moveB
  rw [← e]
  exact if_pos h
theorem moveB_b {cs : Drm} {k : Nat} {X Y : Int} (e : (X, Y) = cs.getD k ceD) (h : down cs Y X.toNat < 0 ∨ (down cs Y X.toNat, Y) ∈ cs ∨ (down cs Y X.toNat, Y + 1) ∈ cs) : moveB cs k = [] := by
  unfold moveB
  rw [← e]
  dsimp only
  by_cases h0 : (X, Y + 1) ∈ cs
  · exact if_pos h0
  · rw [if_neg h0]
    exact if_pos h
theorem moveB_c {cs : Drm} {k : Nat} {X Y : Int} (e : (X, Y) = cs.getD k ceD) (h0 : (X, Y + 1) ∉ cs) (h : ¬ (down cs Y X.toNat < 0 ∨ (down cs Y X.toNat, Y) ∈ cs ∨ (down cs Y X.toNat, Y + 1) ∈ cs)) : moveB cs k = [srtC (cs.set k (down cs Y X.toNat, Y + 1))] := by
  unfold moveB
  rw [← e]
  dsimp only
  rw [if_neg h0]
  exact if_neg h

/-! ### a cell written -/
theorem OwnC.toS {w : World} {lo hi : Nat} {v : Value} {cs : Drm} (h : OwnC w lo hi v cs) : OwnS w lo hi 41 2 v cs.length (fun i j => if j = 0 then .int .i64 (cs.getD i ceD).1 else .int .i64 (cs.getD i ceD).2) :=
  ⟨_, h, fun i hi j hj => by
    obtain ⟨q1, q2⟩ := cellVs_get cs i hi
    have : j = 0 ∨ j = 1 := by omega
    rcases this with rfl | rfl
    · exact q1
    · exact q2⟩
theorem OwnS.toC {w : World} {lo hi : Nat} {v : Value} {cs : Drm} (h : OwnS w lo hi 41 2 v cs.length (fun i j => if j = 0 then .int .i64 (cs.getD i ceD).1 else .int .i64 (cs.getD i ceD).2)) : OwnC w lo hi v cs := by
  obtain ⟨xs, h1, h2⟩ := h
  have e : xs = cellVs cs := by
    apply List.ext_getElem?
    intro t
    have hl := h1.len
    by_cases ht : t < cs.length * 2
    · have ht2 : t / 2 < cs.length := by omega
      obtain ⟨q1, q2⟩ := cellVs_get cs (t / 2) ht2
      have hm : t % 2 = 0 ∨ t % 2 = 1 := by omega
      have h3 := h2 (t / 2) ht2 (t % 2) (by omega)
      rw [show t / 2 * 2 + t % 2 = t by omega] at h3
      rw [h3]
      rcases hm with hm | hm
      · rw [hm]
        rw [show t / 2 * 2 = t by omega] at q1
        rw [q1]
        rfl
      · rw [hm]
        rw [show t / 2 * 2 + 1 = t by omega] at q2
        rw [q2]
        rfl
    · rw [List.getElem?_eq_none (by omega), List.getElem?_eq_none (by rw [cellVs_length]; omega)]
  subst e
  exact h1
theorem OwnC.set {w : World} {lo hi g cap n : Nat} {cs : Drm} (h : OwnC w lo hi (.slice (some ⟨g, 0, none⟩) n cap) cs) {k : Nat} (hk : k < cs.length) (a b : Int) :
    OwnC ((w.setCell ⟨g, k * 2, none⟩ (.int .i64 a)).setCell ⟨g, k * 2 + 1, none⟩ (.int .i64 b)) lo hi (.slice (some ⟨g, 0, none⟩) n cap) (cs.set k (a, b)) := by
  have hn : (cs.set k (a, b)).length = cs.length := List.length_set
  have h1 := (h.toS.set (i0 := k) (j0 := 0) hk (by omega) (.int .i64 a)).set (i0 := k) (j0 := 1) hk (by omega) (.int .i64 b)
  refine OwnS.toC ?_
  rw [hn]
  refine OwnS.congr h1 fun i hi j hj => ?_
  have hj2 : j = 0 ∨ j = 1 := by omega
  by_cases e : i = k
  · subst e
    have e2 : (cs.set i (a, b)).getD i ceD = (a, b) := by simp [List.getD_eq_getElem?_getD, hk]
    rw [e2]
    rcases hj2 with rfl | rfl <;> simp
  · have e2 : (cs.set k (a, b)).getD i ceD = cs.getD i ceD := by simp [List.getD_eq_getElem?_getD, List.getElem?_set, Ne.symm e]
    rw [e2]
    rcases hj2 with rfl | rfl <;> simp [e]
theorem OwnC.free {w : World} {lo hi g cap n : Nat} {cs : Drm} (h : OwnC w lo hi (.slice (some ⟨g, 0, none⟩) n cap) cs) (hl : 0 < cs.length) (j : Nat) : w.frozen? ⟨g, j, none⟩ = false := by
  obtain ⟨p, c, e, _⟩ := h.shape
  injection e with _ e2 _
  subst e2
  exact h.toS.frozen j

end Go.Proofs.Ytcbjcmhnlakgbaa
