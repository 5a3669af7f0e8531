/-
  byDreams, and the program's sorting of dreams.
  Equality, search and copies of cells; the law's cells and hasCells.
  slices.CompactFunc and what cuts a slice of dreams short.
-/
import Derived.Test.YtcbjcmhnlakgbaaJ4
import Derived.Lib.SliceRun
namespace Go.Proofs.Ytcbjcmhnlakgbaa
set_option linter.all false
set_option maxRecDepth 100000
open Go.RowKit Go.Sort Go.Shelf

theorem dropD_cons {α : Type} {d : α} {l : List α} {k : Nat} (h : k < l.length) : l.drop k = l.getD k d :: l.drop (k + 1) := by
  rw [List.drop_eq_getElem_cons h]
  simp [List.getD_eq_getElem?_getD, h]

set_option maxHeartbeats 2000000 in
theorem compareFC_any (u v : Value) (xs ys : Drm) (w : World) (hu : RdC w u xs) (hv : RdC w v ys) (hx : okD xs = true) (hy : okD ys = true) :
    Calls Try.prog 50 #[u, v, .func (.func 20) #[] #[]] w fun e w' => e = .returned (.int .i64 (cmpD xs ys)) ∧ Gw w w' := by
  obtain ⟨p, cap, rfl, ⟨hx1, hx2⟩, hxc⟩ := hu
  obtain ⟨q, cap', rfl, ⟨hy1, hy2⟩, hyc⟩ := hv
  unfold maxLen at hx2 hy2
  have hxl := (okD_at hx).1
  have hyl := (okD_at hy).1
  have Hx := Lib.hid (okD_getD hx)
  have Hy := Lib.hid (okD_getD hy)
  have Hxc := Lib.hid hxc
  have Hyc := Lib.hid hyc
  clear hxc hyc hx hy
  go_enter Try.func50, Try.ntmps50
  go_wp2_with fail
  go_loopg [7, 8, 9, 10, 13] xs.length (fun g s7 s8 s9 s10 s13 wr => ∃ k : Nat, k ≤ xs.length ∧ k ≤ ys.length ∧ g = xs.length - k ∧ s13 = .int .i64 (k : Int) ∧ Hid (Gw w wr) ∧ Hid (cmpD xs ys = cmpD (xs.drop k) (ys.drop k)))
  case atStart => exact ⟨0, Nat.zero_le _, Nat.zero_le _, rfl, rfl, Gw.refl _, rfl⟩
  case round =>
    obtain ⟨k, hk, hky, rfl, rfl, hq, he⟩ := hrel
    by_cases hlt : k < xs.length
    · obtain ⟨b, rfl, hc⟩ := Hxc.out (by omega)
      obtain ⟨c1, c2⟩ := hc k hlt
      have c1 : wr.cell? _ = some _ := hq.out.below.cell (World.block_lt_of_cell? w _ c1) ▸ c1
      have c2 : wr.cell? _ = some _ := hq.out.below.cell (World.block_lt_of_cell? w _ c2) ▸ c2
      have Hd := Lib.hid (dropD_cons (d := ceD) hlt)
      have hX := Hx.out k
      change wr.cell? _ = some (Value.int IntKind.i64 (xs.getD k ceD).1) at c1
      change wr.cell? _ = some (Value.int IntKind.i64 (xs.getD k ceD).2) at c2
      obtain ⟨x, hxe⟩ : ∃ x, x = xs.getD k ceD := ⟨_, rfl⟩
      rw [← hxe] at c1 c2 hX
      rw [← hxe] at Hd
      obtain ⟨X, Y⟩ := x
      dsimp only at c1 c2
      have hX2 := Lib.hid hX
      clear hX hxe hc
      by_cases hly : k < ys.length
      · obtain ⟨b', rfl, hc'⟩ := Hyc.out (by omega)
        obtain ⟨d1, d2⟩ := hc' k hly
        have d1 : wr.cell? _ = some _ := hq.out.below.cell (World.block_lt_of_cell? w _ d1) ▸ d1
        have d2 : wr.cell? _ = some _ := hq.out.below.cell (World.block_lt_of_cell? w _ d2) ▸ d2
        have He := Lib.hid (dropD_cons (d := ceD) hly)
        have hY := Hy.out k
        change wr.cell? _ = some (Value.int IntKind.i64 (ys.getD k ceD).1) at d1
        change wr.cell? _ = some (Value.int IntKind.i64 (ys.getD k ceD).2) at d2
        obtain ⟨y, hye⟩ : ∃ y, y = ys.getD k ceD := ⟨_, rfl⟩
        rw [← hye] at d1 d2 hY
        rw [← hye] at He
        obtain ⟨X', Y'⟩ := y
        dsimp only at d1 d2
        clear hye hc'
        have Hb : ∀ W, Calls Try.prog 20 #[.agg #[.int .i64 X, .int .i64 Y], .agg #[.int .i64 X', .int .i64 Y']] W fun e w' => e = .returned (.int .i64 (cmpC (X, Y) (X', Y'))) ∧ Gw W w' := fun W => byCells_any (X, Y) (X', Y') hX2.out hY W
        have hstep : cmpD (xs.drop k) (ys.drop k) = if cmpC (X, Y) (X', Y') = 0 then cmpD (xs.drop (k + 1)) (ys.drop (k + 1)) else cmpC (X, Y) (X', Y') := by rw [Hd.out, He.out]; rfl
        have d1' : ∀ o, (wr.alloc o).cell? _ = some _ := fun o => Lib.cell?_alloc_some o d1
        have d2' : ∀ o, (wr.alloc o).cell? _ = some _ := fun o => Lib.cell?_alloc_some o d2
        obtain ⟨r, hr⟩ : ∃ r, r = cmpC (X, Y) (X', Y') := ⟨_, rfl⟩
        rw [← hr] at Hb hstep
        have Hs := Lib.hid (he.out.trans hstep)
        have HB := Lib.hid Hb
        have hnl : ¬ (ys.length : Int) ≤ (k : Int) := by omega
        clear Hb hstep hr he hY d1 d2
        go_wp2_with fail
        refine (HB.out _).mono ?_
        rintro e w1 ⟨rfl, hg⟩
        have Hg := Lib.hid (((hq.out.alloc _).alloc _).trans hg)
        clear hg hq c1 c2 d1' d2'
        by_cases e0 : r = 0
        · subst e0
          have Hs2 := Lib.hid (Hs.out.trans (if_pos rfl))
          go_wp2_with fail
          go_roundg (xs.length - (k + 1))
          case measure => omega
          case rel => exact ⟨k + 1, by omega, by omega, rfl, by go_num, Hg, Hs2⟩
        · have hne : (r != 0) = true := by simp [e0]
          have Hs2 := Lib.hid (Hs.out.trans (if_neg e0))
          clear e0
          go_wp2_with fail
          go_ret
          exact ⟨by rw [Hs2.out] <;> rfl, Hg.out⟩
      · have hge : decide ((ys.length : Int) ≤ (k : Int)) = true := by simp; omega
        have hs : cmpD xs ys = 1 := by
          rw [he.out, Hd.out, show ys.drop k = [] from List.drop_of_length_le (by omega)]
          rfl
        have Hs := Lib.hid hs
        clear hs
        go_wp2_with fail
        go_ret
        exact ⟨by rw [Hs.out] <;> rfl, hq.out.alloc _⟩
    · obtain rfl : k = xs.length := by omega
      have hnl : ¬ ((xs.length : Int) < (xs.length : Int)) := by omega
      by_cases hly : xs.length < ys.length
      · have hlz : ((xs.length : Int) < (ys.length : Int)) := by omega
        have hs : cmpD xs ys = -1 := by
          rw [he.out, List.drop_of_length_le (Nat.le_refl _), dropD_cons (d := ceD) hly]
          rfl
        have Hs := Lib.hid hs
        clear hs
        go_wp2_with fail
        go_ret
        exact ⟨by rw [Hs.out] <;> rfl, hq.out⟩
      · have hlz : ¬ ((xs.length : Int) < (ys.length : Int)) := by omega
        have hs : cmpD xs ys = 0 := by
          rw [he.out, List.drop_of_length_le (Nat.le_refl _), show ys.drop xs.length = [] from List.drop_of_length_le (by omega)]
          rfl
        have Hs := Lib.hid hs
        clear hs
        go_wp2_with fail
        go_ret
        exact ⟨by rw [Hs.out] <;> rfl, hq.out⟩

theorem byDreams_any (u v : Value) (xs ys : Drm) (w : World) (hu : RdC w u xs) (hv : RdC w v ys) (hx : okD xs = true) (hy : okD ys = true) :
    Calls Try.prog 35 #[u, v] w fun e w' => e = .returned (.int .i64 (cmpD xs ys)) ∧ Gw w w' := by
  have H := Lib.hid (compareFC_any u v xs ys w hu hv hx hy)
  obtain ⟨p, cap, rfl, _⟩ := hu
  obtain ⟨q, cap', rfl, _⟩ := hv
  clear hx hy
  go_enter Try.func35, Try.ntmps35
  go_wp2_with fail
  refine H.out.mono ?_
  rintro e w1 ⟨rfl, hg⟩
  go_wp2_with fail
  go_ret
  exact ⟨rfl, hg⟩

set_option maxHeartbeats 1000000 in
theorem sortH_any (v : Value) (L : List Drm) (lo hi : Nat) (w : World) (h : OwnD w lo hi v L) (hok : okL L = true) :
    Calls Try.prog 34 #[v, .func (.func 35) #[] #[]] w fun e w' =>
      e = .returned (.tuple #[]) ∧ OwnD w' lo hi v (srtD L) ∧ Frm lo hi w w' := by
  have hcl := h
  have hlen := (okL_at hok).1
  obtain ⟨F, g1, g2⟩ := h
  obtain ⟨p, cap, rfl, hnc, hcm, hp⟩ := g1.shape
  by_cases h0 : L.length = 0
  · have hL : L = [] := List.eq_nil_of_length_eq_zero h0
    subst hL
    have hcon := AnyF.slices_SortFunc_none (P := Try.prog) (ρ := Try.sortH_ren) { Try.sortH with } p cap (.func (.func 35) #[] #[]) w
    change Calls Try.prog 34 _ _ _ at hcon
    refine hcon.mono ?_
    rintro e w' ⟨rfl, rfl⟩
    exact ⟨rfl, hcl, Frm.refl _ _ _⟩
  · obtain ⟨g, rfl, hg1, hg2, hg3⟩ := hp (by omega)
    obtain ⟨G, hrow, hG, _, _, _, _, _⟩ := g1.opened
    obtain ⟨n, hN⟩ : ∃ n, n = L.length := ⟨_, rfl⟩
    have enter : ∀ args w, (callFunc 35 args).run Try.prog w = .ok (.enter 35 args) w := enters_of Try.func35 (by kernel_rfl) rfl
    obtain ⟨enc, henc⟩ : ∃ enc : Nat → Value, enc = fun i => if i < n then F i else .slice none 0 0 := ⟨_, rfl⟩
    obtain ⟨R, hR⟩ : ∃ R : Nat → Drm, R = fun i => L.getD i [] := ⟨_, rfl⟩
    have hRok : ∀ i, okD (R i) = true := fun i => by rw [hR]; exact okL_getD hok i
    have hone : OneCell enc := fun i => by
      rw [henc]
      by_cases e : i < n
      · simp only [e, if_true]
        obtain ⟨p1, k1, e1, _⟩ := (g2 i (by omega)).shape
        rw [e1]; rfl
      · simp only [e, if_false]; rfl
    have hnb : ∀ i, i < n → ∀ k, (F i).ownBlock = some k → k ≠ g ∧ k < w.heap.size := fun i hi k hk => ⟨fun e => by
      subst e
      exact kinds_ne (OwnF.kind g1 _ rfl) ((g2 i (by omega)).kind _ hk) (by decide), (Own.block (g2 i (by omega)) hk).2.2⟩
    have hcmp : CmpLays1 Try.prog 35 #[] enc (fun i j => cmpD (R i) (R j)) g 0 (Array.range n).size w := by
      intro m os dk _ x y
      have hI : ∀ i, RdC (sortWorld enc w g 0 m dk os) (enc i) (R i) := fun i => by
        rw [henc, hR]
        by_cases e : i < n
        · simp only [e, if_true]
          exact ((g2 i (by omega)).keep fun k hk => swd_other _ (hnb i e k hk).2 (hnb i e k hk).1 m dk os).rd
        · simp only [e, if_false]
          rw [show L.getD i [] = [] by simp [List.getD_eq_getElem?_getD, show ¬ i < L.length by omega]]
          exact ⟨none, 0, rfl, ⟨Nat.le_refl _, Nat.zero_le _⟩, fun h => absurd h (by simp)⟩
      exact byDreams_any (enc x) (enc y) (R x) (R y) _ (hI x) (hI y) (hRok x) (hRok y)
    have hH : Holds enc w g 0 (Array.range n) := fun j hj => by
      rw [Array.size_range] at hj
      have e : (Array.range n)[j]! = j := by rw [getElem!_pos _ j (by simpa using hj)]; simp
      rw [e, Nat.zero_add]
      refine ⟨?_, g1.frozen j⟩
      rw [g1.cell (by omega), henc]
      simp [hj]
    have hcon := Any.slices_SortFunc Try.sortH enc hone (fun i j => cmpD (R i) (R j)) (swo_cmp cmpD_ok R) 35 #[] g 0 cap (Array.range n) w enter hcmp hH hg3 (by rw [Array.size_range]; omega)
    change Calls Try.prog 34 _ _ _ at hcon
    rw [Array.size_range] at hcon
    rw [← hN]
    refine hcon.mono ?_
    rintro e w' ⟨rfl, d', m, os, hp1, hs1, rfl⟩
    have hds : d'.size = n := by simpa using hp1.1
    have hperm : d'.toList.Perm (List.range n) := by
      have h1 := hp1.2.2
      have e1 : d'.extract 0 n = d' := by rw [← hds]; simp
      have e2 : (Array.range n).extract 0 n = Array.range n := by
        have := Array.extract_size (xs := Array.range n)
        rwa [Array.size_range] at this
      rw [e1, e2] at h1
      simpa using h1
    have hat : ∀ i (hi : i < n), d'[i]! = d'.toList[i]'(by simpa [hds] using hi) := fun i hi => by
      rw [getElem!_pos d' i (by omega)]; simp
    have hlt : ∀ i, i < n → d'[i]! < n := fun i hi => by
      have : d'[i]! ∈ d'.toList := by rw [hat i hi]; exact List.getElem_mem _
      simpa using hperm.mem_iff.1 this
    have hl : (d'.toList.map R).length = n := by simp [hds]
    have hgd : ∀ i, i < n → (d'.toList.map R).getD i [] = R d'[i]! := fun i hi => by
      rw [List.getD_eq_getElem?_getD, List.getElem?_map, hat i hi, List.getElem?_eq_getElem (by simpa [hds] using hi)]
      rfl
    have hcs : d'.toList.map R = srtD L := by
      rw [srtD_eq]
      refine Cmp.srt_eq cmpD_ok ?_ ?_
      · refine (hperm.map _).trans (List.Perm.of_eq ?_)
        apply List.ext_getElem?
        intro i
        rw [List.getElem?_map]
        by_cases hi : i < n
        · rw [List.getElem?_range hi, Option.map_some, hR]
          dsimp only
          rw [List.getD_eq_getElem?_getD, List.getElem?_eq_getElem (by omega)]; rfl
        · rw [List.getElem?_eq_none (by simp; omega), List.getElem?_eq_none (by omega)]; rfl
      · rw [List.pairwise_iff_getElem]
        intro i j hi hj hij
        have hi' : i < n := by omega
        have hj' : j < n := by omega
        have h1 := hs1 i j (Nat.zero_le _) hij hj'
        simp only [ltOf] at h1
        rw [List.getElem_map, List.getElem_map, ← hat i hi', ← hat j hj']
        exact h1
    refine ⟨rfl, ?_, ⟨rfl, rfl, rfl, swd_size _ _ _ _ _ _, fun k hk ho => swd_other enc hk (by omega) m d' os⟩⟩
    rw [← hcs]
    obtain ⟨c, hc1, hc2, hc3⟩ := hrow
    have hrow' : (sortWorld enc w g 0 m d' os).rowIs g 27 cap (fun k => if k < n then F d'[k]! else G k) := by
      refine ⟨_, swd_at enc hc1 m d' os, by simp [putCells, hc2], fun i hi => ?_⟩
      simp only [putCells, Array.getElem?_mapIdx, hc3 i hi, Option.map_some, Nat.zero_le, true_and, Nat.zero_add, Nat.sub_zero, hds]
      by_cases e : i < n
      · simp only [e, if_true]
        rw [henc]
        simp only [hlt i e, if_true]
      · simp only [e, if_false]
    refine ⟨fun k => F d'[k]!, ?_, fun i hi => ?_⟩
    · rw [hl]
      exact OwnF.mk' hrow' hg1 hg2 (by omega) hcm fun j hj => by simp only [hj, if_true]
    · rw [hl] at hi
      rw [hgd i hi, hR]
      exact (g2 _ (by have := hlt i hi; omega)).keep fun k hk => swd_other enc (hnb _ (hlt i hi) k hk).2 (hnb _ (hlt i hi) k hk).1 m d' os

end Go.Proofs.Ytcbjcmhnlakgbaa

namespace Go.Proofs.Ytcbjcmhnlakgbaa
set_option linter.all false
set_option maxRecDepth 100000
open Go.RowKit

theorem takeD_snoc {α : Type} {d : α} {l : List α} {k : Nat} (h : k < l.length) : l.take (k + 1) = l.take k ++ [l.getD k d] := by
  rw [List.take_add_one, List.getElem?_eq_getElem h, List.getD_eq_getElem?_getD, List.getElem?_eq_getElem h]
  rfl

set_option maxHeartbeats 2000000 in
theorem equalC_any (u v : Value) (xs ys : Drm) (w : World) (hu : RdC w u xs) (hv : RdC w v ys) :
    Calls Try.prog 27 #[u, v] w fun e w' => e = .returned (.bool (decide (xs = ys))) ∧ Qt w w' := by
  obtain ⟨p, cap, rfl, ⟨hx1, hx2⟩, hxc⟩ := hu
  obtain ⟨q, cap', rfl, ⟨hy1, hy2⟩, hyc⟩ := hv
  unfold maxLen at hx2 hy2
  have Hxc := Lib.hid hxc
  have Hyc := Lib.hid hyc
  clear hxc hyc
  by_cases hl : xs.length = ys.length
  · have hne : ((xs.length : Int) != (ys.length : Int)) = false := by rw [hl]; simp
    have Hl := Lib.hid hl
    clear hl
    go_enter Try.func27, Try.ntmps27
    go_wp2_with fail
    go_loopg [5, 13] xs.length (fun g s5 s13 wr => ∃ k : Nat, k ≤ xs.length ∧ g = xs.length - k ∧ s13 = .int .i64 (k : Int) ∧ Qt w wr ∧ Hid (xs.take k = ys.take k))
    case atStart => exact ⟨0, Nat.zero_le _, rfl, rfl, Qt.refl _, rfl⟩
    case round =>
      obtain ⟨k, hk, rfl, rfl, hq, he⟩ := hrel
      by_cases hlt : k < xs.length
      · have hly : k < ys.length := by rw [← Hl.out]; exact hlt
        obtain ⟨b, rfl, hc⟩ := Hxc.out (by omega)
        obtain ⟨b', rfl, hc'⟩ := Hyc.out (by omega)
        have c1 := hq.cell (hc k hlt).1
        have c2 := hq.cell (hc k hlt).2
        have d1 := hq.cell (hc' k hly).1
        have d2 := hq.cell (hc' k hly).2
        have T1 := Lib.hid (takeD_snoc (d := ceD) hlt)
        have T2 := Lib.hid (takeD_snoc (d := ceD) hly)
        change wr.cell? _ = some (Value.int IntKind.i64 (xs.getD k ceD).1) at c1
        change wr.cell? _ = some (Value.int IntKind.i64 (xs.getD k ceD).2) at c2
        change wr.cell? _ = some (Value.int IntKind.i64 (ys.getD k ceD).1) at d1
        change wr.cell? _ = some (Value.int IntKind.i64 (ys.getD k ceD).2) at d2
        obtain ⟨x, hxe⟩ : ∃ x, x = xs.getD k ceD := ⟨_, rfl⟩
        obtain ⟨y, hye⟩ : ∃ y, y = ys.getD k ceD := ⟨_, rfl⟩
        rw [← hxe] at c1 c2 T1
        rw [← hye] at d1 d2 T2
        obtain ⟨X, Y⟩ := x
        obtain ⟨X', Y'⟩ := y
        dsimp only at c1 c2 d1 d2
        clear hc hc' hxe hye
        have hno : (X, Y) ≠ (X', Y') → ¬ xs = ys := fun h e => by
          have h1 := congrArg (List.take (k + 1)) e
          rw [T1.out, T2.out, he.out] at h1
          have := List.append_cancel_left h1
          injection this with h2
          exact h h2
        have Hno := Lib.hid hno
        clear hno
        by_cases e1 : X = X'
        · subst e1
          by_cases e2 : Y = Y'
          · subst e2
            go_wp2_with fail
            go_quiet (fail)
            go_wp2_with fail
            go_roundg (xs.length - (k + 1))
            case measure => omega
            case rel => exact ⟨k + 1, by omega, rfl, by go_num, hq.drewN _, by show _ = _; rw [T1.out, T2.out, he.out]⟩
          · have e3 : (Y == Y') = false := by simp [e2]
            have hn : decide (xs = ys) = false := decide_eq_false (Hno.out fun h => e2 (by injection h))
            go_wp2_with fail
            go_quiet (fail)
            go_wp2_with fail
            go_ret
            exact ⟨ret_bool hn.symm, hq.drewN _⟩
        · have e3 : (X == X') = false := by simp [e1]
          have hn : decide (xs = ys) = false := decide_eq_false (Hno.out fun h => e1 (by injection h))
          go_wp2_with fail
          go_quiet (fail)
          go_wp2_with fail
          go_ret
          exact ⟨ret_bool hn.symm, hq.drewN _⟩
      · obtain rfl : k = xs.length := by omega
        have hy : decide (xs = ys) = true := by
          have h1 := he.out
          rw [List.take_of_length_le (Nat.le_refl _), List.take_of_length_le (by rw [Hl.out]; exact Nat.le_refl _)] at h1
          exact decide_eq_true h1
        go_wp2_with fail
        go_ret
        exact ⟨ret_bool hy.symm, hq⟩
  · have hne : ((xs.length : Int) != (ys.length : Int)) = true := by simp; omega
    have hn : decide (xs = ys) = false := decide_eq_false fun e => hl (by rw [e])
    clear hl
    go_enter Try.func27, Try.ntmps27
    go_wp2_with fail
    go_ret
    exact ⟨ret_bool hn.symm, Qt.refl _⟩

set_option maxHeartbeats 2000000 in
theorem lawCells_any (u v : Value) (xs ys : Drm) (w : World) (hu : RdC w u xs) (hv : RdC w v ys) :
    Calls Try.prog 22 #[u, v] w fun e w' => e = .returned (.bool (decide (xs = ys))) ∧ Qt w w' := by
  obtain ⟨p, cap, rfl, ⟨hx1, hx2⟩, hxc⟩ := hu
  obtain ⟨q, cap', rfl, ⟨hy1, hy2⟩, hyc⟩ := hv
  unfold maxLen at hx2 hy2
  have Hxc := Lib.hid hxc
  have Hyc := Lib.hid hyc
  clear hxc hyc
  by_cases hl : xs.length = ys.length
  · have hne : ((xs.length : Int) != (ys.length : Int)) = false := by rw [hl]; simp
    have Hl := Lib.hid hl
    clear hl
    go_enter Try.func22, Try.ntmps22
    go_wp2_with fail
    go_loopg [5] xs.length (fun g s5 wr => ∃ k : Nat, k ≤ xs.length ∧ g = xs.length - k ∧ s5 = .int .i64 (k : Int) ∧ Qt w wr ∧ Hid (xs.take k = ys.take k))
    case atStart => exact ⟨0, Nat.zero_le _, rfl, rfl, Qt.refl _, rfl⟩
    case round =>
      obtain ⟨k, hk, rfl, rfl, hq, he⟩ := hrel
      by_cases hlt : k < xs.length
      · have hly : k < ys.length := by rw [← Hl.out]; exact hlt
        obtain ⟨b, rfl, hc⟩ := Hxc.out (by omega)
        obtain ⟨b', rfl, hc'⟩ := Hyc.out (by omega)
        have c1 := hq.cell (hc k hlt).1
        have c2 := hq.cell (hc k hlt).2
        have d1 := hq.cell (hc' k hly).1
        have d2 := hq.cell (hc' k hly).2
        have T1 := Lib.hid (takeD_snoc (d := ceD) hlt)
        have T2 := Lib.hid (takeD_snoc (d := ceD) hly)
        change wr.cell? _ = some (Value.int IntKind.i64 (xs.getD k ceD).1) at c1
        change wr.cell? _ = some (Value.int IntKind.i64 (xs.getD k ceD).2) at c2
        change wr.cell? _ = some (Value.int IntKind.i64 (ys.getD k ceD).1) at d1
        change wr.cell? _ = some (Value.int IntKind.i64 (ys.getD k ceD).2) at d2
        obtain ⟨x, hxe⟩ : ∃ x, x = xs.getD k ceD := ⟨_, rfl⟩
        obtain ⟨y, hye⟩ : ∃ y, y = ys.getD k ceD := ⟨_, rfl⟩
        rw [← hxe] at c1 c2 T1
        rw [← hye] at d1 d2 T2
        obtain ⟨X, Y⟩ := x
        obtain ⟨X', Y'⟩ := y
        dsimp only at c1 c2 d1 d2
        clear hc hc' hxe hye
        have hno : (X, Y) ≠ (X', Y') → ¬ xs = ys := fun h e => by
          have h1 := congrArg (List.take (k + 1)) e
          rw [T1.out, T2.out, he.out] at h1
          have := List.append_cancel_left h1
          injection this with h2
          exact h h2
        have Hno := Lib.hid hno
        clear hno
        by_cases e1 : X = X'
        · subst e1
          by_cases e2 : Y = Y'
          · subst e2
            go_wp2_with fail
            go_quiet (fail)
            go_wp2_with fail
            go_roundg (xs.length - (k + 1))
            case measure => omega
            case rel => exact ⟨k + 1, by omega, rfl, by go_num, hq.drewN _, by show _ = _; rw [T1.out, T2.out, he.out]⟩
          · have e3 : (Y == Y') = false := by simp [e2]
            have hn : decide (xs = ys) = false := decide_eq_false (Hno.out fun h => e2 (by injection h))
            go_wp2_with fail
            go_quiet (fail)
            go_wp2_with fail
            go_ret
            exact ⟨ret_bool hn.symm, hq.drewN _⟩
        · have e3 : (X == X') = false := by simp [e1]
          have hn : decide (xs = ys) = false := decide_eq_false (Hno.out fun h => e1 (by injection h))
          go_wp2_with fail
          go_quiet (fail)
          go_wp2_with fail
          go_ret
          exact ⟨ret_bool hn.symm, hq.drewN _⟩
      · obtain rfl : k = xs.length := by omega
        have hy : decide (xs = ys) = true := by
          have h1 := he.out
          rw [List.take_of_length_le (Nat.le_refl _), List.take_of_length_le (by rw [Hl.out]; exact Nat.le_refl _)] at h1
          exact decide_eq_true h1
        go_wp2_with fail
        go_ret
        exact ⟨ret_bool hy.symm, hq⟩
  · have hne : ((xs.length : Int) != (ys.length : Int)) = true := by simp; omega
    have hn : decide (xs = ys) = false := decide_eq_false fun e => hl (by rw [e])
    clear hl
    go_enter Try.func22, Try.ntmps22
    go_wp2_with fail
    go_ret
    exact ⟨ret_bool hn.symm, Qt.refl _⟩

set_option maxHeartbeats 2000000 in
theorem indexC_any (v : Value) (cs : Drm) (r d : Int) (w : World) (h : RdC w v cs) :
    Calls Try.prog 31 #[v, .agg #[.int .i64 r, .int .i64 d]] w fun e w' => ∃ x : Int, e = .returned (.int .i64 x) ∧ (0 ≤ x ↔ (r, d) ∈ cs) ∧ -1 ≤ x ∧ Gw w w' := by
  obtain ⟨p, cap, rfl, ⟨hx1, hx2⟩, hxc⟩ := h
  unfold maxLen at hx2
  have Hxc := Lib.hid hxc
  clear hxc
  have z0 := heap_alloc_top w (.cells #[.int .i64 r, .int .i64 d] 41)
  have Z0 := Lib.hid z0
  have Hg := Lib.hid ((Gw.refl w).alloc (.cells #[.int .i64 r, .int .i64 d] 41))
  clear z0
  go_enter Try.func31, Try.ntmps31
  go_wp2_with fail
  go_loopg [5, 8] cs.length (fun g s5 s8 wr => ∃ k : Nat, k ≤ cs.length ∧ g = cs.length - k ∧ s8 = .int .i64 (k : Int) ∧ Qt (w.alloc (.cells #[.int .i64 r, .int .i64 d] 41)) wr ∧ Hid ((r, d) ∉ cs.take k))
  case atStart => exact ⟨0, Nat.zero_le _, rfl, rfl, Qt.refl _, by simp [Hid]⟩
  case round =>
    obtain ⟨k, hk, rfl, rfl, hq, hno⟩ := hrel
    by_cases hlt : k < cs.length
    · obtain ⟨b, rfl, hc⟩ := Hxc.out (by omega)
      have c1 := hq.cell (show (w.alloc _).cell? _ = some _ by rw [(below_alloc w _).cell (World.block_lt_of_cell? w _ (hc k hlt).1)]; exact (hc k hlt).1)
      have c2 := hq.cell (show (w.alloc _).cell? _ = some _ by rw [(below_alloc w _).cell (World.block_lt_of_cell? w _ (hc k hlt).2)]; exact (hc k hlt).2)
      have x1 : wr.cell? ⟨w.heap.size, 0, none⟩ = some (.int .i64 r) := hq.cell (cell_of_blk Z0.out (j := 0) rfl)
      have x2 : wr.cell? ⟨w.heap.size, 1, none⟩ = some (.int .i64 d) := hq.cell (cell_of_blk Z0.out (j := 1) rfl)
      have T1 := Lib.hid (takeD_snoc (d := ceD) hlt)
      change wr.cell? _ = some (Value.int IntKind.i64 (cs.getD k ceD).1) at c1
      change wr.cell? _ = some (Value.int IntKind.i64 (cs.getD k ceD).2) at c2
      obtain ⟨x, hxe⟩ : ∃ x, x = cs.getD k ceD := ⟨_, rfl⟩
      rw [← hxe] at c1 c2 T1
      obtain ⟨X, Y⟩ := x
      dsimp only at c1 c2
      clear hc hxe
      have hmem : (X, Y) ∈ cs := List.mem_of_mem_take (i := k + 1) (by rw [T1.out]; simp)
      have Hmem := Lib.hid hmem
      have hk0 : (0 : Int) ≤ (k : Int) := by omega
      clear hmem
      by_cases e1 : r = X
      · subst e1
        by_cases e2 : d = Y
        · subst e2
          go_wp2_with fail
          go_quiet (fail)
          go_wp2_with fail
          go_ret
          exact ⟨(k : Int), rfl, ⟨fun _ => Hmem.out, fun _ => hk0⟩, by omega, (Hg.out.qt hq).drewN _⟩
        · have e3 : (d == Y) = false := by simp [e2]
          have hn : Hid ((r, d) ∉ cs.take (k + 1)) := by
            show _ ∉ cs.take (k + 1)
            rw [T1.out, List.mem_append]
            rintro (h | h)
            · exact hno.out h
            · simp at h; exact e2 h
          clear e2
          go_wp2_with fail
          go_quiet (fail)
          go_wp2_with fail
          go_roundg (cs.length - (k + 1))
          case measure => omega
          case rel => exact ⟨k + 1, by omega, rfl, by go_num, hq.drewN _, hn⟩
      · have e3 : (r == X) = false := by simp [e1]
        have hn : Hid ((r, d) ∉ cs.take (k + 1)) := by
          show _ ∉ cs.take (k + 1)
          rw [T1.out, List.mem_append]
          rintro (h | h)
          · exact hno.out h
          · simp at h; exact e1 h.1
        clear e1
        go_wp2_with fail
        go_quiet (fail)
        go_wp2_with fail
        go_roundg (cs.length - (k + 1))
        case measure => omega
        case rel => exact ⟨k + 1, by omega, rfl, by go_num, hq.drewN _, hn⟩
    · obtain rfl : k = cs.length := by omega
      have hn := hno.out
      rw [List.take_of_length_le (Nat.le_refl _)] at hn
      have Hn := Lib.hid hn
      clear hn
      go_wp2_with fail
      go_ret
      exact ⟨-1, rfl, ⟨fun h => absurd h (by decide), fun h => absurd h Hn.out⟩, by omega, Hg.out.qt hq⟩

theorem containsC_any (v : Value) (cs : Drm) (r d : Int) (w : World) (h : RdC w v cs) :
    Calls Try.prog 17 #[v, .agg #[.int .i64 r, .int .i64 d]] w fun e w' => e = .returned (.bool (decide ((r, d) ∈ cs))) ∧ Gw w w' := by
  have z0 := heap_alloc_top w (.cells #[.int .i64 r, .int .i64 d] 41)
  have x1 := cell_of_blk z0 (j := 0) rfl
  have x2 := cell_of_blk z0 (j := 1) rfl
  have H := Lib.hid (fun o => indexC_any v cs r d (w.alloc o) (h.below (below_alloc w o)))
  have Hg := Lib.hid ((Gw.refl w).alloc (.cells #[.int .i64 r, .int .i64 d] 41))
  obtain ⟨p, cap, rfl, _⟩ := h
  clear z0
  go_enter Try.func17, Try.ntmps17
  go_wp2_with fail
  refine (H.out _).mono ?_
  rintro e w1 ⟨r', rfl, hr, hr1, hq⟩
  have Hr := Lib.hid hr
  have Hq := Lib.hid hq
  clear hr hq
  go_wp2_with fail
  go_ret
  exact ⟨ret_bool (by rw [decide_eq_decide]; exact Hr.out), Hg.out.trans Hq.out⟩

end Go.Proofs.Ytcbjcmhnlakgbaa

namespace Go.Proofs.Ytcbjcmhnlakgbaa
set_option linter.all false
set_option maxRecDepth 100000
open Go.RowKit

theorem zeroSlC (w : World) : (zeroValue 27).run Try.prog w = .ok (.slice none 0 0) w := by kernel_rfl

/-- the first places of a slice -/
theorem OwnF.part {w : World} {lo hi n m cap g : Nat} {T : TypeId} {f : Nat → Value} (h : OwnF w lo hi T (.slice (some ⟨g, 0, none⟩) n cap) n f) (hm : m ≤ n) : OwnF w lo hi T (.slice (some ⟨g, 0, none⟩) m cap) m f := by
  obtain ⟨F, hr, hF, h1, h2, h3, h4, _⟩ := h.opened
  exact OwnF.mk' hr h1 h2 (by omega) h4 fun j hj => hF j (by omega)
theorem OwnF.setCells {lo hi n cap g : Nat} {T : TypeId} : ∀ (vs : List Value) (o : Nat) (w : World) (f : Nat → Value), OwnF w lo hi T (.slice (some ⟨g, 0, none⟩) n cap) n f →
    ∃ f', OwnF (w.setCells g o vs) lo hi T (.slice (some ⟨g, 0, none⟩) n cap) n f' ∧ ∀ j, j < o → f' j = f j
  | [], o, w, f, h => ⟨f, h, fun _ _ => rfl⟩
  | v :: vs, o, w, f, h => by
    obtain ⟨f', h1, h2⟩ := OwnF.setCells vs (o + 1) _ _ (h.set o v)
    exact ⟨f', h1, fun j hj => by rw [h2 j (by omega), if_neg (by omega)]⟩
/-- what is behind place m is wiped, the rest handed out -/
theorem OwnF.wiped {w : World} {lo hi n m cap g : Nat} {T : TypeId} {f : Nat → Value} (h : OwnF w lo hi T (.slice (some ⟨g, 0, none⟩) n cap) n f) (hm : m ≤ n) (vs : List Value) : OwnF (w.setCells g m vs) lo hi T (.slice (some ⟨g, 0, none⟩) m cap) m f := by
  obtain ⟨f', h1, h2⟩ := OwnF.setCells vs m w f h
  exact (h1.part hm).congr h2
theorem setCells_frm {w : World} {lo hi g : Nat} (h1 : lo ≤ g) (h2 : g < hi) (o : Nat) (vs : List Value) : Frm lo hi w (w.setCells g o vs) := by
  induction vs generalizing o w with
  | nil => exact Frm.refl _ _ _
  | cons v vs ih => exact ((Frm.refl lo hi w).setCell (p := ⟨g, o, none⟩) h1 h2 v).trans (ih (o + 1))

theorem cmG_snoc {α : Type} [DecidableEq α] : ∀ (l : List α) (p x : α), cmG p (l ++ [x]) = if x = (p :: l).getLast (by simp) then cmG p l else cmG p l ++ [x]
  | [], p, x => by
    show (if x = p then cmG x [] else x :: cmG x []) = if x = p then _ else _
    rfl
  | y :: l, p, x => by
    have ih := cmG_snoc l y x
    rw [List.cons_append]
    unfold cmG
    by_cases e : y = p
    · rw [if_pos e, if_pos e, ih]
      rfl
    · rw [if_neg e, if_neg e, ih]
      rw [show (p :: y :: l).getLast (by simp) = (y :: l).getLast (by simp) from rfl]
      split <;> rfl
theorem cmpct_snoc {α : Type} [DecidableEq α] {d : α} {L : List α} {k : Nat} (h : k + 1 < L.length) : cmpct (L.take (k + 2)) = if L.getD (k + 1) d = L.getD k d then cmpct (L.take (k + 1)) else cmpct (L.take (k + 1)) ++ [L.getD (k + 1) d] := by
  rw [takeD_snoc (d := d) h]
  cases L with
  | nil => simp at h
  | cons x l =>
    rw [List.take_succ_cons, List.cons_append]
    show x :: cmG x (l.take k ++ [(x :: l).getD (k + 1) d]) = if _ then x :: cmG x (l.take k) else x :: cmG x (l.take k) ++ _
    rw [cmG_snoc]
    have e : (x :: l.take k).getLast (by simp) = (x :: l).getD k d := by
      rw [List.getLast_eq_getElem]
      have hk : k < (x :: l).length := by simp at h ⊢; omega
      have hl : (x :: l.take k).length - 1 = k := by simp at h ⊢; omega
      have h1 : (x :: l.take k)[k]? = (x :: l)[k]? := by rw [← List.take_succ_cons, List.getElem?_take, if_pos (by omega)]
      have h2 : (x :: l.take k)[(x :: l.take k).length - 1]? = (x :: l)[k]? := by rw [hl]; exact h1
      rw [List.getElem?_eq_getElem (by simp), List.getElem?_eq_getElem hk] at h2
      rw [List.getD_eq_getElem?_getD, List.getElem?_eq_getElem hk]
      exact Option.some.inj h2
    rw [e]
    split <;> rfl
theorem cmpct_one {α : Type} [DecidableEq α] (L : List α) (h : L.length < 2) : cmpct L = L := by
  match L, h with
  | [], _ => rfl
  | [x], _ => rfl
theorem cmpct_le {α : Type} [DecidableEq α] (L : List α) : (cmpct L).length ≤ L.length := by
  cases L with
  | nil => exact Nat.le_refl _
  | cons x l =>
    have : ∀ (l : List α) (p : α), (cmG p l).length ≤ l.length := fun l => by
      induction l with
      | nil => exact fun _ => Nat.le_refl _
      | cons y l ih =>
        intro p
        unfold cmG
        split
        · have := ih y; simp; omega
        · have := ih y; simp; omega
    have := this l x
    unfold cmpct
    simp; omega

/-- places of a slice that hold dreams of the call's own -/
def Kept (w : World) (lo hi : Nat) (F : Nat → Value) (K : List Drm) : Prop := ∀ i, i < K.length → OwnC w lo hi (F i) (K.getD i [])
theorem Kept.snoc {w : World} {lo hi : Nat} {F : Nat → Value} {K : List Drm} (h : Kept w lo hi F K) {x : Value} {d : Drm} (hx : OwnC w lo hi x d) : Kept w lo hi (fun j => if j = K.length then x else F j) (K ++ [d]) := fun i hi => by
  rw [List.length_append] at hi
  simp only [List.length_singleton] at hi
  by_cases e : i = K.length
  · subst e
    simp [List.getD_eq_getElem?_getD]
    exact hx
  · have e2 : (K ++ [d]).getD i [] = K.getD i [] := by simp [List.getD_eq_getElem?_getD, List.getElem?_append_left (show i < K.length by omega)]
    rw [e2]
    simp only [e, if_false]
    exact h i (by omega)
theorem Kept.set {w : World} {lo hi n cap g : Nat} {F f : Nat → Value} {K : List Drm} (h : Kept w lo hi F K) (g1 : OwnF w lo hi 27 (.slice (some ⟨g, 0, none⟩) n cap) n f) (k : Nat) (u : Value) : Kept (w.setCell ⟨g, k, none⟩ u) lo hi F K := fun i hi =>
  (h i hi).keep fun b hb => Below.heap_setCell _ _ _ _ fun e => by
    subst e
    exact kinds_ne (g1.kind _ rfl) ((h i hi).kind _ hb) (by decide)
theorem Kept.qt {w w' : World} {lo hi : Nat} {F : Nat → Value} {K : List Drm} (h : Kept w lo hi F K) (q : Qt w w') : Kept w' lo hi F K := fun i hi => (h i hi).below (q.below _)
theorem Kept.below {w w' : World} {lo hi : Nat} {F : Nat → Value} {K : List Drm} (h : Kept w lo hi F K) (q : Below w.heap.size w w') : Kept w' lo hi F K := fun i hi => (h i hi).below q
theorem Kept.setCells {lo hi n cap g : Nat} {F : Nat → Value} {K : List Drm} (vs : List Value) : ∀ (o : Nat) (w : World) (f : Nat → Value), Kept w lo hi F K → OwnF w lo hi 27 (.slice (some ⟨g, 0, none⟩) n cap) n f → Kept (w.setCells g o vs) lo hi F K := by
  induction vs with
  | nil => exact fun _ _ _ h _ => h
  | cons v vs ih => exact fun o w f h g1 => ih (o + 1) _ _ (h.set g1 o v) (g1.set o v)

theorem RdC.sh {w : World} {v : Value} {cs : Drm} (h : RdC w v cs) : ∃ p l c, v = .slice p l c := by
  obtain ⟨p, c, e, _⟩ := h
  exact ⟨p, _, c, e⟩
theorem equalQ {w : World} {u v : Value} {xs ys : Drm} (hu : RdC w u xs) (hv : RdC w v ys) (q : Nat) :
    Calls Try.prog 27 #[u, v] (w.drewN q) fun e w' => e = .returned (.bool (decide (xs = ys))) ∧ Qt (w.drewN q) w' :=
  equalC_any u v xs ys _ (hu.qt ⟨q, rfl⟩) (hv.qt ⟨q, rfl⟩)

set_option maxHeartbeats 4000000 in
theorem compactFD_any (v : Value) (L : List Drm) (lo hi : Nat) (w : World) (h : OwnD w lo hi v L) (hn : L.length ≤ 1000) :
    Calls Try.prog 36 #[v, .func (.func 27) #[] #[]] w fun e w' =>
      ∃ u, e = .returned u ∧ OwnD w' lo hi u (cmpct L) ∧ Frm lo hi w w' := by
  have hcl := h
  obtain ⟨F, g1, g2⟩ := h
  obtain ⟨p, cap, rfl, hnc, hcm, hp⟩ := g1.shape
  by_cases h2 : L.length < 2
  · have hlz : ((L.length : Int) < 2) := by omega
    have Hc := Lib.hid hcl
    have He := Lib.hid (cmpct_one L h2)
    clear hcl g1 g2 hp h2
    go_enter Try.func36, Try.ntmps36
    go_wp2_with fail
    go_ret
    exact ⟨_, rfl, by rw [He.out]; exact Hc.out, Frm.refl _ _ _⟩
  · obtain ⟨g, rfl, hg1, hg2, hg3⟩ := hp (by omega)
    obtain ⟨n, hN⟩ : ∃ n, n = L.length := ⟨_, rfl⟩
    have hK : Kept w lo hi F L := g2
    rw [← hN] at g1 hnc hn h2 hcl ⊢
    have G1 := Lib.hid g1
    have G2 := Lib.hid hK
    have HN := Lib.hid hN
    have Hcl := Lib.hid hcl
    have hlz : ¬ ((n : Int) < 2) := by omega
    unfold maxLen at hcm
    have Hcm := Lib.hid hcm
    clear g1 g2 hK hN hcl hp
    go_enter Try.func36, Try.ntmps36
    go_wp2_with fail
    go_loopg [5, 6, 7] (n - 1) (fun t s5 s6 s7 wr => ∃ k : Nat, 1 ≤ k ∧ k ≤ n ∧ t = n - k ∧ s5 = .int .i64 (k : Int) ∧ Qt w wr ∧ Hid (cmpct (L.take k) = L.take k))
    case atStart => exact ⟨1, Nat.le_refl _, by omega, by omega, rfl, Qt.refl _, cmpct_one _ (by simp; omega)⟩
    case round =>
      obtain ⟨k, hk1, hk, rfl, rfl, hq, he⟩ := hrel
      by_cases hlt : k < n
      · obtain ⟨j, hj⟩ : ∃ j, j + 1 = k := ⟨k - 1, by omega⟩
        have o1 := (G2.out k (by rw [← HN.out]; exact hlt)).rd.qt hq
        have o0 := (G2.out j (by rw [← HN.out]; omega)).rd.qt hq
        have c1 := hq.cell (G1.out.cell hlt)
        have c0 := hq.cell (G1.out.cell (show j < n by omega))
        have hst := Lib.hid (cmpct_snoc (d := []) (L := L) (k := j) (by rw [← HN.out]; omega))
        have hsn := Lib.hid (takeD_snoc (d := ([] : Drm)) (l := L) (k := k) (by rw [← HN.out]; exact hlt))
        have hcast : (k : Int) - 1 = (j : Int) := by omega
        have Hq := Lib.hid (equalQ o1 o0)
        obtain ⟨x1, hx1⟩ : ∃ x, x = F k := ⟨_, rfl⟩
        obtain ⟨x0, hx0⟩ : ∃ x, x = F j := ⟨_, rfl⟩
        rw [← hx1] at c1
        rw [← hx0] at c0
        rw [← hx1, ← hx0] at Hq
        rw [← hx1] at o1
        rw [← hx0] at o0
        obtain ⟨p1, k1, rfl, _⟩ := o1
        obtain ⟨p0, k0, rfl, _⟩ := o0
        have hj2 : j + 2 = k + 1 := by omega
        rw [hj, hj2] at hst
        have hjn : (j : Int) < (n : Int) := by omega
        have hkn : (k : Int) < (n : Int) := by omega
        have hk1z : (1 : Int) ≤ (k : Int) := by omega
        by_cases e : L.getD k [] = L.getD j []
        · rw [decide_eq_true e] at Hq
          have Hst := Lib.hid ((hst.out.trans (if_pos e)).trans he.out)
          clear hst e hx1 hx0 hj hj2
          go_wp2_with fail
          go_quiet (first | (go_at_call 27; exact quiet_q (Hq.out _)))
          go_wp2_with fail
          have Hq2 := Lib.hid (fun nq => hq.drewN nq)
          clear c1 c0 Hq hq hjn hcast
          go_loopg [5, 7] (n - (k + 1)) (fun t s5 s7 wz => ∃ (q m : Nat) (F' : Nat → Value), k + q + 1 ≤ n ∧ t = n - (k + q + 1) ∧ s7 = .int .i64 ((q + 1 : Nat) : Int) ∧ s5 = .int .i64 (m : Int) ∧ m ≤ k + q ∧ Hid (m = (cmpct (L.take (k + q + 1))).length) ∧ Hid (Frm lo hi w wz) ∧ Hid (OwnF wz lo hi 27 (.slice (some ⟨g, 0, none⟩) n cap) n F') ∧ Hid (Kept wz lo hi F' (cmpct (L.take (k + q + 1)))) ∧ Hid (Kept wz lo hi F L) ∧ Hid (∀ x, k + q ≤ x → x < n → F' x = F x))
          case atStart =>
            refine ⟨0, k, F, by omega, by omega, rfl, rfl, by omega, ?_, ?_, ?_, ?_, ?_, fun _ _ _ => rfl⟩
            · show k = _
              rw [Nat.add_zero, Hst.out, List.length_take, Nat.min_eq_left (by rw [← HN.out]; omega)]
            · exact (Hq2.out _).frm _ _
            · exact G1.out.below ((Hq2.out _).below _)
            · rw [Nat.add_zero, Hst.out]
              intro i hi
              rw [List.length_take] at hi
              have e2 : (L.take k).getD i [] = L.getD i [] := by simp [List.getD_eq_getElem?_getD, List.getElem?_take, show i < k by omega]
              rw [e2]
              exact (G2.out i (by omega)).below ((Hq2.out _).below _)
            · exact G2.out.qt (Hq2.out _)
          case round =>
            obtain ⟨q, m, F', hqn, rfl, rfl, rfl, hmk, Hm, Hfr, H1, HKp, HKl, HF⟩ := hrel
            by_cases hlt2 : k + q + 1 < n
            · have o1 := (HKl.out (k + q + 1) (by rw [← HN.out]; exact hlt2)).rd
              have o0 := (HKl.out (k + q) (by rw [← HN.out]; omega)).rd
              have c1 := H1.out.cell hlt2
              have c0 := H1.out.cell (show k + q < n by omega)
              rw [HF.out _ (by omega) hlt2] at c1
              rw [HF.out _ (by omega) (by omega)] at c0
              have cm := H1.out.cell (show m < n by omega)
              have fm := H1.out.frozen m
              have HsetF := Lib.hid (fun nq => (H1.out.below (Below.of_drewN wr nq)).set m (F (k + q + 1)))
              have hsnoc := HKp.out.snoc (HKl.out (k + q + 1) (by rw [← HN.out]; exact hlt2))
              rw [← Hm.out] at hsnoc
              have Hsnoc := Lib.hid (fun nq => (hsnoc.below (Below.of_drewN wr nq)).set (H1.out.below (Below.of_drewN wr nq)) m (F (k + q + 1)))
              have Hkl2 := Lib.hid (fun nq => (HKl.out.below (Below.of_drewN wr nq)).set (H1.out.below (Below.of_drewN wr nq)) m (F (k + q + 1)))
              have Hfr2 := Lib.hid (fun nq => (Hfr.out.drewN nq).setCell (p := ⟨g, m, none⟩) hg1 hg2 (F (k + q + 1)))
              clear hsnoc
              have hst := Lib.hid (cmpct_snoc (d := []) (L := L) (k := k + q) (by rw [← HN.out]; omega))
              have Hq := Lib.hid (equalQ o1 o0)
              obtain ⟨x1, hx1⟩ : ∃ x, x = F (k + q + 1) := ⟨_, rfl⟩
              obtain ⟨x0, hx0⟩ : ∃ x, x = F (k + q) := ⟨_, rfl⟩
              obtain ⟨xm, hxm⟩ : ∃ x, x = F' m := ⟨_, rfl⟩
              rw [← hx1] at c1
              rw [← hx0] at c0
              rw [← hxm] at cm
              rw [← hx1, ← hx0] at Hq
              rw [← hx1] at o1 HsetF Hsnoc Hkl2 Hfr2
              rw [← hx0] at o0
              obtain ⟨p1, l1, k1, rfl⟩ := o1.sh
              obtain ⟨p0, l0, k0, rfl⟩ := o0.sh
              clear o1 o0
              have Hx1 := Lib.hid hx1
              have hcast : ((q + 1 : Nat) : Int) - 1 = (q : Int) := by omega
              have hqz : (q : Int) + 1 < ((n - k : Nat) : Int) := by omega
              have c1' := c1
              rw [Nat.add_assoc] at c1'
              have hqz2 : ((q + 1 : Nat) : Int) < ((n - k : Nat) : Int) := by omega
              have hqz0 : (0 : Int) ≤ ((q + 1 : Nat) : Int) := by omega
              have hqz1 : (q : Int) < ((n - k : Nat) : Int) := by omega
              have hmz : (m : Int) < (n : Int) := by omega
              by_cases e : L.getD (k + q + 1) [] = L.getD (k + q) []
              · rw [decide_eq_true e] at Hq
                have Hst3 := Lib.hid (hst.out.trans (if_pos e))
                clear hst e hx1 hx0 hxm HsetF Hsnoc Hkl2 Hfr2
                go_wp2_with fail
                go_quiet (first | (go_at_call 27; exact quiet_q (Hq.out _)))
                go_wp2_with fail
                go_roundg (n - (k + (q + 1) + 1))
                case measure => omega
                case rel =>
                  refine ⟨q + 1, m, F', by omega, rfl, by go_num, rfl, by omega, ?_, Hfr.out.drewN _, H1.out.below (Below.of_drewN _ _), ?_, HKl.out.below (Below.of_drewN _ _), fun x h1 h2 => HF.out x (by omega) h2⟩
                  · show m = (cmpct (L.take (k + q + 2))).length
                    rw [Hst3.out, ← Hm.out]
                  · show Kept _ lo hi F' (cmpct (L.take (k + q + 2)))
                    rw [Hst3.out]
                    exact HKp.out.below (Below.of_drewN _ _)
              · rw [decide_eq_false e] at Hq
                have Hst3 := Lib.hid (hst.out.trans (if_neg e))
                clear hst e hx1 hx0 hxm
                go_wp2_with fail
                go_quiet (first | (go_at_call 27; exact quiet_q (Hq.out _)))
                go_wp2_with fail
                go_roundg (n - (k + (q + 1) + 1))
                case measure => omega
                case rel =>
                  refine ⟨q + 1, m + 1, _, by omega, rfl, by go_num, by go_num, by omega, ?_, Hfr2.out _, HsetF.out _, ?_, Hkl2.out _, fun x h1 h2 => ?_⟩
                  · show m + 1 = (cmpct (L.take (k + q + 2))).length
                    rw [Hst3.out, List.length_append, ← Hm.out]
                    rfl
                  · show Kept _ lo hi _ (cmpct (L.take (k + q + 2)))
                    rw [Hst3.out]
                    exact Hsnoc.out _
                  · show (if x = m then _ else F' x) = F x
                    rw [if_neg (by omega)]
                    exact HF.out x (by omega) h2
            · have hend : k + q + 1 = n := by omega
              have hqz : ¬ ((q : Int) + 1 < ((n - k : Nat) : Int)) := by omega
              have hmn : m ≤ n := by omega
              have hmc : m ≤ cap := by omega
              have cm : ∀ t, t < n - m → wr.cell? ⟨g, m + t, none⟩ = some (F' (m + t)) := fun t ht => H1.out.cell (by omega)
              have fm : ∀ t, wr.frozen? ⟨g, m + t, none⟩ = false := fun t => H1.out.frozen _
              have hcl : ∀ ty, (Builtin.clear_ #[29] ty #[.slice (some ⟨g, m, none⟩) (n - m) (cap - m)]).run Try.prog wr = .ok (.tuple #[]) (wr.setCells g m (List.replicate (n - m) (.slice none 0 0))) := fun ty =>
                Lib.run_clear_slice wr _ _ ty _ Try.underlying29 zeroSlC rfl rfl g m _ _ (by omega) (fun t ht => by rw [cm t ht]; rfl) (fun t ht => fm t)
              have hmz : (m : Int) ≤ (n : Int) := by omega
              have hmz2 : (m : Int) ≤ (cap : Int) := by omega
              have Hres := Lib.hid (show OwnD (wr.setCells g m (List.replicate (n - m) (.slice none 0 0))) lo hi (.slice (some ⟨g, 0, none⟩) m cap) (cmpct L) from by
                have hT : L.take (k + q + 1) = L := List.take_of_length_le (by rw [← HN.out]; omega)
                have h1 := Hm.out
                have h2 := HKp.out
                rw [hT] at h1 h2
                refine ⟨F', by rw [← h1]; exact H1.out.wiped hmn _, Kept.setCells _ _ _ _ h2 H1.out⟩)
              have Hfr3 := Lib.hid (Hfr.out.trans (setCells_frm hg1 hg2 m (List.replicate (n - m) (.slice none 0 0))))
              clear cm fm
              go_wp2_with fail
              go_ret
              exact ⟨_, rfl, Hres.out, Hfr3.out⟩
        · rw [decide_eq_false e] at Hq
          have Hst := Lib.hid (hst.out.trans (if_neg e))
          clear hst e hx1 hx0 hj hj2
          go_wp2_with fail
          go_quiet (first | (go_at_call 27; exact quiet_q (Hq.out _)))
          go_wp2_with fail
          go_roundg (n - (k + 1))
          case measure => omega
          case rel => exact ⟨k + 1, by omega, by omega, rfl, by go_num, hq.drewN _, by show _ = _; rw [Hst.out, hsn.out, he.out]⟩
      · obtain rfl : k = n := by omega
        have hnl : ¬ ((k : Int) < (k : Int)) := by omega
        have hc := he.out
        rw [List.take_of_length_le (by rw [← HN.out]; exact Nat.le_refl _)] at hc
        have Hc := Lib.hid hc
        clear hc
        go_wp2_with fail
        go_ret
        exact ⟨_, rfl, by rw [Hc.out]; exact Hcl.out.below (hq.below _), hq.frm _ _⟩

end Go.Proofs.Ytcbjcmhnlakgbaa
