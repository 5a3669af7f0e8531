/-
  LadderMoves.
  The draws: the cursor over the bytes, a number below another one.
  The draws: a new cursor.
  The draws: a permutation.
  hasCells, DrawSmallPerms, BottomDream.
  BottomDream.
-/
import Derived.Test.YtcbjcmhnlakgbaaJ6
import Derived.Test.YtcbjcmhnlakgbaaJ1
import Derived.Test.YtcbjcmhnlakgbaaJ2
import Derived.Deep.RegionLaw
import Derived.Test.YtcbjcmhnlakgbaaJ4
import Derived.Test.YtcbjcmhnlakgbaaJ3
namespace Go.Proofs.Ytcbjcmhnlakgbaa
set_option linter.all false
set_option maxRecDepth 100000
open Go.RowKit Go.Sort

set_option maxHeartbeats 1500000 in
theorem ladderMoves_any (n : Int) (v : Value) (cs : Drm) (w : World) (h : RdC w v cs) (hok : okD cs = true) (hn0 : 0 ≤ n) (hn7 : n ≤ 7) :
    Calls Try.prog 7 #[.int .i64 n, v] w fun e w' => ∃ u, e = .returned u ∧ OwnD w' w.heap.size w'.heap.size u (movesB n cs) ∧ Below w.heap.size w w' := by
  have H := Lib.hid h
  obtain ⟨p, cap, rfl, ⟨hx1, hx2⟩, hxc⟩ := h
  unfold maxLen at hx2
  have hlen := (okD_at hok).1
  have Hok := Lib.hid hok
  have Hxc := Lib.hid hxc
  clear hxc hok
  obtain ⟨N, hN⟩ : ∃ N, N = cs.length := ⟨_, rfl⟩
  have HN := Lib.hid hN
  rw [← hN] at hx1 hlen H Hxc ⊢
  clear hN
  obtain ⟨B, hB⟩ : ∃ B : Obj, B = .cells #[.slice p N cap] 27 := ⟨_, rfl⟩
  have z0 : (w.alloc B).cell? ⟨w.heap.size, 0, none⟩ = some (.slice p N cap) := by rw [hB]; exact cell_of_blk (heap_alloc_top w _) (j := 0) rfl
  have hb1 := below_alloc2 w B (.cells #[] 27)
  have z1 : ((w.alloc B).alloc (.cells #[] 27)).cell? ⟨w.heap.size, 0, none⟩ = some (.slice p N cap) := Lib.cell?_alloc_some _ z0
  have o1 := OwnD.made0 (w.alloc B)
  have hs1 : (w.alloc B).heap.size = w.heap.size + 1 := size_alloc _ _
  rw [hs1] at o1
  obtain ⟨W, hW⟩ : ∃ W, W = (w.alloc B).alloc (.cells #[] 27) := ⟨_, rfl⟩
  have hsW : W.heap.size = w.heap.size + 2 := by rw [hW, size_alloc, hs1]
  rw [← hW] at hb1 z1 o1
  have HD := Lib.hid (isDream_any n (.slice p N cap) cs W (H.out.below hb1) Hok.out hn0 hn7)
  have HW := Lib.hid hW
  have HB := Lib.hid hB
  have Hb1 := Lib.hid hb1
  have O1 := Lib.hid o1
  have Z1 := Lib.hid z1
  have HsW := Lib.hid hsW
  clear hW hB z0 hb1 z1 o1 hs1 hsW
  go_enter Try.func7, Try.ntmps7
  go_wp2_with fail
  rw [← HB.out, ← HW.out]
  refine HD.out.mono ?_
  rintro e w1 ⟨rfl, hb2⟩
  have hbW := Hb1.out.trans (hb2.mono Hb1.out.size)
  have HbW := Lib.hid hbW
  have O2 := Lib.hid (O1.out.below hb2)
  have z2 : w1.cell? ⟨w.heap.size, 0, none⟩ = some (.slice p N cap) := by rw [hb2.cell (by rw [HsW.out]; show w.heap.size < _; omega)]; exact Z1.out
  have hsz := hb2.size
  rw [HsW.out] at hsz
  cases hdr : isDrB n cs with
  | false =>
    have hm : movesB n cs = [] := by unfold movesB; rw [hdr]; rfl
    have Hm := Lib.hid hm
    clear hm hb2 hbW hdr
    go_wp2_with fail
    go_ret
    exact ⟨_, rfl, by rw [Hm.out]; exact O2.out.mono (by omega) hsz, HbW.out⟩
  | true =>
    have hm : movesB n cs = ordD (movesTo cs cs.length) := by unfold movesB; rw [hdr]; rfl
    have Hm := Lib.hid hm
    have Hdr := Lib.hid hdr
    have Z2 := Lib.hid z2
    clear hm hb2 hbW hdr
    go_wp2_with fail
    go_loopg [5, 7, 8, 9, 10, 20] N (fun g s5 s7 s8 s9 s10 s20 wr => ∃ k : Nat, k ≤ N ∧ g = N - k ∧ s20 = .int .i64 (k : Int) ∧ Hid (Below w.heap.size w wr) ∧ Hid (wr.cell? ⟨w.heap.size, 0, none⟩ = some (.slice p N cap)) ∧ w.heap.size + 2 ≤ wr.heap.size ∧ Hid (OwnD wr (w.heap.size + 1) wr.heap.size s5 (movesTo cs k)))
    case atStart => exact ⟨0, Nat.zero_le _, rfl, rfl, HbW.out, Z2.out, hsz, O2.out.mono (Nat.le_refl _) hsz⟩
    case round =>
      obtain ⟨k, hk, rfl, rfl, hbr, hzr, hszr, hor⟩ := hrel
      obtain ⟨wo, rfl⟩ : ∃ x : World, x = wr := ⟨_, rfl⟩
      by_cases hlt : k < N
      · have hkc : k < cs.length := by rw [← HN.out]; exact hlt
        obtain ⟨b, rfl, hc⟩ := Hxc.out (by omega)
        obtain ⟨c1, c2⟩ := hc k hlt
        have c1 : wo.cell? _ = some _ := hbr.out.cell (World.block_lt_of_cell? w _ c1) ▸ c1
        have c2 : wo.cell? _ = some _ := hbr.out.cell (World.block_lt_of_cell? w _ c2) ▸ c2
        change wo.cell? _ = some (Value.int IntKind.i64 (cs.getD k ceD).1) at c1
        change wo.cell? _ = some (Value.int IntKind.i64 (cs.getD k ceD).2) at c2
        have hcl := (isDrB_at Hdr.out).2 k hkc
        have hn16 := (isDrB_at Hdr.out).1
        obtain ⟨x, hxe⟩ : ∃ x, x = cs.getD k ceD := ⟨_, rfl⟩
        rw [← hxe] at c1 c2 hcl
        have Hxe := Lib.hid hxe
        obtain ⟨X, Y⟩ := x
        dsimp only at c1 c2 hcl
        obtain ⟨x1, x2, x3, x4⟩ := hcl
        obtain ⟨p5, k5, rfl, hl5, _⟩ := hor.out.shape
        obtain ⟨R0, rfl⟩ : ∃ R0 : Nat, X = (R0 : Int) := ⟨X.toNat, by omega⟩
        have z3 := heap_alloc_top wo (.cells #[.int .i64 (R0 : Int), .int .i64 Y] 41)
        obtain ⟨V, hV⟩ : ∃ V, V = wo.alloc (.cells #[.int .i64 (R0 : Int), .int .i64 Y] 41) := ⟨_, rfl⟩
        rw [← hV] at z3
        have gV : Gw wo V := by rw [hV]; exact (Gw.refl wo).alloc _
        have e1 : V.cell? ⟨wo.heap.size, 0, none⟩ = some (.int .i64 (R0 : Int)) := cell_of_blk z3 (j := 0) rfl
        have e2 : V.cell? ⟨wo.heap.size, 1, none⟩ = some (.int .i64 Y) := cell_of_blk z3 (j := 1) rfl
        have hbox : ∀ u, Gw wo u → u.cell? ⟨w.heap.size, 0, none⟩ = some (.slice (some ⟨b, 0, none⟩) N cap) := fun u hu => by rw [hu.below.cell (World.block_lt_of_cell? wo _ hzr.out)]; exact hzr.out
        have his : ∀ u, Gw wo u → ∀ r d, Calls Try.prog 16 #[.int .i64 r, .int .i64 d, .pointer (some ⟨w.heap.size, 0, none⟩)] u fun e w' => e = .returned (.bool (decide ((r, d) ∈ cs))) ∧ Gw u w' := fun u hu r d =>
          isC_any _ cs r d _ u (hbox u hu) ((H.out.below hbr.out).below hu.below)
        have hcont : ∀ u, Gw wo u → moveB cs k = [] → Below w.heap.size w u ∧ u.cell? ⟨w.heap.size, 0, none⟩ = some (.slice (some ⟨b, 0, none⟩) N cap) ∧ w.heap.size + 2 ≤ u.heap.size ∧ OwnD u (w.heap.size + 1) u.heap.size (.slice p5 (movesTo cs k).length k5) (movesTo cs (k + 1)) := fun u hu hm =>
          ⟨hbr.out.trans (hu.below.mono hbr.out.size), hbox u hu, Nat.le_trans hszr hu.below.size, by rw [movesTo_succ, hm, List.append_nil]; exact (hor.out.below hu.below).mono (Nat.le_refl _) hu.below.size⟩
        have HC := Lib.hid hcont
        have HIS := Lib.hid his
        have HBX := Lib.hid hbox
        have GV := Lib.hid gV
        have HV := Lib.hid hV
        have E1 := Lib.hid e1
        have E2 := Lib.hid e2
        have hw1 : IntKind.i64.wrap (Y + 1) = Y + 1 := k64 (by omega) (by omega)
        have hw2 : IntKind.i64.wrap ((R0 : Int) - 1) = (R0 : Int) - 1 := k64 (by omega) (by omega)
        have hkz : (k : Int) < (N : Int) := by omega
        clear hc z3 gV hV his hbox hxe hcont
        go_wp2_with fail
        rw [← HV.out]
        refine (HIS.out V GV.out (R0 : Int) (Y + 1)).mono ?_
        rintro e u1 ⟨rfl, g1⟩
        have G1 := Lib.hid g1
        have G1o := Lib.hid (GV.out.trans g1)
        have e1' : u1.cell? ⟨wo.heap.size, 0, none⟩ = some (.int .i64 (R0 : Int)) := by rw [g1.below.cell (World.block_lt_of_cell? V _ E1.out)]; exact E1.out
        clear g1 e1 e2
        by_cases hA : ((R0 : Int), Y + 1) ∈ cs
        · have HA := Lib.hid hA
          have hdA : decide (((R0 : Int), Y + 1) ∈ cs) = true := decide_eq_true hA
          rw [hdA]
          clear hA hdA
          go_wp2_with fail
          go_roundg (N - (k + 1))
          case measure => omega
          case rel =>
            obtain ⟨r1, r2, r3, r4⟩ := HC.out _ G1o.out (moveB_a Hxe.out HA.out)
            exact ⟨k + 1, by omega, rfl, by go_num, r1, r2, r3, r4⟩
        · have hdA : decide (((R0 : Int), Y + 1) ∈ cs) = false := decide_eq_false hA
          rw [hdA]
          have HA := Lib.hid hA
          clear hA hdA
          go_wp2_with fail
          go_loopg [9] R0 (fun g s9 wz => ∃ r : Nat, g = r ∧ r ≤ R0 ∧ s9 = .int .i64 ((r : Int) - 1) ∧ Hid (Gw V wz) ∧ Hid (down cs Y R0 = down cs Y r))
          case atStart => exact ⟨R0, rfl, Nat.le_refl _, rfl, G1.out, rfl⟩
          case round =>
            obtain ⟨r, rfl, hrR, rfl, gz, hdn⟩ := hrel
            have Gz := Lib.hid (GV.out.trans gz.out)
            rcases Nat.eq_zero_or_pos gk with h0 | h0
            · subst h0
              have hge2 : ¬ ((0 : Int) ≤ ((0 : Nat) : Int) - 1) := by decide
              have hlt2 : ((0 : Nat) : Int) - 1 < 0 := by decide
              have hmv : Hid (moveB cs k = []) := moveB_b Hxe.out (.inl (by show down cs Y R0 < 0; rw [hdn.out]; show (-1 : Int) < 0; decide))
              go_wp2_with fail
              go_roundg (N - (k + 1))
              case measure => omega
              case rel =>
                obtain ⟨r1, r2, r3, r4⟩ := HC.out _ Gz.out (hmv.out)
                exact ⟨k + 1, by omega, rfl, by go_num, r1, r2, r3, r4⟩
            · obtain ⟨m, rfl⟩ : ∃ m, gk = m + 1 := ⟨gk - 1, by omega⟩
              have hcast : (((m + 1 : Nat) : Int) - 1) = (m : Int) := by omega
              rw [hcast]
              have hm0 : (0 : Int) ≤ (m : Int) := by omega
              have hmn : ¬ ((m : Int) < 0) := by omega
              have hmw : IntKind.i64.wrap ((m : Int) - 1) = (m : Int) - 1 := k64 (by omega) (by omega)
              have ey : ∀ u, Gw V u → u.cell? ⟨wo.heap.size, 1, none⟩ = some (.int .i64 Y) := fun u hu => by rw [hu.below.cell (World.block_lt_of_cell? V _ E2.out)]; exact E2.out
              have y1 := ey wr gz.out
              have EY := Lib.hid ey
              clear ey hcast
              obtain ⟨A, hA2⟩ : ∃ A, A = decide (((m : Int), Y) ∈ cs) := ⟨_, rfl⟩
              obtain ⟨C, hC2⟩ : ∃ C, C = decide (((m : Int), Y + 1) ∈ cs) := ⟨_, rfl⟩
              have qa : ∀ u, Gw wo u → Calls Try.prog 16 #[.int .i64 (m : Int), .int .i64 Y, .pointer (some ⟨w.heap.size, 0, none⟩)] u fun e w' => e = .returned (.bool A) ∧ Gw u w' := fun u hu => by rw [hA2]; exact HIS.out u hu (m : Int) Y
              have qb : ∀ u, Gw wo u → Calls Try.prog 16 #[.int .i64 (m : Int), .int .i64 (Y + 1), .pointer (some ⟨w.heap.size, 0, none⟩)] u fun e w' => e = .returned (.bool C) ∧ Gw u w' := fun u hu => by rw [hC2]; exact HIS.out u hu (m : Int) (Y + 1)
              have QA := Lib.hid qa
              have QB := Lib.hid qb
              have HdA := Lib.hid hA2
              have HdC := Lib.hid hC2
              have hdst : Hid (down cs Y R0 = if ((m : Int), Y) ∈ cs ∧ ((m : Int), Y + 1) ∈ cs then down cs Y m else (m : Int)) := hdn.out
              clear qa qb hA2 hC2
              cases A with
              | true =>
                have ha : ((m : Int), Y) ∈ cs := of_decide_eq_true HdA.out.symm
                have Ha := Lib.hid ha
                clear ha
                go_wp2_with fail
                refine (QA.out _ Gz.out).mono ?_
                rintro e u2 ⟨rfl, g2⟩
                have Gz2 := Lib.hid (Gz.out.trans g2)
                have gv2 := Lib.hid (gz.out.trans g2)
                have y2 := EY.out u2 gv2.out
                clear g2
                go_wp2_with fail
                refine (QB.out _ Gz2.out).mono ?_
                rintro e u3 ⟨rfl, g3⟩
                have Gz3 := Lib.hid (Gz2.out.trans g3)
                have gv3 := Lib.hid (gv2.out.trans g3)
                have y3 := EY.out u3 gv3.out
                clear g3
                cases C with
                | true =>
                  have hc2 : ((m : Int), Y + 1) ∈ cs := of_decide_eq_true HdC.out.symm
                  have Hd2 := Lib.hid (hdst.out.trans (if_pos ⟨Ha.out, hc2⟩))
                  clear hc2
                  go_wp2_with fail
                  go_roundg m
                  case measure => omega
                  case rel => exact ⟨m, rfl, by omega, rfl, gv3.out, Hd2.out⟩
                | false =>
                  have hc2 : ((m : Int), Y + 1) ∉ cs := of_decide_eq_false HdC.out.symm
                  have hd2 := hdst.out.trans (if_neg fun h => hc2 h.2)
                  have hmv : Hid (moveB cs k = []) := moveB_b Hxe.out (.inr (.inl (by show (down cs Y R0, Y) ∈ cs; rw [hd2]; exact Ha.out)))
                  clear hc2 hd2
                  go_wp2_with fail
                  refine (QA.out _ Gz3.out).mono ?_
                  rintro e u4 ⟨rfl, g4⟩
                  have Gz4 := Lib.hid (Gz3.out.trans g4)
                  clear g4
                  go_wp2_with fail
                  go_roundg (N - (k + 1))
                  case measure => omega
                  case rel =>
                    obtain ⟨r1, r2, r3, r4⟩ := HC.out _ Gz4.out (hmv.out)
                    exact ⟨k + 1, by omega, rfl, by go_num, r1, r2, r3, r4⟩

              | false =>
                have ha : ((m : Int), Y) ∉ cs := of_decide_eq_false HdA.out.symm
                have hd2 := hdst.out.trans (if_neg fun h => ha h.1)
                have Ha := Lib.hid ha
                have Hd2 := Lib.hid hd2
                clear ha hd2
                go_wp2_with fail
                refine (QA.out _ Gz.out).mono ?_
                rintro e u2 ⟨rfl, g2⟩
                have Gz2 := Lib.hid (Gz.out.trans g2)
                have gv2 := Lib.hid (gz.out.trans g2)
                have y2 := EY.out u2 gv2.out
                clear g2
                go_wp2_with fail
                refine (QA.out _ Gz2.out).mono ?_
                rintro e u3 ⟨rfl, g3⟩
                have Gz3 := Lib.hid (Gz2.out.trans g3)
                have gv3 := Lib.hid (gv2.out.trans g3)
                have y3 := EY.out u3 gv3.out
                clear g3
                go_wp2_with fail
                refine (QB.out _ Gz3.out).mono ?_
                rintro e u4 ⟨rfl, g4⟩
                have Gz4 := Lib.hid (Gz3.out.trans g4)
                have gv4 := Lib.hid (gv3.out.trans g4)
                have y4 := EY.out u4 gv4.out
                clear g4
                cases C with
                | true =>
                  have hc2 : ((m : Int), Y + 1) ∈ cs := of_decide_eq_true HdC.out.symm
                  have hmv : Hid (moveB cs k = []) := moveB_b Hxe.out (.inr (.inr (by show (down cs Y R0, Y + 1) ∈ cs; rw [Hd2.out]; exact hc2)))
                  clear hc2
                  go_wp2_with fail
                  go_roundg (N - (k + 1))
                  case measure => omega
                  case rel =>
                    obtain ⟨r1, r2, r3, r4⟩ := HC.out _ Gz4.out (hmv.out)
                    exact ⟨k + 1, by omega, rfl, by go_num, r1, r2, r3, r4⟩

                | false =>
                  have hc2 : ((m : Int), Y + 1) ∉ cs := of_decide_eq_false HdC.out.symm
                  have hmv : Hid (moveB cs k = [srtC (cs.set k ((m : Int), Y + 1))]) := by
                    have := moveB_c Hxe.out HA.out (by
                      show ¬ (down cs Y R0 < 0 ∨ (down cs Y R0, Y) ∈ cs ∨ (down cs Y R0, Y + 1) ∈ cs)
                      rw [Hd2.out]
                      rintro (h | h | h)
                      · omega
                      · exact Ha.out h
                      · exact hc2 h)
                    change moveB cs k = [srtC (cs.set k (down cs Y R0, Y + 1))] at this
                    rw [Hd2.out] at this
                    exact this
                  have hb4 := HBX.out u4 Gz4.out
                  have hcl := cloneC_any (.slice (some ⟨b, 0, none⟩) N cap) cs u4 ((H.out.below hbr.out).below Gz4.out.below) (by rw [← HN.out]; omega)
                  have HCL := Lib.hid hcl
                  clear hc2 hcl
                  go_wp2_with fail
                  refine HCL.out.mono ?_
                  rintro e u5 ⟨d, rfl, od, bd⟩
                  obtain ⟨pd, kd, rfl, hdk, hdm⟩ := od.shape
                  have Od := Lib.hid od
                  have Bd := Lib.hid bd
                  obtain ⟨pd', kd', ed, _, hdc⟩ := od.rd
                  injection ed with ed1 ed2 ed3
                  subst ed1
                  obtain ⟨gd, rfl, hdc2⟩ := hdc (by omega)
                  obtain ⟨f1, f2⟩ := hdc2 k hkc
                  have ff := fun j => od.free (by omega) j
                  have y5 : u5.cell? ⟨wo.heap.size, 1, none⟩ = some (.int .i64 Y) := by rw [bd.cell (World.block_lt_of_cell? u4 _ y4)]; exact y4
                  obtain ⟨q1, hq1⟩ : ∃ q, q = (cs.getD k (0, 0)).1 := ⟨_, rfl⟩
                  obtain ⟨q2, hq2⟩ : ∃ q, q = (cs.getD k (0, 0)).2 := ⟨_, rfl⟩
                  rw [← hq1] at f1
                  rw [← hq2] at f2
                  have ff1 := ff (k * 2)
                  have ff2 := ff (k * 2 + 1)
                  unfold maxLen at hdm
                  clear hdc hdc2 ff hq1 hq2 ed2 ed3 od bd
                  go_wp2_with fail
                  have hos := Od.out.set hkc (m : Int) (Y + 1)
                  have hgd := Od.out.blocks gd rfl
                  have hokd := okD_set (d := cs) Hok.out (k := k) (c := ((m : Int), Y + 1)) ⟨by dsimp only; omega, by dsimp only; omega, by dsimp only; omega, by dsimp only; omega⟩
                  have Hfr5 := Lib.hid (((Frm.refl u4.heap.size u5.heap.size u5).setCell (p := ⟨gd, k * 2, none⟩) hgd.1 hgd.2 (.int .i64 (m : Int))).setCell (p := ⟨gd, k * 2 + 1, none⟩) hgd.1 hgd.2 (.int .i64 (Y + 1)))
                  have hS := sortG_any _ _ _ _ _ hos hokd
                  have HS := Lib.hid hS
                  clear hS
                  refine HS.out.mono ?_
                  rintro e u6 ⟨rfl, os6, fr6⟩
                  have hfr6 := Hfr5.out.trans fr6
                  have hb6 := Bd.out.trans (hfr6.below (Nat.le_refl _) Bd.out.size)
                  have s46 := hb6.size
                  have s56 : u5.heap.size ≤ u6.heap.size := hfr6.size
                  have s45 := Bd.out.size
                  have s04 := Gz4.out.below.size
                  have hb06 := Gz4.out.below.trans (hb6.mono s04)
                  have HOr := Lib.hid (hor.out.below hb06)
                  obtain ⟨f5, g51, g52⟩ := hor.out.below hb06
                  have G51 := Lib.hid (fun o => g51.below (below_alloc u6 o))
                  have G52 := Lib.hid (fun o i hi => (g52 i hi).below (below_alloc u6 o))
                  have Os6 := Lib.hid (fun o => os6.below (below_alloc u6 o))
                  have Hb06 := Lib.hid hb06
                  have hml := movesTo_len cs k
                  have hkN : k ≤ 20 := by omega
                  obtain ⟨M, hM⟩ : ∃ M, M = (movesTo cs k).length := ⟨_, rfl⟩
                  have HM := Lib.hid hM
                  rw [← hM] at hl5 hml
                  rw [← hM] at G51 G52
                  have Hb1' := Lib.hid (show M + 1 ≤ maxLen by unfold maxLen; omega)
                  have Hb2' := Lib.hid (show (M + 1) * 24 ≤ 140737488355328 by omega)
                  rw [← hM]
                  clear hos hokd os6 fr6 hfr6 hb6 hb06 g51 g52 hM f1 f2 ff1 ff2
                  go_wp2_with (at_builtin; go_must (refine wpList_append_F rfl (.tmp 83) (.tmp 85) 29 rfl 27 (.slice none 0 0) 24 Try.underlying29 info_slC rfl (w.heap.size + 1) wo.heap.size _ M f5 rfl (G51.out _) (by simp; omega) (by simp; omega) _ _ _ rfl (rd_one _ _ _ rfl) (fun j _ => rfl) Hb1'.out Hb2'.out ?_; intro v' w' ho' hg'))
                  have hs7 := hg'.size
                  simp only [size_alloc] at hs7
                  have hb7 := (Hb06.out.mono (show w.heap.size + 1 ≤ wo.heap.size by omega)).trans (((below_alloc u6 (.cells #[.slice (some ⟨gd, 0, none⟩) cs.length kd] 27)).mono (by omega)).trans (grownBy_below hg' (G51.out B).blocks (Nat.le_refl _) (by simp; omega)))
                  go_roundg (N - (k + 1))
                  case measure => omega
                  case rel =>
                    refine ⟨k + 1, by omega, rfl, by go_num, hbr.out.trans (hb7.mono (by omega)), ?_, by omega, ?_⟩
                    · show w'.cell? _ = _
                      rw [hb7.cell (by show w.heap.size < w.heap.size + 1; omega)]
                      exact hzr.out
                    · show OwnD w' _ _ v' (movesTo cs (k + 1))
                      rw [movesTo_succ, hmv.out]
                      refine OwnD.join (mid := wo.heap.size) (lo2 := u4.heap.size) (hi2 := u5.heap.size) (f := f5) (g := fun _ => .slice (some ⟨gd, 0, none⟩) cs.length kd) (by rw [← HM.out]; exact G51.out _) (by rw [← HM.out]; exact G52.out _) ?_ (by omega) (by omega) (by omega) hg' ?_
                      · intro i hi
                        obtain rfl : i = 0 := by simpa using hi
                        exact Os6.out _
                      · rw [← HM.out]
                        exact ho'
      · obtain rfl : k = N := by omega
        have hkz : ¬ ((k : Int) < (k : Int)) := by omega
        have hoo := hor.out
        rw [HN.out] at hoo
        have HI := Lib.hid (inOrder_any _ _ _ _ wo hoo (movesTo_ok Hdr.out Hok.out))
        have hml := movesTo_len cs cs.length
        obtain ⟨p5, k5, rfl, hl5, _⟩ := hor.out.shape
        clear hoo
        go_wp2_with fail
        refine HI.out.mono ?_
        rintro e w2 ⟨u, rfl, hd2, hf2⟩
        obtain ⟨p6, k6, rfl, _, _⟩ := hd2.shape
        have Hd2 := Lib.hid hd2
        have Hf2 := Lib.hid hf2
        have hs2 := hf2.size
        clear hd2 hf2
        go_wp2_with fail
        go_ret
        exact ⟨_, rfl, by rw [Hm.out]; exact Hd2.out.mono (by omega) hs2, hbr.out.trans (Hf2.out.below (by omega) (by omega))⟩

end Go.Proofs.Ytcbjcmhnlakgbaa

namespace Go.Proofs.Ytcbjcmhnlakgbaa
set_option linter.all false
open Go.RowKit

theorem blk3 {w : World} {b : Nat} {x0 x1 x2 : Value} {T : TypeId} (h : w.heap[b]? = some (.cells #[x0, x1, x2] T (0, 0))) :
    w.cell? ⟨b, 0, none⟩ = some x0 ∧ w.cell? ⟨b, 1, none⟩ = some x1 ∧ w.cell? ⟨b, 2, none⟩ = some x2 ∧ (∀ j, w.frozen? ⟨b, j, none⟩ = false) ∧ b < w.heap.size :=
  ⟨cell_of_blk h rfl, cell_of_blk h rfl, cell_of_blk h rfl, free_of_blk h, (Array.getElem?_eq_some_iff.1 h).1⟩

theorem and255 (x : Int) : 0 ≤ bits .and .i64 x 255 ∧ bits .and .i64 x 255 ≤ 255 := by
  have h1 : (BitVec.ofInt 64 x).toNat &&& 255 < 2 ^ 8 := Nat.and_lt_two_pow _ (by decide)
  have e : bits .and .i64 x 255 = IntKind.i64.wrap (((BitVec.ofInt 64 x).toNat &&& 255 : Nat) : Int) := by
    simp only [bits, BitVec.toNat_and]
    rfl
  have e2 : IntKind.i64.wrap (((BitVec.ofInt 64 x).toNat &&& 255 : Nat) : Int) = (((BitVec.ofInt 64 x).toNat &&& 255 : Nat) : Int) := k64 (by omega) (by omega)
  rw [e, e2]
  omega

/-- bytes that can be read -/
def Byts (w : World) (v : Value) (n : Nat) : Prop := ∃ f : Nat → Int, Rd w v n fun j => .int .u8 (f j)
theorem Byts.below {w w' : World} {v : Value} {n : Nat} (h : Byts w v n) (hb : Below w.heap.size w w') : Byts w' v n := by
  obtain ⟨f, h⟩ := h
  exact ⟨f, h.below hb⟩

theorem Byts.frm {w w' : World} {p : Option Addr} {n cap k : Nat} (h : Byts w (.slice p n cap) n) (hf : Frm k (k + 1) w w') (hne : 0 < n → ∀ a, p = some a → a.block < k) : Byts w' (.slice p n cap) n := by
  obtain ⟨f, p', cap', e, hm, hx⟩ := h
  injection e with e1 _ e3
  subst e1 e3
  refine ⟨f, p, cap, rfl, hm, fun h0 => ?_⟩
  obtain ⟨b, off, hp, hc⟩ := hx h0
  refine ⟨b, off, hp, fun j hj => ?_⟩
  have hb := World.block_lt_of_cell? w _ (hc j hj)
  have h1 := hne h0 _ hp
  rw [World.cell?_of_block (w := w) (hf.block b hb (by dsimp only at h1; omega))]
  exact hc j hj

/-- the cursor in block k -/
def Cur (w : World) (k : Nat) : Prop :=
  ∃ (p : Option Addr) (n cap i : Nat) (h : Int), w.heap[k]? = some (.cells #[.slice p n cap, .int .i64 (i : Int), .int .i64 h] 54 (0, 0)) ∧ i ≤ n ∧ Byts w (.slice p n cap) n ∧ (0 < n → ∀ a, p = some a → a.block < k)
theorem Cur.lt {w : World} {k : Nat} (h : Cur w k) : k < w.heap.size := by
  obtain ⟨_, _, _, _, _, h, _⟩ := h
  exact blk_lt h
theorem Cur.keepB {w w' : World} {k B : Nat} (h : Cur w k) (hb : Below B w w') (hB : k < B) : Cur w' k := by
  have hk := h.lt
  obtain ⟨p, n, cap, i, x, h1, h2, ⟨f, p', cap', e, hm, h3⟩, h4⟩ := h
  injection e with e1 _ e3
  subst e1 e3
  refine ⟨p, n, cap, i, x, by rw [hb.block k hB]; exact h1, h2, ⟨f, p, cap, rfl, hm, fun h0 => ?_⟩, h4⟩
  obtain ⟨b, off, hp, hc⟩ := h3 h0
  have hlt := h4 h0 _ hp
  dsimp only at hlt
  exact ⟨b, off, hp, fun j hj => by rw [World.cell?_of_block (w := w) (hb.block b (by omega))]; exact hc j hj⟩
theorem Frm.thenB {lo hi B : Nat} {a b c : World} (h : Frm lo hi a b) (hb : Below B b c) (hB : a.heap.size ≤ B) : Frm lo hi a c :=
  ⟨hb.os.trans h.os, hb.tape.trans h.tape, hb.output.trans h.output, Nat.le_trans h.size hb.size, fun k hk ho => (hb.block k (by omega)).trans (h.block k hk ho)⟩
theorem OwnI.setOther {T : TypeId} {w : World} {lo hi : Nat} {v : Value} {xs : List Int} (h : OwnI T w lo hi v xs) {a : Addr} (hne : v.ownBlock ≠ some a.block) (u : Value) : OwnI T (w.setCell a u) lo hi v xs :=
  ⟨ownsRow_of_block h.1 fun b hb => Below.heap_setCell _ _ _ _ fun e => hne (by rw [hb, e]), h.2⟩
theorem Cur.below {w w' : World} {k : Nat} (h : Cur w k) (hb : Below w.heap.size w w') : Cur w' k := by
  obtain ⟨p, n, cap, i, x, h1, h2, h3, h4⟩ := h
  exact ⟨p, n, cap, i, x, blk_later h1 hb, h2, h3.below hb, h4⟩

set_option maxRecDepth 100000 in
set_option maxHeartbeats 2000000 in
theorem l1Byte_any (k : Nat) (w : World) (h : Cur w k) :
    Calls Try.prog 29 #[.pointer (some ⟨k, 0, none⟩)] w fun e w' => ∃ x : Int, e = .returned (.int .i64 x) ∧ 0 ≤ x ∧ x ≤ 255 ∧ Cur w' k ∧ Frm k (k + 1) w w' := by
  obtain ⟨p, n, cap, i, x, h1, h2, ⟨f, h3⟩, h4⟩ := h
  obtain ⟨c0, c1, c2, cf, cz⟩ := blk3 h1
  obtain ⟨_, _, e, ⟨hx1, hx2⟩, hxc⟩ := h3
  injection e with e1 e2 e3
  subst e1 e3
  unfold maxLen at hx2
  have Hxc := Lib.hid hxc
  clear hxc e2
  go_enter Try.func29, Try.ntmps29
  go_wp2_with fail
  go_quiet (fail)
  obtain ⟨X, hX⟩ : ∃ X, X = wrap64 (wrap64 (x * 6364136223846793005) + 1442695040888963407) := ⟨_, rfl⟩
  rw [← hX]
  obtain ⟨Y, hY⟩ : ∃ Y, Y = bits BinOp.and IntKind.i64 (bits BinOp.xor IntKind.i64 (X / 8589934592) (X / 35184372088832)) 255 := ⟨_, rfl⟩
  rw [← hY]
  have hY2 := and255 (bits BinOp.xor IntKind.i64 (X / 8589934592) (X / 35184372088832))
  rw [← hY] at hY2
  clear hX hY
  have hf2 : Frm k (k + 1) w ((w.setCell ⟨k, 2, none⟩ (.int .i64 X)).drewN nq) := ((Frm.refl k (k + 1) w).setCell (Nat.le_refl _) (Nat.lt_succ_self _) _).drewN nq
  have hh2 : ((w.setCell ⟨k, 2, none⟩ (.int .i64 X)).drewN nq).heap[k]? = some (.cells #[.slice p n cap, .int .i64 (i : Int), .int .i64 X] 54 (0, 0)) := heap_setCell_at h1 2 _
  have hB2 : Byts ((w.setCell ⟨k, 2, none⟩ (.int .i64 X)).drewN nq) (.slice p n cap) n := Byts.frm ⟨f, _, _, rfl, ⟨hx1, by unfold maxLen; omega⟩, Hxc.out⟩ hf2 h4
  generalize (w.setCell ⟨k, 2, none⟩ (.int .i64 X)).drewN nq = w2 at *
  clear c0 c1 c2 cf cz Hxc f
  obtain ⟨c0, c1, c2, cf, cz⟩ := blk3 hh2
  have HB2 := Lib.hid hB2
  have Hf2 := Lib.hid hf2
  obtain ⟨f, p', cap', e, _, hxc⟩ := hB2
  injection e with e1 _ e3
  subst e1 e3
  clear hf2
  by_cases hlt : i < n
  · obtain ⟨b, off, rfl, hc⟩ := hxc (by omega)
    have cb := hc i hlt
    have hlt2 : (i : Int) < (n : Int) := by omega
    clear hxc hc
    go_wp2_with fail
    go_quiet (fail)
    go_wp2_with fail
    go_quiet (fail)
    obtain ⟨Z, hZ⟩ : ∃ Z, Z = bits BinOp.and IntKind.i64 (wrap64 (Y + wrap64 (f i))) 255 := ⟨_, rfl⟩
    rw [← hZ]
    have hZ2 := and255 (wrap64 (Y + wrap64 (f i)))
    rw [← hZ] at hZ2
    clear hZ
    have hcast : (i : Int) + 1 = ((i + 1 : Nat) : Int) := by omega
    have Hcast := Lib.hid hcast
    clear hcast
    go_wp2_with fail
    go_ret
    rw [Hcast.out]
    refine ⟨Z, rfl, hZ2.1, hZ2.2, ⟨_, n, cap, i + 1, X, by exact heap_setCell_at hh2 1 _, by omega, ?_, h4⟩, ?_⟩
    · exact HB2.out.frm (k := k) (Frm.setCell ((Frm.refl k (k + 1) w2).drewN _) (Nat.le_refl k) (Nat.lt_succ_self k) _) h4
    · exact Frm.setCell (Hf2.out.drewN _) (Nat.le_refl k) (Nat.lt_succ_self k) _
  · have hlt2 : ¬ (i : Int) < (n : Int) := by omega
    clear hxc
    go_wp2_with fail
    go_quiet (fail)
    go_wp2_with fail
    go_ret
    exact ⟨Y, rfl, hY2.1, hY2.2, ⟨p, n, cap, i, X, hh2, h2, HB2.out.frm (k := k) ((Frm.refl k (k + 1) w2).drewN _) h4, h4⟩, Hf2.out.drewN _⟩

set_option maxRecDepth 100000 in
set_option maxHeartbeats 2000000 in
/-- a number from 0 to m - 1, where m is not great -/
theorem l1Below_any (k m : Nat) (w : World) (h : Cur w k) (h0 : 1 ≤ m) (hm : m ≤ 256) :
    Calls Try.prog 11 #[.pointer (some ⟨k, 0, none⟩), .int .i64 (m : Int)] w fun e w' => ∃ x : Nat, e = .returned (.int .i64 (x : Int)) ∧ x < m ∧ Cur w' k ∧ Frm k (k + 1) w w' := by
  have Hc := Lib.hid h
  clear h
  go_enter Try.func11, Try.ntmps11
  go_wp2_with fail
  refine (l1Byte_any k _ Hc.out).mono ?_
  rintro e w1 ⟨x, rfl, hx0, hx1, hc1, hf1⟩
  obtain ⟨X, rfl⟩ := Int.eq_ofNat_of_zero_le hx0
  have Hc1 := Lib.hid hc1
  have Hf1 := Lib.hid hf1
  clear hc1 hf1
  go_wp2_with fail
  go_ret
  exact ⟨X % m, ret_int (Int.natCast_emod X m).symm, Nat.mod_lt _ (by omega), Hc1.out, Hf1.out⟩

end Go.Proofs.Ytcbjcmhnlakgbaa

namespace Go.Proofs.Ytcbjcmhnlakgbaa
set_option linter.all false
open Go.RowKit

theorem cur_new {w : World} {p : Option Addr} {n cap : Nat} (x : Int) (h : Byts w (.slice p n cap) n) : Cur (w.alloc (.cells #[.slice p n cap, .int .i64 0, .int .i64 x] 54)) w.heap.size := by
  have h' := h
  obtain ⟨f, p', cap', e, _, hx⟩ := h'
  injection e with e1 _ e3
  subst e1 e3
  refine ⟨p, n, cap, 0, x, heap_alloc_top _ _, Nat.zero_le _, h.below (below_alloc _ _), fun h0 a ha => ?_⟩
  obtain ⟨b, off, e, hc⟩ := hx h0
  rw [e] at ha
  injection ha with ha
  subst ha
  have := World.block_lt_of_cell? _ _ (hc 0 h0)
  dsimp only at this ⊢
  omega

set_option maxRecDepth 100000 in
set_option maxHeartbeats 2000000 in
theorem l1New_any (v : Value) (n : Nat) (w : World) (h : Byts w v n) :
    Calls Try.prog 10 #[v] w fun e w' => e = .returned (.pointer (some ⟨w.heap.size, 0, none⟩)) ∧ Cur w' w.heap.size ∧ Below w.heap.size w w' := by
  have Hh := Lib.hid h
  obtain ⟨f, p, cap, rfl, ⟨hx1, hx2⟩, hxc⟩ := h
  unfold maxLen at hx2
  have Hxc := Lib.hid hxc
  clear hxc
  go_enter Try.func10, Try.ntmps10
  go_wp2_with fail
  go_loopg [3, 4] n (fun g s3 s4 wr => ∃ (k : Nat) (x : Int), k ≤ n ∧ g = n - k ∧ s3 = .int .i64 x ∧ s4 = .int .i64 k ∧ wr = w)
  case atStart => exact ⟨0, _, Nat.zero_le _, rfl, rfl, rfl, rfl⟩
  case round =>
    obtain ⟨k, x, hk, rfl, rfl, rfl, rfl⟩ := hrel
    by_cases hlt : k < n
    · by_cases h4 : k < 4000
      · obtain ⟨b, off, rfl, hc⟩ := Hxc.out (by omega)
        have c1 := hc k hlt
        have i1 : (k : Int) < (n : Int) := by omega
        have i2 : (k : Int) < 4000 := by omega
        clear hc
        go_wp2_with fail
        go_roundg (n - (k + 1))
        case measure => omega
        case rel => exact ⟨k + 1, _, by omega, rfl, rfl, by go_num, rfl⟩
      · have i1 : (k : Int) < (n : Int) := by omega
        have i2 : ¬ (k : Int) < 4000 := by omega
        go_wp2_with fail
        go_ret
        exact ⟨rfl, cur_new x Hh.out, below_alloc _ _⟩
    · have i1 : ¬ (k : Int) < (n : Int) := by omega
      go_wp2_with fail
      go_ret
      exact ⟨rfl, cur_new x Hh.out, below_alloc _ _⟩

end Go.Proofs.Ytcbjcmhnlakgbaa

namespace Go.Proofs.Ytcbjcmhnlakgbaa
set_option linter.all false
open Go.RowKit

/-- all codes of m places -/
def codes : Nat → List (List Nat)
  | 0 => [[]]
  | m + 1 => (List.range (m + 1)).flatMap fun x => (codes m).map (x :: ·)
theorem mem_codes : ∀ (m : Nat) (c : List Nat), c.length = m → (∀ j, j < m → c.getD j 0 < m - j) → c ∈ codes m
  | 0, c, hl, _ => by
    obtain rfl := List.eq_nil_of_length_eq_zero hl
    simp [codes]
  | m + 1, [], hl, _ => by simp at hl
  | m + 1, x :: c, hl, h => by
    have h0 := h 0 (by omega)
    have ih := mem_codes m c (by simpa using hl) fun j hj => by
      have := h (j + 1) (by omega)
      simp at this ⊢
      omega
    unfold codes
    refine List.mem_flatMap.2 ⟨x, by simpa using h0, List.mem_map.2 ⟨c, ih, rfl⟩⟩
theorem decL_ok {n : Nat} (h1 : 1 ≤ n) (h5 : n ≤ 5) (c : List Nat) (hl : c.length = n) (h : ∀ j, j < n → c.getD j 0 < n - j) : permOk (decL n c) = true ∧ (decL n c).length = n := by
  have hc := mem_codes n c hl h
  have key : ∀ c ∈ codes n, permOk (decL n c) = true ∧ (decL n c).length = n := by
    have : n = 1 ∨ n = 2 ∨ n = 3 ∨ n = 4 ∨ n = 5 := by omega
    rcases this with rfl | rfl | rfl | rfl | rfl <;> decide +kernel
  exact key c hc

set_option maxRecDepth 100000 in
set_option maxHeartbeats 2000000 in
/-- any permutation of n -/
theorem dPerm_any (k n : Nat) (w : World) (h : Cur w k) (h1 : 1 ≤ n) (h5 : n ≤ 5) :
    Calls Try.prog 12 #[.pointer (some ⟨k, 0, none⟩), .int .i64 (n : Int)] w fun e w' =>
      ∃ (u : Value) (xs : List Int), e = .returned u ∧ OwnI 3 w' w.heap.size w'.heap.size u xs ∧ permOk xs = true ∧ xs.length = n ∧ Cur w' k ∧ Frm k (k + 1) w w' := by
  have Hc := Lib.hid h
  have hk := h.lt
  clear h
  go_enter Try.func12, Try.ntmps12
  go_wp2_with fail
  go_loopg [5, 6] n (fun g s5 s6 wr => ∃ (i : Nat) (cs : List Nat), i ≤ n ∧ g = n - i ∧ s6 = .int .i64 i ∧ cs.length = i ∧ Hid (∀ j, j < i → cs.getD j 0 < n - j) ∧ Hid (OwnI 3 wr w.heap.size wr.heap.size s5 (cs.map Int.ofNat)) ∧ Hid (Cur wr k) ∧ Hid (Frm k (k + 1) w wr))
  case atStart =>
    refine ⟨0, [], Nat.zero_le _, rfl, rfl, rfl, fun j hj => absurd hj (Nat.not_lt_zero _), ?_, Hc.out.below (below_alloc w _), Frm.of_below (below_alloc w _) _ _⟩
    exact OwnF.ints ((OwnF.made0 w 3 (iv [])).mono (Nat.le_refl _) (by simp))
  case round =>
    obtain ⟨i, cs, hi, rfl, rfl, hcl, hcd, ho, hcu, hf⟩ := hrel
    have hsr := hf.out.size
    by_cases hlt : i < n
    · have hlt2 : (i : Int) < (n : Int) := by omega
      have hsub : (n : Int) - (i : Int) = ((n - i : Nat) : Int) := by omega
      have Hsub := Lib.hid hsub
      obtain ⟨p5, k5, rfl, _, _⟩ := ho.out.shape
      have hofn := ho.out.fn
      have hml : (cs.map Int.ofNat).length = i := by rw [List.length_map, hcl]
      rw [hml] at hofn ⊢
      have Ho := Lib.hid hofn
      have Hml := Lib.hid hml
      have Hcl := Lib.hid hcl
      have Hcd := Lib.hid hcd.out
      have Hcu := Lib.hid hcu.out
      have Hf := Lib.hid hf.out
      have Hb1 := Lib.hid (show i + 1 ≤ maxLen by unfold maxLen; omega)
      have Hb2 := Lib.hid (show (i + 1) * 8 ≤ 140737488355328 by omega)
      clear hsub ho hofn hml hcl hcd hcu hf
      go_wp2_with fail
      rw [Hsub.out]
      refine (l1Below_any k (n - i) _ Hcu.out (by omega) (by omega)).mono ?_
      rintro e w1 ⟨x, rfl, hx, hc1, hf1⟩
      have hs1 := hf1.size
      have Ho1 := Lib.hid (Ho.out.frm hf1 (Or.inr (by omega)))
      have Hc1 := Lib.hid hc1
      have Hf1 := Lib.hid (Hf.out.trans hf1)
      clear hc1 hf1
      go_wp2_with (at_builtin; go_must (refine wpList_append_F rfl (.tmp 13) (.tmp 19) 24 rfl 3 (.int .i64 0) 8 Try.underlying24 info_int rfl w.heap.size wr.heap.size _ i (iv (cs.map Int.ofNat)) rfl (Ho1.out.below (below_alloc w1 _)) (by rw [size_alloc]; omega) (by rw [size_alloc]; omega) _ 1 _ rfl (rd_one _ _ _ rfl) (fun j _ => rfl) Hb1.out Hb2.out ?_; intro v2 w2 ho2 hg2))
      go_roundg (n - (i + 1))
      case measure => omega
      case rel =>
        have hbx : Below w.heap.size w1 w2 := ((below_alloc w1 _).mono (by omega)).trans (grownBy_below hg2 Ho1.out.blocks (Nat.le_refl _) (by rw [size_alloc]; omega))
        refine ⟨i + 1, cs ++ [x], by omega, rfl, by go_num, by rw [List.length_append, Hcl.out]; rfl, fun j hj => ?_, ?_, Hc1.out.keepB hbx hk, Hf1.out.thenB hbx (Nat.le_refl _)⟩
        · by_cases e : j < i
          · have := Hcd.out j e
            rwa [List.getD_eq_getElem?_getD, List.getElem?_append_left (by rw [Hcl.out]; exact e), ← List.getD_eq_getElem?_getD]
          · obtain rfl : j = i := by omega
            rw [List.getD_eq_getElem?_getD, List.getElem?_append_right (by rw [Hcl.out]; exact Nat.le_refl _), Hcl.out]
            simpa using hx
        · rw [List.map_append]
          exact OwnI.snoc1 (by rw [Hml.out]; exact ho2)
    · obtain rfl : i = n := by omega
      have hlt2 : ¬ (i : Int) < (i : Int) := by omega
      obtain ⟨p5, k5, rfl, _, _⟩ := ho.out.shape
      have hoi := ho.out.ints
      have hml : (cs.map Int.ofNat).length = i := by rw [List.length_map, hcl]
      rw [hml] at hoi ⊢
      have Ho := Lib.hid hoi
      have Hcl := Lib.hid hcl
      have Hcd := Lib.hid hcd.out
      have Hcu := Lib.hid hcu.out
      have Hf := Lib.hid hf.out
      clear ho hcl hcd hcu hf hoi hml
      go_wp2_with fail
      refine (specDecode_any _ cs _ Ho.out (by rw [Hcl.out]; omega) (fun x hx => ?_)).mono ?_
      · obtain ⟨j, hj, rfl⟩ := List.mem_iff_getElem.1 hx
        have := Hcd.out j (by rw [← Hcl.out]; exact hj)
        rw [List.getD_eq_getElem?_getD, List.getElem?_eq_getElem hj] at this
        simp at this
        omega
      · rintro e w1 ⟨u, rfl, ho1, hb1⟩
        obtain ⟨g1, g2⟩ := decL_ok h1 h5 cs Hcl.out Hcd.out
        rw [Hcl.out] at ho1
        have G1 := Lib.hid g1
        have G2 := Lib.hid g2
        have Ho1 := Lib.hid ho1
        have Hb1 := Lib.hid hb1
        clear g1 g2 ho1 hb1
        go_wp2_with fail
        go_ret
        exact ⟨u, _, rfl, Ho1.out.mono hsr (Nat.le_refl _), G1.out, G2.out, Hcu.out.below Hb1.out, Hf.out.thenB Hb1.out hsr⟩

end Go.Proofs.Ytcbjcmhnlakgbaa

namespace Go.Proofs.Ytcbjcmhnlakgbaa
set_option linter.all false
set_option maxRecDepth 100000
open Go.RowKit

set_option maxHeartbeats 2000000 in
theorem hasCells_any (v y : Value) (L : List Drm) (d : Drm) (w : World) (h : RdD w v L) (hy : RdC w y d) :
    Calls Try.prog 8 #[v, y] w fun e w' => e = .returned (.bool (decide (d ∈ L))) ∧ Qt w w' := by
  obtain ⟨f, h1, h2⟩ := h
  have H2 := Lib.hid h2
  obtain ⟨p, cap, rfl, ⟨hx1, hx2⟩, hxc⟩ := h1
  unfold maxLen at hx2
  have Hxc := Lib.hid hxc
  have Hy := Lib.hid hy
  obtain ⟨py, ly, cy, rfl⟩ := hy.sh
  clear hxc h2 hy
  go_enter Try.func8, Try.ntmps8
  go_wp2_with fail
  go_loopg [5] L.length (fun g s5 wr => ∃ k : Nat, k ≤ L.length ∧ g = L.length - k ∧ s5 = .int .i64 (k : Int) ∧ Qt w wr ∧ Hid (d ∉ L.take k))
  case atStart => exact ⟨0, Nat.zero_le _, rfl, rfl, Qt.refl _, by simp [Hid]⟩
  case round =>
    obtain ⟨k, hk, rfl, rfl, hq, hno⟩ := hrel
    by_cases hlt : k < L.length
    · obtain ⟨g, off, rfl, hc⟩ := Hxc.out (by omega)
      have c1 := hq.cell (hc k hlt)
      have q1 := lawCells_any (f k) _ (L.getD k []) d wr ((H2.out k hlt).qt hq) (Hy.out.qt hq)
      obtain ⟨p1, l1, k1, e1⟩ := (H2.out k hlt).sh
      have T1 := Lib.hid (takeD_snoc (d := ([] : Drm)) hlt)
      have hmem : L.getD k [] ∈ L := by
        have e : L.getD k [] = L[k] := by simp [List.getD_eq_getElem?_getD, hlt]
        rw [e]; exact List.getElem_mem hlt
      have Hmem := Lib.hid hmem
      rw [e1] at c1 q1
      clear hc e1 hmem
      by_cases e : L.getD k [] = d
      · rw [decide_eq_true e] at q1
        have Hm2 := Lib.hid (show decide (d ∈ L) = true from decide_eq_true (by rw [← e]; exact Hmem.out))
        have Q1 := Lib.hid q1
        clear e q1
        go_wp2_with fail
        refine Q1.out.mono ?_
        rintro e w1 ⟨rfl, hq1⟩
        go_wp2_with fail
        go_ret
        exact ⟨ret_bool Hm2.out.symm, hq.trans hq1⟩
      · rw [decide_eq_false e] at q1
        have hn : Hid (d ∉ L.take (k + 1)) := by
          show _ ∉ L.take (k + 1)
          rw [T1.out, List.mem_append]
          rintro (h | h)
          · exact hno.out h
          · simp only [List.mem_singleton] at h; exact e h.symm
        have Q1 := Lib.hid q1
        clear e q1
        go_wp2_with fail
        refine Q1.out.mono ?_
        rintro e w1 ⟨rfl, hq1⟩
        go_wp2_with fail
        go_roundg (L.length - (k + 1))
        case measure => omega
        case rel => exact ⟨k + 1, by omega, rfl, by go_num, hq.trans hq1, hn⟩
    · obtain rfl : k = L.length := by omega
      have hn := hno.out
      rw [List.take_of_length_le (Nat.le_refl _)] at hn
      have Hn := Lib.hid (show decide (d ∈ L) = false from decide_eq_false hn)
      clear hn
      go_wp2_with fail
      go_ret
      exact ⟨ret_bool Hn.out.symm, hq⟩

set_option maxHeartbeats 2000000 in
theorem DrawSmallPerms_any (v : Value) (l : Nat) (w : World) (h : Byts w v l) :
    Calls Try.prog 5 #[v] w fun e w' =>
      ∃ (u1 u2 u3 : Value) (xs : List Int), e = .returned (.tuple #[u1, u2, u3]) ∧ Ints w' u1 xs ∧ permOk xs = true ∧ 2 ≤ xs.length ∧ xs.length ≤ 4 ∧ (∃ p n c, u2 = .slice p n c) ∧ (∃ p n c, u3 = .slice p n c) ∧ Below w.heap.size w w' := by
  have Hh := Lib.hid h
  obtain ⟨_, _, cap, rfl, _⟩ := h
  go_enter Try.func5, Try.ntmps5
  go_wp2_with fail
  refine (l1New_any _ l _ Hh.out).mono ?_
  rintro e w2 ⟨rfl, hc2, hb2⟩
  have HC2 := Lib.hid hc2
  have HB2 := Lib.hid hb2
  have hk2 := hc2.lt
  clear hc2 hb2
  go_wp2_with fail
  refine (l1Below_any w.heap.size 3 _ HC2.out (by omega) (by omega)).mono ?_
  rintro e w3 ⟨m, rfl, hm, hc3, hf3⟩
  have HC3 := Lib.hid hc3
  have HB3 := Lib.hid (HB2.out.trans (hf3.below (Nat.le_refl _) (by omega)))
  have hs3 := hf3.size
  clear hc3 hf3
  have hmm : 2 + (m : Int) = ((m + 2 : Nat) : Int) := by omega
  obtain ⟨n, hn⟩ : ∃ n, n = m + 2 := ⟨_, rfl⟩
  rw [← hn] at hmm
  have Hmm := Lib.hid hmm
  have hn1 : 2 ≤ n := by omega
  have hn4 : n ≤ 4 := by omega
  clear hn hmm
  go_wp2_with fail
  rw [Hmm.out]
  refine (dPerm_any w.heap.size n _ HC3.out (by omega) (by omega)).mono ?_
  rintro e w4 ⟨u1, xs, rfl, ho1, hp1, hl1, hc4, hf4⟩
  have HX4 := Lib.hid ho1
  have HP1 := Lib.hid hp1
  have HL1 := Lib.hid hl1
  have HC4 := Lib.hid hc4
  have HB4 := Lib.hid (HB3.out.trans (hf4.below (Nat.le_refl _) (by omega)))
  have hs4 := hf4.size
  clear ho1 hp1 hl1 hc4 hf4
  go_wp2_with fail
  refine (dPerm_any w.heap.size n _ HC4.out (by omega) (by omega)).mono ?_
  rintro e w5 ⟨u2, ys, rfl, ho2, _, _, hc5, hf5⟩
  have HY5 := Lib.hid ho2
  have HC5 := Lib.hid hc5
  have HB5 := Lib.hid (HB4.out.trans (hf5.below (Nat.le_refl _) (by omega)))
  have HX5 := Lib.hid (HX4.out.frm hf5 (Or.inr (by omega)))
  have hs5 := hf5.size
  clear ho2 hc5 hf5
  go_wp2_with fail
  refine (dPerm_any w.heap.size n _ HC5.out (by omega) (by omega)).mono ?_
  rintro e w6 ⟨u3, zs, rfl, ho3, _, _, hc6, hf6⟩
  have HB6 := Lib.hid (HB5.out.trans (hf6.below (Nat.le_refl _) (by omega)))
  have HX6 := Lib.hid (HX5.out.frm hf6 (Or.inr (by omega)))
  obtain ⟨p1, k1, rfl, _, _⟩ := HX6.out.shape
  obtain ⟨p2, k2, rfl, _, _⟩ := HY5.out.shape
  obtain ⟨p3, k3, rfl, _, _⟩ := ho3.shape
  clear ho3 hc6 hf6
  go_wp2_with fail
  go_ret3
  exact ⟨_, _, _, xs, rfl, HX6.out.ints, HP1.out, by rw [HL1.out]; exact hn1, by rw [HL1.out]; exact hn4, ⟨_, _, _, rfl⟩, ⟨_, _, _, rfl⟩, HB6.out⟩

end Go.Proofs.Ytcbjcmhnlakgbaa

namespace Go.Proofs.Ytcbjcmhnlakgbaa
set_option linter.all false
set_option maxRecDepth 100000
open Go.RowKit

theorem botRow_take (w : List Int) (i j : Nat) : ((List.range (j + 1)).map fun (t : Nat) => ((i : Int), (t : Int))) = ((List.range j).map fun (t : Nat) => ((i : Int), (t : Int))) ++ [((i : Int), (j : Int))] := by
  rw [List.range_succ, List.map_append]
  rfl
theorem codeN_le (w : List Int) (i : Nat) : codeN w i ≤ w.length := by
  unfold codeN
  have := cdN_le w i (w.length - (i + 1))
  omega
theorem botTo_len (w : List Int) (i : Nat) : ((List.range i).flatMap (botRow w)).length ≤ i * w.length :=
  flatMap_len (botRow w) w.length (fun x => by unfold botRow; simp; exact codeN_le w x) i

set_option maxHeartbeats 2000000 in
theorem bottomDream_any (v : Value) (xs : List Int) (w : World) (h : Ints w v xs) (hp : permOk xs = true) (h4 : xs.length ≤ 4) :
    Calls Try.prog 6 #[v] w fun e w' => ∃ u, e = .returned u ∧ OwnC w' w.heap.size w'.heap.size u (botL xs) ∧ Below w.heap.size w w' := by
  have o1 := OwnC.made0 w
  have hI := implIsPerm_any v xs (w.alloc (.cells #[] 41)) (h.below (below_alloc w _))
  rw [hp] at hI
  have HI := Lib.hid hI
  have HC := Lib.hid (fun u (hu : Below w.heap.size w u) => implCode_any v xs u (h.below hu) hp)
  have O1 := Lib.hid o1
  obtain ⟨p, cap, rfl, ⟨hx1, hx2⟩, hxc⟩ := h
  unfold maxLen at hx2
  obtain ⟨N, hN⟩ : ∃ N, N = xs.length := ⟨_, rfl⟩
  have HN := Lib.hid hN
  rw [← hN] at hx1 h4 HI HC ⊢
  have h6 : ¬ (6 : Int) < (N : Int) := by omega
  have H6 := Lib.hid (eq_false h6)
  clear hxc hI o1 hN h6
  go_enter Try.func6, Try.ntmps6
  go_wp2_with fail
  refine HI.out.mono ?_
  rintro e w1 ⟨rfl, hb1⟩
  have hb1' := (below_alloc w (.cells #[] 41)).trans (hb1.mono (by simp))
  have HB1 := Lib.hid hb1'
  have O2 := Lib.hid (O1.out.below hb1)
  have hs1 := hb1.size
  simp only [size_alloc] at hs1
  have h6 : ¬ (6 : Int) < (N : Int) := by omega
  have h6' := H6.out
  clear hb1 hb1'
  go_wp2_with fail
  refine (HC.out w1 HB1.out).mono ?_
  rintro e w2 ⟨cv, rfl, hoc, hb2⟩
  obtain ⟨pc, kc, rfl, hck, hcm⟩ := hoc.shape
  rw [codeL_length, ← HN.out] at hck
  unfold maxLen at hcm
  have Hoc := Lib.hid hoc
  have HB2 := Lib.hid (HB1.out.trans (hb2.mono HB1.out.size))
  have O3 := Lib.hid (O2.out.below hb2)
  have hs2 := hb2.size
  rw [codeL_length, ← HN.out]
  clear hoc hb2
  go_wp2_with fail
  go_loopg [3, 4, 5, 6, 20, 26] N (fun g s3 s4 s5 s6 s20 s26 wr => ∃ i : Nat, i ≤ N ∧ g = N - i ∧ s20 = .int .i64 (i : Int) ∧ Hid (Below w.heap.size w wr) ∧ w.heap.size ≤ wr.heap.size ∧ Hid (OwnC wr w.heap.size wr.heap.size s3 ((List.range i).flatMap (botRow xs))) ∧ Hid (OwnI 3 wr w1.heap.size w2.heap.size (.slice pc N kc) (codeL xs)))
  case atStart =>
    refine ⟨0, Nat.zero_le _, rfl, rfl, HB2.out, by omega, O3.out.mono (Nat.le_refl _) (by omega), ?_⟩
    have := Hoc.out
    rw [codeL_length, ← HN.out] at this
    exact this
  case round =>
    obtain ⟨i, hi, rfl, rfl, hb, hsz, hout, hcd⟩ := hrel
    obtain ⟨wo, rfl⟩ : ∃ x : World, x = wr := ⟨_, rfl⟩
    by_cases hlt : i < N
    · obtain ⟨pc', kc', e, _, hcc⟩ := hcd.out.ints
      injection e with e1 e2 e3
      subst e1
      have hlc : i < (codeL xs).length := by rw [codeL_length, ← HN.out]; exact hlt
      obtain ⟨bc, off, rfl, hcc2⟩ := hcc (by omega)
      have c1 := hcc2 i hlc
      unfold iv at c1
      rw [codeL_getD (by rw [← HN.out]; exact hlt)] at c1
      obtain ⟨c, hc⟩ : ∃ c, c = codeN xs i := ⟨_, rfl⟩
      have hcle := codeN_le xs i
      rw [← hc, ← HN.out] at hcle
      rw [← hc] at c1
      have Hc := Lib.hid hc
      obtain ⟨p3, k3, rfl, _, _⟩ := hout.out.shape
      have hiz : (i : Int) < (N : Int) := by omega
      have hbl := botTo_len xs i
      rw [← HN.out] at hbl
      have hbl2 : i * N ≤ 16 := Nat.le_trans (Nat.mul_le_mul (show i ≤ 4 by omega) h4) (by decide)
      have Hbl := Lib.hid (Nat.le_trans hbl hbl2)
      have Hout := Lib.hid hout.out
      clear hcc hcc2 hc e2 e3 hbl hbl2 hlc
      go_wp2_with fail
      go_loopg [3, 6, 26] c (fun g s3 s6 s26 wz => ∃ j : Nat, j ≤ c ∧ g = c - j ∧ s26 = .int .i64 (j : Int) ∧ Hid (Below w.heap.size w wz) ∧ w.heap.size ≤ wz.heap.size ∧ Hid (OwnC wz w.heap.size wz.heap.size s3 ((List.range i).flatMap (botRow xs) ++ (List.range j).map fun (t : Nat) => ((i : Int), (t : Int)))) ∧ Hid (OwnI 3 wz w1.heap.size w2.heap.size (.slice (some ⟨bc, off, none⟩) N kc) (codeL xs)))
      case atStart => exact ⟨0, Nat.zero_le _, rfl, rfl, hb.out, hsz, by simpa [Hid] using hout.out, hcd.out⟩
      case round =>
        obtain ⟨j, hj, rfl, rfl, hbz, hsz2, ho2, hcd2⟩ := hrel
        by_cases hjl : j < c
        · obtain ⟨p4, k4, rfl, _, _⟩ := ho2.out.shape
          have Hlen := Lib.hid (show ((List.range i).flatMap (botRow xs) ++ (List.range j).map fun (t : Nat) => ((i : Int), (t : Int))).length + 1 ≤ 100000 by
            have := Hbl.out
            simp only [List.length_append, List.length_map, List.length_range]
            omega)
          have hjz : (j : Int) < (c : Int) := by omega
          have Oc := Lib.hid (fun o => ho2.out.below (below_alloc wr o))
          have Oi := Lib.hid (fun o => hcd2.out.below (below_alloc wr o))
          obtain ⟨K, hK⟩ : ∃ K, K = ((List.range i).flatMap (botRow xs) ++ (List.range j).map fun (t : Nat) => ((i : Int), (t : Int))) := ⟨_, rfl⟩
          have HK := Lib.hid hK
          rw [← hK] at Hlen Oc
          have z0 := heap_alloc_top wr (.cells #[.int .i64 (i : Int), .int .i64 (j : Int)] 41)
          have x1 := cell_of_blk z0 (j := 0) rfl
          have x2 := cell_of_blk z0 (j := 1) rfl
          have X1 := Lib.hid x1
          have X2 := Lib.hid x2
          rw [← hK]
          clear hK z0 x1 x2
          go_wp2_with (at_builtin; go_must (refine wpList_append_C rfl (.tmp 29) (.tmp 33) rfl w.heap.size wr.heap.size _ K rfl (Oc.out _) (by simp; omega) _ _ ((i : Int), (j : Int)) rfl X1.out X2.out Hlen.out ?_; intro v' w' ho' hg'))
          have hs7 := hg'.size
          simp only [size_alloc] at hs7
          go_roundg (c - (j + 1))
          case measure => omega
          case rel =>
            refine ⟨j + 1, by omega, rfl, by go_num, hbz.out.trans (((below_alloc wr (.cells #[.int .i64 (i : Int), .int .i64 (j : Int)] 41)).mono (by omega)).trans (grownBy_below hg' (Oc.out (.cells #[.int .i64 (i : Int), .int .i64 (j : Int)] 41)).blocks (Nat.le_refl _) (by simp; omega))), by omega, ?_, ?_⟩
            · show OwnC w' _ _ v' _
              rw [botRow_take xs, ← List.append_assoc, ← HK.out]
              exact ho'
            · have hci := Oi.out (.cells #[.int .i64 (i : Int), .int .i64 (j : Int)] 41)
              have hcc := Oc.out (.cells #[.int .i64 (i : Int), .int .i64 (j : Int)] 41)
              exact ⟨ownsRow_of_block hci.1 fun k hk => hg'.block k (Own.block hci hk).2.2 fun e => kinds_ne (hcc.kind k e.symm) (Lib.ownsRow_kind hci.1 k hk) (by decide), hci.2⟩
        · obtain rfl : j = c := by omega
          have hjz : ¬ ((j : Int) < (j : Int)) := by omega
          obtain ⟨p4, l4, k4, rfl⟩ := ho2.out.rd.sh
          have Ho2 := Lib.hid ho2.out
          go_wp2_with fail
          go_roundg (N - (i + 1))
          case measure => omega
          case rel =>
            refine ⟨i + 1, by omega, rfl, by go_num, hbz.out, hsz2, ?_, hcd2.out⟩
            show OwnC _ _ _ _ ((List.range (i + 1)).flatMap (botRow xs))
            rw [flatMap_snoc, show botRow xs i = (List.range j).map fun (t : Nat) => ((i : Int), (t : Int)) by unfold botRow; rw [← Hc.out]]
            exact Ho2.out
    · obtain rfl : i = N := by omega
      have hiz : ¬ ((i : Int) < (i : Int)) := by omega
      obtain ⟨p3, l3, k3, rfl⟩ := hout.out.rd.sh
      have Hout := Lib.hid hout.out
      go_wp2_with fail
      go_ret
      exact ⟨_, rfl, by unfold botL; rw [← HN.out]; exact Hout.out, hb.out⟩

end Go.Proofs.Ytcbjcmhnlakgbaa
