/-
  The laws' own comparison of classes.
  The identity, as the program makes it; one byte of the code.
  The laws' classIn and swapped; the program's WordPerm at one letter.
  Chevalley's rule for EquivariantProduct. Plain.
  The draws: a new cursor.
  The draws: a permutation.
-/
import Derived.Test.YtajmoclnmphmgaaJ14
import Derived.Test.YtajmoclnmphmgaaJ18
import Derived.Test.YtajmoclnmphmgaaJ8
import Derived.Test.YtajmoclnmphmgaaJ4
import Derived.Test.YtajmoclnmphmgaaJ5
import Derived.Deep.RegionLaw
namespace Go.Proofs.Ytajmoclnmphmgaa
set_option linter.all false
set_option maxRecDepth 100000
open Go.RowKit

set_option maxHeartbeats 4000000 in
theorem classes_same (v1 v2 : Value) (cs : List Cls) (w : World) (h1 : RdCl w v1 cs) (h2 : RdCl w v2 cs) :
    Calls Try.prog 21 #[v1, v2] w fun e w' => e = .returned (.bool true) ∧ Qt w w' := by
  obtain ⟨f, hs1, hf⟩ := h1
  obtain ⟨g, hs2, hg⟩ := h2
  obtain ⟨p, cap, rfl, ⟨hx1, hx⟩, hxc⟩ := hs1.two
  obtain ⟨q, cap', rfl, ⟨hy1, hy⟩, hyc⟩ := hs2.two
  unfold maxLen at hx hy
  obtain ⟨N, hN⟩ : ∃ N, N = cs.length := ⟨_, rfl⟩
  have HN := Lib.hid hN
  rw [← hN] at hx1 hy1 hxc hyc hf hg ⊢
  have hz : ((N : Int) != (N : Int)) = false := by simp
  have Hf := Lib.hid hf
  have Hg := Lib.hid hg
  have Hxc := Lib.hid hxc
  have Hyc := Lib.hid hyc
  clear hf hg hs1 hs2 hxc hyc hN
  go_enter Try.func21, Try.ntmps21
  go_wp2_with fail
  go_loopg [5] N (fun n i wr => ∃ k : Nat, k ≤ N ∧ n = N - k ∧ i = .int .i64 k ∧ Hid (Qt w wr))
  case atStart => exact ⟨0, Nat.zero_le _, rfl, rfl, Lib.hid (Qt.refl _)⟩
  case round =>
    obtain ⟨k, hk, rfl, rfl, hq⟩ := hrel
    obtain ⟨wx, rfl⟩ : ∃ x : World, x = wr := ⟨_, rfl⟩
    have HQ := Lib.hid hq.out
    clear hq
    by_cases hlt : k < N
    · have hlti : (k : Int) < (N : Int) := by omega
      obtain ⟨b, rfl, hc⟩ := Hxc.out (by omega)
      obtain ⟨b', rfl, hc'⟩ := Hyc.out (by omega)
      obtain ⟨a0, a1⟩ := hc k hlt
      obtain ⟨d0, d1⟩ := hc' k hlt
      have c0 := HQ.out.cell a0
      have c1 := HQ.out.cell a1
      have c2 := HQ.out.cell d0
      have c3 := HQ.out.cell d1
      have i1 := (Hf.out k hlt).qt HQ.out
      have i2 := (Hg.out k hlt).qt HQ.out
      obtain ⟨y1, hy1'⟩ : ∃ y, y = f k := ⟨_, rfl⟩
      obtain ⟨y2, hy2'⟩ : ∃ y, y = g k := ⟨_, rfl⟩
      rw [← hy1'] at c0 i1
      rw [← hy2'] at c2 i2
      obtain ⟨c, hcc⟩ : ∃ c, c = (cs.getD k clD).2 := ⟨_, rfl⟩
      obtain ⟨xs, hxx⟩ : ∃ xs, xs = (cs.getD k clD).1 := ⟨_, rfl⟩
      rw [← hcc] at c1 c3
      rw [← hxx] at i1 i2
      have hq : ∀ m, Calls Try.prog 55 #[y1, y2] (wx.drewN m) fun e w' => e = .returned (.bool true) ∧ Qt (wx.drewN m) w' := fun m =>
        (lawInts_any y1 y2 xs xs (wx.drewN m) (i1.drewN m) (i2.drewN m)).mono fun e w' ⟨h1, h2⟩ => ⟨by rw [h1]; simp, h2⟩
      have Hq := Lib.hid hq
      clear hq
      have hcne : (c != c) = false := by simp
      clear hc hc' a0 a1 d0 d1 i1 i2 hy1' hy2' hcc hxx
      go_wp2_with fail
      go_quiet (first | (go_at_call 55; refine quiet_q (Hq.out _)))
      go_wp2_with fail
      go_roundg (N - (k + 1))
      case measure => omega
      case rel => exact ⟨k + 1, by omega, rfl, by go_num, Lib.hid (HQ.out.drewN nq)⟩
    · have hlti : ¬ (k : Int) < (N : Int) := by omega
      go_wp2
      go_ret
      exact ⟨rfl, HQ.out⟩

end Go.Proofs.Ytajmoclnmphmgaa

namespace Go.Proofs.Ytajmoclnmphmgaa
set_option linter.all false
open Go.RowKit

/-- bytes that can be read, each in its range -/
def Byts8 (w : World) (v : Value) (n : Nat) : Prop := ∃ f : Nat → Int, (Rd w v n fun j => .int .u8 (f j)) ∧ ∀ j, j < n → 0 ≤ f j ∧ f j ≤ 255
theorem Byts8.byts {w : World} {v : Value} {n : Nat} (h : Byts8 w v n) : Byts w v n := by
  obtain ⟨f, h, _⟩ := h
  exact ⟨f, h⟩
theorem Byts8.below {w w' : World} {v : Value} {n : Nat} (h : Byts8 w v n) (hb : Below w.heap.size w w') : Byts8 w' v n := by
  obtain ⟨f, h, h2⟩ := h
  exact ⟨f, h.below hb, h2⟩

set_option maxRecDepth 100000 in
set_option maxHeartbeats 2000000 in
theorem at0_any (v : Value) (l i : Nat) (w : World) (h : Byts8 w v l) (hl : l ≤ 1048576) (hi : i ≤ 100) :
    Calls Try.prog 23 #[v, .int .i64 (i : Int)] w fun e w' => ∃ x : Nat, e = .returned (.int .i64 (x : Int)) ∧ x ≤ 255 ∧ w = w' := by
  obtain ⟨f, ⟨q, cap, rfl, hm, hx⟩, hr⟩ := h
  have Hr := Lib.hid hr
  have Hx := Lib.hid hx
  clear hr hx
  by_cases hlt : i < l
  · obtain ⟨b, off, rfl, hc⟩ := Hx.out (by omega)
    obtain ⟨x, hxx⟩ := Int.eq_ofNat_of_zero_le (Hr.out i hlt).1
    have c1 : w.cell? ⟨b, off + i, none⟩ = some (.int .u8 (x : Int)) := by rw [hc i hlt]; simp only [hxx]
    have hx2 : x ≤ 255 := by have := (Hr.out i hlt).2; omega
    have hlt2 : (i : Int) < (l : Int) := by omega
    clear hc hxx Hr Hx
    go_enter Try.func23, Try.ntmps23
    go_wp2_with fail
    go_ret
    exact ⟨x, rfl, hx2, rfl⟩
  · have hlt2 : ¬ (i : Int) < (l : Int) := by omega
    clear Hr Hx
    have h7 : IntKind.i64.wrap ((i : Int) * 7) = (i : Int) * 7 := k64 (by omega) (by omega)
    have h8 : IntKind.i64.wrap ((i : Int) * 7 + (l : Int)) = (i : Int) * 7 + (l : Int) := k64 (by omega) (by omega)
    have h9 : ((i : Int) * 7 + (l : Int)).tmod 256 = (((i * 7 + l) % 256 : Nat) : Int) := by
      rw [show (i : Int) * 7 + (l : Int) = ((i * 7 + l : Nat) : Int) from by omega]; rfl
    go_enter Try.func23, Try.ntmps23
    go_wp2_with fail
    go_ret
    exact ⟨(i * 7 + l) % 256, ret_int (by show ((i : Int) * 7 + (l : Int)) % 256 = _; omega), by omega, rfl⟩

theorem identity_ret (n : Nat) : ∀ j, j < n → (Value.int .i64 (j : Int)) = iv (idL n) j := fun j hj => by rw [iv, idL_getD hj]

set_option maxRecDepth 100000 in
set_option maxHeartbeats 2000000 in
theorem implIdentity_any (n : Nat) (w : World) (h1 : 1 ≤ n) (h7 : n ≤ 7) :
    Calls Try.prog 57 #[.int .i64 (n : Int)] w (RetI w (idL n)) := by
  have hmk := run_make_row' (P := Try.prog) 22 3 (.int .i64 0) 8 Try.underlying22 info_int rfl .i64 .i64 n (by omega) (by omega)
  have hn1 : (1 : Int) ≤ n := by omega
  have hn7 : (n : Int) ≤ 7 := by omega
  have hns : ¬ (n : Int) < 1 := by omega
  have hns2 : ¬ (7 : Int) < n := by omega
  have hs : ∀ w, Calls Try.prog 82 #[.int .i64 (n : Int)] w fun e w' => e = .returned (.bool true) ∧ w = w' := fun w => by
    go_enter Try.func82, Try.ntmps82
    go_wp2_with fail
    go_ret
    exact ⟨rfl, rfl⟩
  go_enter Try.func57, Try.ntmps57
  go_wp2_with fail
  refine (hs w).mono ?_
  rintro e w1 ⟨rfl, rfl⟩
  go_wp2_with fail
  go_loopg [12] n (fun g s14 wr => ∃ k : Nat, k ≤ n ∧ g = n - k ∧ s14 = .int .i64 k ∧ Below w.heap.size w wr ∧ Hid (wr.rowIs w.heap.size 3 n (fun j => .int .i64 (if j < k then (j : Int) else 0))))
  case atStart =>
    refine ⟨0, Nat.zero_le _, rfl, rfl, below_alloc _ _, ?_⟩
    exact (World.rowIs_made w (.int .i64 0) n 3).congr fun j _ => by simp
  case round =>
    obtain ⟨k, hk, rfl, rfl, hbw, hrow⟩ := hrel
    by_cases hlt : k < n
    · obtain ⟨z, c2⟩ : ∃ z, wr.cell? ⟨w.heap.size, k, none⟩ = some (.int .i64 z) := ⟨_, hrow.out.cell hlt⟩
      have c3 := hrow.out.frozen k
      have i1 : (k : Int) < (n : Int) := by omega
      have Hrow := Lib.hid hrow.out
      clear hrow
      go_wp2_with fail
      go_roundg (n - (k + 1))
      case measure => omega
      case rel =>
        refine ⟨k + 1, by omega, rfl, by go_num, hbw.setCell (Nat.le_refl _) _, (Hrow.out.set k _).congr fun j hj => ?_⟩
        by_cases e : j = k
        · subst e; simp
        · have : j < k + 1 ↔ j < k := by omega
          simp [e, this]
    · obtain rfl : k = n := by omega
      have i1 : ¬ (k : Int) < (k : Int) := by omega
      have ho := rowIs_ints (xs := idL k) (by rw [idL_length]; exact hrow.out.congr fun j hj => by rw [iv, idL_getD hj, if_pos hj]) (by rw [idL_length]; unfold maxLen; omega)
      rw [idL_length] at ho
      have Ho := Lib.hid ho
      clear ho hrow
      go_wp2_with fail
      go_ret
      exact ⟨_, rfl, Ho.out, hbw⟩

section
open Go.ChangeShapes Go.WideShapes Go.RowKit Go.Deep Go.WideElems Go.Maps
/-- bytes that came in -/
theorem trod_byts8 {H : Type} {enc : TypeId × Value → H} {P : Program} {W : World} {m : Nat} {t e : TypeId} {a : Option Addr} {l c : Nat} {y : DataW H × List MemPlace}
    (ht : P.underlying t = some (.slice e)) (he : P.underlying e = some (.int .u8)) (hc : P.cellsOf e = 1)
    (h : DataW.trod enc P W 0 (fun _ => true) true m t [.slice a l c] = some y) : l ≤ maxLen ∧ Byts8 W (.slice a l c) l := by
  rcases open_ints ht he hc h with ⟨hcs, _⟩ | ⟨x, l', c', zs, hcs, _, hl, hm, hz, _, hcell, hwf⟩
  · injection hcs with hcs
    injection hcs with h1 h2 h3
    subst h1 h2 h3
    exact ⟨Nat.zero_le _, fun _ => 0, ⟨none, 0, rfl, ⟨Nat.le_refl _, Nat.zero_le _⟩, fun h => absurd h (Nat.lt_irrefl _)⟩, fun j hj => absurd hj (Nat.not_lt_zero _)⟩
  · injection hcs with hcs
    injection hcs with h1 h2 h3
    subst h1 h2 h3
    have hz' : zs.length = c := by simpa using hz
    refine ⟨by omega, fun j => zs.getD j 0, ⟨some x, c, rfl, ⟨hl, hm⟩, fun h0 => ?_⟩, fun j hj => ?_⟩
    · have h0' := hcell 0 (by omega)
      obtain ⟨b, off, spot⟩ := x
      have hs : spot = none := by
        cases spot with
        | none => rfl
        | some s => simp [Addr.add, World.cell?] at h0'; split at h0' <;> simp_all
      subst hs
      refine ⟨b, off, rfl, fun j hj => ?_⟩
      have hadd : (⟨b, off, none⟩ : Addr).add j = ⟨b, off + j, none⟩ := by unfold Addr.add; split <;> simp_all
      rw [← hadd]
      exact hcell j (by omega)
    · have hw := hwf (zs.getD j 0) (getD_mem (by omega))
      simp [Lit.wf, IntKind.wrap] at hw
      rw [show IntKind.u8.min = 0 from by rfl, show IntKind.u8.max = 255 from by rfl] at hw
      simpa [List.getD_eq_getElem?_getD] using hw
end

end Go.Proofs.Ytajmoclnmphmgaa

namespace Go.Proofs.Ytajmoclnmphmgaa
set_option linter.all false
set_option maxRecDepth 100000
open Go.RowKit

set_option maxHeartbeats 4000000 in
theorem classIn_any (v1 v2 : Value) (cs : List Cls) (t : List Int) (w : World) (h1 : RdCl w v1 cs) (h2 : Ints w v2 t) :
    Calls Try.prog 25 #[v1, v2] w fun e w' => e = .returned (.int .i64 (inC cs t)) ∧ Qt w w' := by
  obtain ⟨f, hs1, hf⟩ := h1
  obtain ⟨p, cap, rfl, ⟨hx1, hx⟩, hxc⟩ := hs1.two
  unfold maxLen at hx
  obtain ⟨N, hN⟩ : ∃ N, N = cs.length := ⟨_, rfl⟩
  have HN := Lib.hid hN
  rw [← hN] at hx1 hxc hf ⊢
  have Hf := Lib.hid hf
  have Hxc := Lib.hid hxc
  have HT := Lib.hid h2
  clear hf hs1 hxc hN h2
  obtain ⟨K, hK⟩ : ∃ K, K = inC cs t := ⟨_, rfl⟩
  rw [← hK]
  have HK := Lib.hid hK
  clear hK
  go_enter Try.func25, Try.ntmps25
  go_wp2_with fail
  go_loopg [5] N (fun n i wr => ∃ k : Nat, k ≤ N ∧ n = N - k ∧ i = .int .i64 k ∧ Hid (Qt w wr) ∧ Hid (inC (cs.drop k) t = K))
  case atStart => exact ⟨0, Nat.zero_le _, rfl, rfl, Lib.hid (Qt.refl _), Lib.hid (by rw [List.drop_zero, HK.out])⟩
  case round =>
    obtain ⟨k, hk, rfl, rfl, hq, hkk⟩ := hrel
    obtain ⟨wx, rfl⟩ : ∃ x : World, x = wr := ⟨_, rfl⟩
    have HQ := Lib.hid hq.out
    have HKK := Lib.hid hkk.out
    clear hq hkk
    by_cases hlt : k < N
    · have hlti : (k : Int) < (N : Int) := by omega
      obtain ⟨b, rfl, hc⟩ := Hxc.out (by omega)
      obtain ⟨a0, a1⟩ := hc k hlt
      have c0 := HQ.out.cell a0
      have c1 := HQ.out.cell a1
      have i1 := (Hf.out k hlt).qt HQ.out
      obtain ⟨y1, hy1'⟩ : ∃ y, y = f k := ⟨_, rfl⟩
      rw [← hy1'] at c0 i1
      obtain ⟨c, hcc⟩ : ∃ c, c = (cs.getD k clD).2 := ⟨_, rfl⟩
      obtain ⟨xs, hxx⟩ : ∃ xs, xs = (cs.getD k clD).1 := ⟨_, rfl⟩
      rw [← hcc] at c1
      rw [← hxx] at i1
      have hdr : cs.drop k = (xs, c) :: cs.drop (k + 1) := by
        rw [List.drop_eq_getElem_cons (by rw [← HN.out]; exact hlt), hxx, hcc, List.getD_eq_getElem?_getD, List.getElem?_eq_getElem (by rw [← HN.out]; exact hlt)]; rfl
      have Hdr := Lib.hid hdr
      have Hi1 := Lib.hid i1
      clear hc a0 a1 i1 hy1' hcc hxx hdr
      by_cases e : xs = t
      · have Hq := Lib.hid (lawInts_any y1 v2 xs t wx Hi1.out (HT.out.qt HQ.out))
        have Hd := Lib.hid (decide_eq_true e)
        have He := Lib.hid e
        clear e
        go_wp2_with fail
        refine Hq.out.mono ?_
        rintro e w' ⟨rfl, q, rfl⟩
        rw [Hd.out]
        go_wp2_with fail
        go_ret
        have hk : K = c := by rw [← HKK.out, Hdr.out, inC, if_pos He.out]
        rw [hk]
        exact ⟨rfl, HQ.out.drewN q⟩
      · have Hq := Lib.hid (lawInts_any y1 v2 xs t wx Hi1.out (HT.out.qt HQ.out))
        have Hd := Lib.hid (decide_eq_false e)
        have He := Lib.hid e
        clear e
        go_wp2_with fail
        refine Hq.out.mono ?_
        rintro e w' ⟨rfl, q, rfl⟩
        rw [Hd.out]
        go_wp2_with fail
        go_roundg (N - (k + 1))
        case measure => omega
        case rel => exact ⟨k + 1, by omega, rfl, by go_num, Lib.hid (HQ.out.drewN q), Lib.hid (by rw [← HKK.out, Hdr.out, inC, if_neg He.out])⟩
    · obtain rfl : k = N := by omega
      go_wp2
      go_ret
      refine ⟨?_, HQ.out⟩
      rw [← HKK.out, List.drop_of_length_le (by rw [HN.out]; exact Nat.le_refl _)]; rfl

theorem swp_facts {w w' : World} {v' : Value} {xs : List Int} {a b bx ox : Nat} (ho' : OwnF w' w.heap.size w'.heap.size 3 v' xs.length (fun j => iv xs j)) (hbw : Below w.heap.size w w') (ha : a < xs.length) (hb : b < xs.length)
    (ca0 : w.cell? ⟨bx, ox + a, none⟩ = some (iv xs a)) (cb0 : w.cell? ⟨bx, ox + b, none⟩ = some (iv xs b)) :
    ∃ (g kk : Nat) (x y : Int) (z1 z2 : Value), v' = .slice (some ⟨g, 0, none⟩) xs.length kk ∧ w.heap.size ≤ g ∧ Hid (x = xs.getD a 0) ∧ Hid (y = xs.getD b 0) ∧ w'.cell? ⟨bx, ox + a, none⟩ = some (.int .i64 x) ∧ w'.cell? ⟨bx, ox + b, none⟩ = some (.int .i64 y) ∧
      w'.frozen? ⟨g, a, none⟩ = false ∧ w'.frozen? ⟨g, b, none⟩ = false ∧ w'.cell? ⟨g, a, none⟩ = some z1 ∧ (w'.setCell ⟨g, a, none⟩ (.int .i64 y)).cell? ⟨g, b, none⟩ = some z2 ∧ (w'.setCell ⟨g, a, none⟩ (.int .i64 y)).cell? ⟨bx, ox + a, none⟩ = some (.int .i64 x) ∧
      Hid (OwnF w' w.heap.size w'.heap.size 3 (.slice (some ⟨g, 0, none⟩) xs.length kk) xs.length (fun j => iv xs j)) ∧ Hid (Below w.heap.size w w') := by
  obtain ⟨pp, kk, rfl, _, _⟩ := ho'.shape
  obtain ⟨g, rfl, hg1, hg2, hg3⟩ := ho'.at_ (by omega)
  have cx := cell_below hbw ca0
  have cy := cell_below hbw cb0
  have hbg : bx ≠ g := fun e => by have := World.block_lt_of_cell? w _ ca0; simp only at this; omega
  refine ⟨g, kk, _, _, _, _, rfl, hg1, Lib.hid rfl, Lib.hid rfl, cx, cy, ho'.frozen a, ho'.frozen b, ho'.cell ha, (ho'.set a (.int .i64 (xs.getD b 0))).cell hb, ?_, Lib.hid ho', Lib.hid hbw⟩
  rw [World.cell?_setCell_other _ _ _ _ (by intro e; simp only [Addr.mk.injEq] at e; exact hbg e.1.symm)]
  exact cx
set_option maxHeartbeats 4000000 in
theorem lawSwapped_any (v : Value) (xs : List Int) (a b : Nat) (w : World) (h : Ints w v xs) (hl : xs.length ≤ 1000) (ha : a < xs.length) (hb : b < xs.length) :
    Calls Try.prog 26 #[v, .int .i64 (a : Int), .int .i64 (b : Int)] w (RetI w (swapL xs a b)) := by
  have hI := Lib.hid h
  obtain ⟨p, cap, rfl, ⟨hx1, hx2⟩, hxc⟩ := h
  unfold maxLen at hx2
  have Hb1 := Lib.hid (show 0 + xs.length ≤ maxLen by unfold maxLen; omega)
  have Hb2 := Lib.hid (show (0 + xs.length) * 8 ≤ 140737488355328 by omega)
  obtain ⟨bx, ox, rfl, hc⟩ := hxc (by omega)
  have ca0 := hc a ha
  have cb0 := hc b hb
  clear hxc hc
  have hai : (a : Int) < (xs.length : Int) := by omega
  have hbi : (b : Int) < (xs.length : Int) := by omega
  go_enter Try.func26, Try.ntmps26
  go_wp2_with (at_builtin; go_must (refine wpList_append_F rfl (.tmp 8) (.tmp 9) 22 rfl 3 (.int .i64 0) 8 Try.underlying22 info_int rfl w.heap.size (w.heap.size + 1) _ 0 (fun _ => undef) rfl (OwnF.made0 w _ _) (by simp) (by simp) _ _ _ rfl (hI.out.below (below_alloc w _)) (fun j _ => iv_one _ j) Hb1.out Hb2.out ?_; intro v' w' ho' hg'; obtain ⟨g, kk, x, y, z1, z2, rfl, hg1, Hx, Hy, cx, cy, fa, fb, da, db, cx2, Ho', Hbw⟩ := swp_facts (by rw [Nat.zero_add] at ho'; exact ho'.congr fun j _ => by simp) ((below_alloc w _).trans (grownBy_below hg' (OwnF.made0 w 3 (fun _ => undef)).blocks (Nat.le_refl _) (by simp))) ha hb ca0 cb0; clear ho' hg' ca0 cb0))
  go_ret
  have h1 := (Ho'.out.set a (.int .i64 y)).set b (.int .i64 x)
  have h2 : OwnI 3 ((w'.setCell ⟨g, a, none⟩ (.int .i64 y)).setCell ⟨g, b, none⟩ (.int .i64 x)) w.heap.size w'.heap.size (.slice (some ⟨g, 0, none⟩) xs.length kk) (swapL xs a b) := by
    refine OwnF.ints ?_
    rw [swapL_length]
    refine h1.congr fun t ht => ?_
    rw [Hx.out, Hy.out]
    unfold iv
    rw [swapL_getD ha hb]
    by_cases e1 : t = b
    · rw [if_pos e1, if_pos e1]
    · rw [if_neg e1, if_neg e1]
      by_cases e2 : t = a
      · rw [if_pos e2, if_pos e2]
      · rw [if_neg e2, if_neg e2]
  exact ⟨_, rfl, h2.mono (Nat.le_refl _) (by simp), (Hbw.out.setCell (p := ⟨g, a, none⟩) hg1 _).setCell (p := ⟨g, b, none⟩) hg1 _⟩

theorem isSize_yes (n : Nat) (h1 : 1 ≤ n) (h7 : n ≤ 7) (w : World) : Calls Try.prog 82 #[.int .i64 (n : Int)] w fun e w' => e = .returned (.bool true) ∧ w = w' := by
  have hn1 : (1 : Int) ≤ n := by omega
  have hn7 : (n : Int) ≤ 7 := by omega
  go_enter Try.func82, Try.ntmps82
  go_wp2_with fail
  go_ret
  exact ⟨rfl, rfl⟩
set_option maxHeartbeats 2000000 in
theorem isWord_one (n k : Nat) (bx : Nat) (w : World) (hk : k + 1 < n) (h7 : n ≤ 7) (hc : w.cell? ⟨bx, 0, none⟩ = some (.int .i64 (k : Int))) :
    Calls Try.prog 56 #[.int .i64 (n : Int), .slice (some ⟨bx, 0, none⟩) 1 1] w fun e w' => e = .returned (.bool true) ∧ w = w' := by
  have Hs := Lib.hid (isSize_yes n (by omega) h7 w)
  have hk0 : ¬ (k : Int) < 0 := by omega
  have hk2 : ¬ (n : Int) - 2 < (k : Int) := by omega
  go_enter Try.func56, Try.ntmps56
  go_wp2_with fail
  go_loopg [9] 1 (fun g s9 wr => ((g = 1 ∧ s9 = .int .i64 0) ∨ (g = 0 ∧ s9 = .int .i64 1)) ∧ w = wr)
  case atStart => exact ⟨.inl ⟨rfl, rfl⟩, rfl⟩
  case round =>
    rcases hrel with ⟨⟨rfl, rfl⟩ | ⟨rfl, rfl⟩, rfl⟩
    · go_wp2_with fail
      go_roundg 0
      case measure => omega
      case rel => exact ⟨.inr ⟨rfl, rfl⟩, rfl⟩
    · go_wp2_with fail
      refine Hs.out.mono ?_
      rintro e w' ⟨rfl, rfl⟩
      go_wp2_with fail
      go_ret
      exact ⟨rfl, rfl⟩
set_option maxHeartbeats 2000000 in
theorem word1_any (n k : Nat) (bx : Nat) (w : World) (hk : k + 1 < n) (h7 : n ≤ 7) (hc : w.cell? ⟨bx, 0, none⟩ = some (.int .i64 (k : Int))) :
    Calls Try.prog 24 #[.int .i64 (n : Int), .slice (some ⟨bx, 0, none⟩) 1 1] w (RetI w (sw k (idL n))) := by
  have Hw := Lib.hid (isWord_one n k bx w hk h7 hc)
  have Hi := Lib.hid (implIdentity_any n w (by omega) h7)
  go_enter Try.func24, Try.ntmps24
  go_wp2_with fail
  refine Hw.out.mono ?_
  rintro e w' ⟨rfl, rfl⟩
  go_wp2_with fail
  refine Hi.out.mono ?_
  rintro e w1 ⟨u1, rfl, ho1, hb1⟩
  have c1 := cell_below hb1 hc
  have hi1 := ho1.ints
  obtain ⟨p1, k1, rfl, _, _⟩ := ho1.shape
  rw [idL_length] at hi1 ⊢
  have HI := Lib.hid hi1
  have HB := Lib.hid hb1
  clear ho1 hb1 hi1 hc Hw Hi
  go_wp2_with fail
  go_loopg [5, 16] 1 (fun g s5 s16 wr => (g = 1 ∧ s5 = .slice p1 n k1 ∧ s16 = .int .i64 0 ∧ w1 = wr) ∨ (g = 0 ∧ s16 = .int .i64 1 ∧ ∃ w2 : World, Hid (Below w.heap.size w w2) ∧ Hid (w2 = wr) ∧ Hid (OwnI 3 wr w.heap.size wr.heap.size s5 (sw k (idL n)))))
  case atStart => exact .inl ⟨rfl, rfl, rfl, rfl⟩
  case round =>
    rcases hrel with ⟨rfl, rfl, rfl, rfl⟩ | ⟨rfl, rfl, w2, hb2, hw2, ho2⟩
    · go_wp2_with fail
      rw [show (k : Int) + 1 = ((k + 1 : Nat) : Int) by omega]
      refine (exchanged_any _ (idL n) k (k + 1) w1 HI.out (by rw [idL_length]; omega) (by rw [idL_length]; exact hk) (by omega) (by rw [idL_length]; omega)).mono ?_
      rintro e w3 ⟨u3, rfl, ho3, hb3⟩
      have Ho3 := Lib.hid ho3
      have Hb3 := Lib.hid hb3
      clear ho3 hb3
      go_wp2_with fail
      go_roundg 0
      case measure => omega
      case rel => exact .inr ⟨rfl, rfl, w3, Lib.hid (HB.out.trans (Hb3.out.mono HB.out.size)), Lib.hid rfl, Lib.hid (Ho3.out.mono HB.out.size (Nat.le_refl _))⟩
    · have Ho := Lib.hid ho2.out
      have Hb := Lib.hid (show Below w.heap.size w wr from by rw [← hw2.out]; exact hb2.out)
      obtain ⟨p5, k5, rfl, _, _⟩ := ho2.out.shape
      clear ho2 hb2 hw2
      go_wp2_with fail
      go_ret
      exact ⟨_, rfl, Ho.out, Hb.out⟩

end Go.Proofs.Ytajmoclnmphmgaa

namespace Go.Proofs.Ytajmoclnmphmgaa
set_option linter.all false
set_option maxRecDepth 100000
open Go.RowKit

/-- an exchange of two places leaves a permutation -/
def swpB (v : List Int) : Bool := (List.range v.length).all fun b => (List.range b).all fun a => permOk (swapL v a b)
set_option maxRecDepth 100000 in
theorem swp_all : all5 swpB = true := by decide +kernel
theorem P5.swp {n : Nat} {v : List Int} (h : P5 n v) {a b : Nat} (hab : a < b) (hb : b < n) : P5 n (swapL v a b) := by
  have := all5_at swp_all h.ok (by have := h.len; have := h.le; omega)
  simp only [swpB, List.all_eq_true, List.mem_range] at this
  exact ⟨this b (by rw [h.len]; exact hb) a hab, by rw [swapL_length]; exact h.len, h.le⟩

section
variable {n : Nat} {ys : List Int}
theorem yb_of (hy : YOk n ys) (i : Nat) : -9 ≤ ys.getD i 0 ∧ ys.getD i 0 ≤ 9 := by
  by_cases h : i < ys.length
  · rw [getD_lt h]; exact hy.nine _ (List.getElem_mem h)
  · rw [List.getD_eq_getElem?_getD, List.getElem?_eq_none (by omega)]; simp
theorem xK_bound (hy : YOk n ys) (v : List Int) : ∀ k, (xK ys v k).natAbs ≤ 18 * k
  | 0 => by simp [xK]
  | k + 1 => by
    have h := xK_bound hy v k
    have a := yb_of hy (v.getD k 0).toNat
    have b := yb_of hy k
    rw [xK]
    unfold yAt
    omega
theorem chC_bound (hy : YOk n ys) {v : List Int} (hv : P5 n v) {k : Nat} (hk : k + 1 < n) (w : List Int) : (chC ys v k w).natAbs ≤ 1000000000 := by
  have C := cv_at hv hk
  have hb := xK_bound hy v (k + 1)
  have h4 := hy.four
  have hc : (cvK v k).count w ≤ 1 := by
    by_cases h : w ∈ cvK v k
    · rw [count_one C.nodup h]; exact Nat.le_refl _
    · rw [List.count_eq_zero_of_not_mem h]; exact Nat.zero_le _
  unfold chC
  split <;> omega
theorem eqOk_of (hy : YOk n ys) {u v : List Int} (hu : P5 n u) (hv : P5 n v) : eqOk u v ys = true := by
  unfold eqOk
  rw [hu.ok, hv.ok, hu.len, hv.len, hy.ap]; simp
theorem chC_eq (hy : YOk n ys) {v : List Int} (hv : P5 n v) {k : Nat} (hk : k + 1 < n) : eqL (sw k (idL n)) v ys = (sumC n (chC ys v k), true) := by
  have hs : P5 n (sw k (idL n)) := (P5.id hy.one hv.le).sw hk
  rw [eqL_yes (eqOk_of hy hs hv), hs.len]
  exact expE_sum hy (chC_ex hy.len hy.one hy.four hv hk) (fun w _ => chC_bound hy hv hk w) (mulT_length n ys _ v) fun i hi => by
    rw [mulT_getD hi, tab_at hy hs hi, tab_at hy hv hi]
theorem one_id {v : List Int} (hv : P5 1 v) : v = idL 1 := by
  obtain ⟨x, hx, e⟩ := pm_mem (n := 1) (by omega) (by omega) hv
  obtain ⟨y, hy, e2⟩ := pm_mem (n := 1) (by omega) (by omega) (P5.id (n := 1) (by omega) (by omega))
  have h1 : fact 1 = 1 := by decide
  rw [h1] at hx hy
  have : x = y := by omega
  rw [← e, ← e2, this]
theorem eq_one (hy : YOk 1 ys) {v : List Int} (hv : P5 1 v) : eqL v v ys = ([(trimL v, 1)], true) := by
  rw [eqL_yes (eqOk_of hy hv hv), hv.len, ← expE_self hy hv]
  have hm : ∀ i, i < fact 1 → (mulT 1 ys v v).getD i 0 = FW 1 ys v (pmA 1 i) := fun i hi => by
    rw [mulT_getD hi, tab_at hy hv hi, one_id hv, FW_idL hy.len hy.one (by omega) _ _ rfl (pm_p5 hy hi)]; rfl
  rw [expE_sum hy (Ex.one hy.one hy.four hv) (fun w _ => by split <;> decide) (mulT_length 1 ys v v) hm,
    expE_sum hy (Ex.one hy.one hy.four hv) (fun w _ => by split <;> decide) (by rw [tabL_length, hv.len]) fun i hi => tab_at hy hv hi]
/-- how many of the first b positions count, at a -/
def cnB (v : List Int) (k a b : Nat) : Nat := ((List.range b).filter fun b => decide (k < b) && decide (lnN (swapL v a b) = lnN v + 1)).length
def cnA (v : List Int) (k a : Nat) : Nat := ((List.range a).flatMap fun a => ((List.range v.length).filter fun b => decide (k < b) && decide (lnN (swapL v a b) = lnN v + 1)).map fun b => swapL v a b).length
theorem cnA_zero (v : List Int) (k : Nat) : cnA v k 0 = 0 := rfl
theorem cnA_succ (v : List Int) (k a : Nat) : cnA v k (a + 1) = cnA v k a + cnB v k a v.length := by
  unfold cnA cnB
  rw [List.range_succ, List.flatMap_append]; simp
theorem cnA_all (v : List Int) (k : Nat) : cnA v k (k + 1) = (cvK v k).length := rfl
theorem cnB_low (v : List Int) (k a : Nat) : cnB v k a (k + 1) = 0 := by
  unfold cnB
  rw [List.length_eq_zero_iff, List.filter_eq_nil_iff]
  intro b hb
  have : b < k + 1 := by simpa using hb
  simp; omega
theorem cnB_yes {v : List Int} {k a b : Nat} (h : k < b) (he : lnN (swapL v a b) = lnN v + 1) : cnB v k a (b + 1) = cnB v k a b + 1 := by
  unfold cnB
  rw [List.range_succ, List.filter_append, List.length_append]; simp [h, he]
theorem cnB_no {v : List Int} {k a b : Nat} (he : lnN (swapL v a b) ≠ lnN v + 1) : cnB v k a (b + 1) = cnB v k a b := by
  unfold cnB
  rw [List.range_succ, List.filter_append, List.length_append]; simp [he]
theorem cvK_mem {v : List Int} {k a b : Nat} (ha : a ≤ k) (hk : k < b) (hb : b < v.length) (he : lnN (swapL v a b) = lnN v + 1) : swapL v a b ∈ cvK v k := by
  unfold cvK
  refine List.mem_flatMap.2 ⟨a, by simp; omega, List.mem_map.2 ⟨b, List.mem_filter.2 ⟨by simpa using hb, by simp [hk, he]⟩, rfl⟩⟩
theorem cn_le (v : List Int) (k a b : Nat) : cnB v k a b ≤ b := by
  unfold cnB
  exact Nat.le_trans (List.length_filter_le _ _) (by simp)
theorem cnA_le (v : List Int) (k : Nat) : ∀ a, cnA v k a ≤ a * v.length
  | 0 => by simp [cnA_zero]
  | a + 1 => by
    have h := cnA_le v k a
    have := cn_le v k a v.length
    rw [cnA_succ, Nat.succ_mul]; omega
end

end Go.Proofs.Ytajmoclnmphmgaa

namespace Go.Proofs.Ytajmoclnmphmgaa
set_option linter.all false
open Go.RowKit

theorem cur_new {w : World} {p : Option Addr} {n cap : Nat} (x : Int) (h : Byts w (.slice p n cap) n) : Cur (w.alloc (.cells #[.slice p n cap, .int .i64 0, .int .i64 x] 79)) w.heap.size := by
  have h' := h
  obtain ⟨f, p', cap', e, _, hx⟩ := h'
  injection e with e1 _ e3
  subst e1 e3
  refine ⟨p, n, cap, 0, x, heap_alloc_top _ _, Nat.zero_le _, h.below (below_alloc _ _), fun h0 a ha => ?_⟩
  obtain ⟨b, off, e, hc⟩ := hx h0
  rw [e] at ha
  injection ha with ha
  subst ha
  have := World.block_lt_of_cell? _ _ (hc 0 h0)
  dsimp only at this ⊢
  omega

set_option maxRecDepth 100000 in
set_option maxHeartbeats 2000000 in
theorem l1New_any (v : Value) (n : Nat) (w : World) (h : Byts w v n) :
    Calls Try.prog 43 #[v] w fun e w' => e = .returned (.pointer (some ⟨w.heap.size, 0, none⟩)) ∧ Cur w' w.heap.size ∧ Below w.heap.size w w' := by
  have Hh := Lib.hid h
  obtain ⟨f, p, cap, rfl, ⟨hx1, hx2⟩, hxc⟩ := h
  unfold maxLen at hx2
  have Hxc := Lib.hid hxc
  clear hxc
  go_enter Try.func43, Try.ntmps43
  go_wp2_with fail
  go_loopg [3, 4] n (fun g s3 s4 wr => ∃ (k : Nat) (x : Int), k ≤ n ∧ g = n - k ∧ s3 = .int .i64 x ∧ s4 = .int .i64 k ∧ wr = w)
  case atStart => exact ⟨0, _, Nat.zero_le _, rfl, rfl, rfl, rfl⟩
  case round =>
    obtain ⟨k, x, hk, rfl, rfl, rfl, rfl⟩ := hrel
    by_cases hlt : k < n
    · by_cases h4 : k < 4000
      · obtain ⟨b, off, rfl, hc⟩ := Hxc.out (by omega)
        have c1 := hc k hlt
        have i1 : (k : Int) < (n : Int) := by omega
        have i2 : (k : Int) < 4000 := by omega
        clear hc
        go_wp2_with fail
        go_roundg (n - (k + 1))
        case measure => omega
        case rel => exact ⟨k + 1, _, by omega, rfl, rfl, by go_num, rfl⟩
      · have i1 : (k : Int) < (n : Int) := by omega
        have i2 : ¬ (k : Int) < 4000 := by omega
        go_wp2_with fail
        go_ret
        exact ⟨rfl, cur_new x Hh.out, below_alloc _ _⟩
    · have i1 : ¬ (k : Int) < (n : Int) := by omega
      go_wp2_with fail
      go_ret
      exact ⟨rfl, cur_new x Hh.out, below_alloc _ _⟩

end Go.Proofs.Ytajmoclnmphmgaa

namespace Go.Proofs.Ytajmoclnmphmgaa
set_option linter.all false
open Go.RowKit

/-- all codes of m places -/
def codes : Nat → List (List Nat)
  | 0 => [[]]
  | m + 1 => (List.range (m + 1)).flatMap fun x => (codes m).map (x :: ·)
theorem mem_codes : ∀ (m : Nat) (c : List Nat), c.length = m → (∀ j, j < m → c.getD j 0 < m - j) → c ∈ codes m
  | 0, c, hl, _ => by
    obtain rfl := List.eq_nil_of_length_eq_zero hl
    simp [codes]
  | m + 1, [], hl, _ => by simp at hl
  | m + 1, x :: c, hl, h => by
    have h0 := h 0 (by omega)
    have ih := mem_codes m c (by simpa using hl) fun j hj => by
      have := h (j + 1) (by omega)
      simp at this ⊢
      omega
    unfold codes
    refine List.mem_flatMap.2 ⟨x, by simpa using h0, List.mem_map.2 ⟨c, ih, rfl⟩⟩
theorem decL_ok {n : Nat} (h1 : 1 ≤ n) (h5 : n ≤ 5) (c : List Nat) (hl : c.length = n) (h : ∀ j, j < n → c.getD j 0 < n - j) : permOk (decL n c) = true ∧ (decL n c).length = n := by
  have hc := mem_codes n c hl h
  have key : ∀ c ∈ codes n, permOk (decL n c) = true ∧ (decL n c).length = n := by
    have : n = 1 ∨ n = 2 ∨ n = 3 ∨ n = 4 ∨ n = 5 := by omega
    rcases this with rfl | rfl | rfl | rfl | rfl <;> decide +kernel
  exact key c hc

set_option maxRecDepth 100000 in
set_option maxHeartbeats 2000000 in
/-- any permutation of n -/
theorem dPerm_any (k n : Nat) (w : World) (h : Cur w k) (h1 : 1 ≤ n) (h5 : n ≤ 5) :
    Calls Try.prog 48 #[.pointer (some ⟨k, 0, none⟩), .int .i64 (n : Int)] w fun e w' =>
      ∃ (u : Value) (xs : List Int), e = .returned u ∧ OwnI 3 w' w.heap.size w'.heap.size u xs ∧ permOk xs = true ∧ xs.length = n ∧ Cur w' k ∧ Frm k (k + 1) w w' := by
  have Hc := Lib.hid h
  have hk := h.lt
  clear h
  go_enter Try.func48, Try.ntmps48
  go_wp2_with fail
  go_loopg [5, 6] n (fun g s5 s6 wr => ∃ (i : Nat) (cs : List Nat), i ≤ n ∧ g = n - i ∧ s6 = .int .i64 i ∧ cs.length = i ∧ Hid (∀ j, j < i → cs.getD j 0 < n - j) ∧ Hid (OwnI 3 wr w.heap.size wr.heap.size s5 (cs.map Int.ofNat)) ∧ Hid (Cur wr k) ∧ Hid (Frm k (k + 1) w wr))
  case atStart =>
    refine ⟨0, [], Nat.zero_le _, rfl, rfl, rfl, fun j hj => absurd hj (Nat.not_lt_zero _), ?_, Hc.out.below (below_alloc w _), Frm.of_below (below_alloc w _) _ _⟩
    exact OwnF.ints ((OwnF.made0 w 3 (iv [])).mono (Nat.le_refl _) (by simp))
  case round =>
    obtain ⟨i, cs, hi, rfl, rfl, hcl, hcd, ho, hcu, hf⟩ := hrel
    have hsr := hf.out.size
    by_cases hlt : i < n
    · have hlt2 : (i : Int) < (n : Int) := by omega
      have hsub : (n : Int) - (i : Int) = ((n - i : Nat) : Int) := by omega
      have Hsub := Lib.hid hsub
      obtain ⟨p5, k5, rfl, _, _⟩ := ho.out.shape
      have hofn := ho.out.fn
      have hml : (cs.map Int.ofNat).length = i := by rw [List.length_map, hcl]
      rw [hml] at hofn ⊢
      have Ho := Lib.hid hofn
      have Hml := Lib.hid hml
      have Hcl := Lib.hid hcl
      have Hcd := Lib.hid hcd.out
      have Hcu := Lib.hid hcu.out
      have Hf := Lib.hid hf.out
      have Hb1 := Lib.hid (show i + 1 ≤ maxLen by unfold maxLen; omega)
      have Hb2 := Lib.hid (show (i + 1) * 8 ≤ 140737488355328 by omega)
      clear hsub ho hofn hml hcl hcd hcu hf
      go_wp2_with fail
      rw [Hsub.out]
      refine (l1Below_any k (n - i) _ Hcu.out (by omega) (by omega)).mono ?_
      rintro e w1 ⟨x, rfl, hx, hc1, hf1⟩
      have hs1 := hf1.size
      have Ho1 := Lib.hid (Ho.out.frm hf1 (Or.inr (by omega)))
      have Hc1 := Lib.hid hc1
      have Hf1 := Lib.hid (Hf.out.trans hf1)
      clear hc1 hf1
      go_wp2_with (at_builtin; go_must (refine wpList_append_F rfl (.tmp 13) (.tmp 19) 22 rfl 3 (.int .i64 0) 8 Try.underlying22 info_int rfl w.heap.size wr.heap.size _ i (iv (cs.map Int.ofNat)) rfl (Ho1.out.below (below_alloc w1 _)) (by rw [size_alloc]; omega) (by rw [size_alloc]; omega) _ 1 _ rfl (rd_one _ _ _ rfl) (fun j _ => rfl) Hb1.out Hb2.out ?_; intro v2 w2 ho2 hg2))
      go_roundg (n - (i + 1))
      case measure => omega
      case rel =>
        have hbx : Below w.heap.size w1 w2 := ((below_alloc w1 _).mono (by omega)).trans (grownBy_below hg2 Ho1.out.blocks (Nat.le_refl _) (by rw [size_alloc]; omega))
        refine ⟨i + 1, cs ++ [x], by omega, rfl, by go_num, by rw [List.length_append, Hcl.out]; rfl, fun j hj => ?_, ?_, Hc1.out.keepB hbx hk, Hf1.out.thenB hbx (Nat.le_refl _)⟩
        · by_cases e : j < i
          · have := Hcd.out j e
            rwa [List.getD_eq_getElem?_getD, List.getElem?_append_left (by rw [Hcl.out]; exact e), ← List.getD_eq_getElem?_getD]
          · obtain rfl : j = i := by omega
            rw [List.getD_eq_getElem?_getD, List.getElem?_append_right (by rw [Hcl.out]; exact Nat.le_refl _), Hcl.out]
            simpa using hx
        · rw [List.map_append]
          exact OwnI.snoc1 (by rw [Hml.out]; exact ho2)
    · obtain rfl : i = n := by omega
      have hlt2 : ¬ (i : Int) < (i : Int) := by omega
      obtain ⟨p5, k5, rfl, _, _⟩ := ho.out.shape
      have hoi := ho.out.ints
      have hml : (cs.map Int.ofNat).length = i := by rw [List.length_map, hcl]
      rw [hml] at hoi ⊢
      have Ho := Lib.hid hoi
      have Hcl := Lib.hid hcl
      have Hcd := Lib.hid hcd.out
      have Hcu := Lib.hid hcu.out
      have Hf := Lib.hid hf.out
      clear ho hcl hcd hcu hf hoi hml
      go_wp2_with fail
      refine (specDecode_any _ cs _ Ho.out (by rw [Hcl.out]; omega) (fun x hx => ?_)).mono ?_
      · obtain ⟨j, hj, rfl⟩ := List.mem_iff_getElem.1 hx
        have := Hcd.out j (by rw [← Hcl.out]; exact hj)
        rw [List.getD_eq_getElem?_getD, List.getElem?_eq_getElem hj] at this
        simp at this
        omega
      · rintro e w1 ⟨u, rfl, ho1, hb1⟩
        obtain ⟨g1, g2⟩ := decL_ok h1 h5 cs Hcl.out Hcd.out
        rw [Hcl.out] at ho1
        have G1 := Lib.hid g1
        have G2 := Lib.hid g2
        have Ho1 := Lib.hid ho1
        have Hb1 := Lib.hid hb1
        clear g1 g2 ho1 hb1
        go_wp2_with fail
        go_ret
        exact ⟨u, _, rfl, Ho1.out.mono hsr (Nat.le_refl _), G1.out, G2.out, Hcu.out.below Hb1.out, Hf.out.thenB Hb1.out hsr⟩

end Go.Proofs.Ytajmoclnmphmgaa
