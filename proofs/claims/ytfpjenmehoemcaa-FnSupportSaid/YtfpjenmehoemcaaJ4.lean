/-
  The draws: different numbers, in any order or ascending.
  Maps keyed by seven numbers: what a key is.
  What a map keyed by seven numbers adds up to, against a list of keys and numbers. Plain.
  A map keyed by seven numbers reads as a list of keys and numbers, up to multiples of 2^64. Plain.
  A map's entry asked for, and looked up again behind that.
  poly.add: a number added at a key of a map.
-/
import Derived.Test.YtfpjenmehoemcaaJ3
import Derived.Test.YtfpjenmehoemcaaJ2
import Derived.Deep.RegionHeld3
import Derived.Test.YtfpjenmehoemcaaJ1
import Derived.Test.YtfpjenmehoemcaaChecked
import Derived.WideKeyArr
import Derived.WideKeyEntry
import Derived.Maps.RangeWalk
import Derived.Maps.OwnSet
import Derived.Maps.OwnOps
import Derived.WalkKit
import Derived.BigRegion
namespace Go.Proofs.Ytfpjenmehoemcaa
set_option linter.all false
open Go.RowKit

/-- the next number from -9 to 9 -/
def cyc (x : Int) : Int := (x + 10) % 19 - 9
def cycN : Nat → Int → Int
  | 0, x => x
  | j + 1, x => cycN j (cyc x)
theorem cyc_rng (x : Int) : -9 ≤ cyc x ∧ cyc x ≤ 9 := by unfold cyc; omega
theorem cyc_free {x : Int} (hx : -9 ≤ x ∧ x ≤ 9) : ∀ {out : List Int}, out.length ≤ 3 → ∃ j, j < 4 ∧ cycN j x ∉ out := by
  intro out hl
  have d01 : cycN 0 x ≠ cycN 1 x := by simp only [cycN, cyc]; omega
  have d02 : cycN 0 x ≠ cycN 2 x := by simp only [cycN, cyc]; omega
  have d03 : cycN 0 x ≠ cycN 3 x := by simp only [cycN, cyc]; omega
  have d12 : cycN 1 x ≠ cycN 2 x := by simp only [cycN, cyc]; omega
  have d13 : cycN 1 x ≠ cycN 3 x := by simp only [cycN, cyc]; omega
  have d23 : cycN 2 x ≠ cycN 3 x := by simp only [cycN, cyc]; omega
  apply Classical.byContradiction
  intro h
  have a : ∀ j, j < 4 → cycN j x ∈ out := fun j hj => Classical.byContradiction fun e => h ⟨j, hj, e⟩
  have a0 := a 0 (by omega)
  have a1 := a 1 (by omega)
  have a2 := a 2 (by omega)
  have a3 := a 3 (by omega)
  clear a h
  generalize cycN 0 x = c0 at *
  generalize cycN 1 x = c1 at *
  generalize cycN 2 x = c2 at *
  generalize cycN 3 x = c3 at *
  match out, hl with
  | [], _ => cases a0
  | [a], _ => simp at a0 a1; omega
  | [a, b], _ => simp at a0 a1 a2; omega
  | [a, b, c], _ => simp at a0 a1 a2 a3; omega

set_option maxRecDepth 100000 in
set_option maxHeartbeats 4000000 in
/-- n different numbers from -9 to 9 -/
theorem dApart_any (k n : Nat) (w : World) (h : Cur w k) (h4 : n ≤ 4) :
    Calls Try.prog 28 #[.pointer (some ⟨k, 0, none⟩), .int .i64 (n : Int)] w fun e w' =>
      ∃ (u : Value) (ys : List Int), e = .returned u ∧ OwnI 3 w' w.heap.size w'.heap.size u ys ∧ ys.length = n ∧ ys.Nodup ∧ (∀ x ∈ ys, -9 ≤ x ∧ x ≤ 9) ∧ Cur w' k ∧ Frm k (k + 1) w w' := by
  have Hc := Lib.hid h
  have hk := h.lt
  clear h
  go_enter Try.func28, Try.ntmps28
  go_wp2_with fail
  go_loopg [5] n (fun g s5 wr => ∃ (i : Nat) (cs : List Int), i ≤ n ∧ g = n - i ∧ Hid (cs.length = i) ∧ Hid (cs.Nodup) ∧ Hid (∀ x ∈ cs, -9 ≤ x ∧ x ≤ 9) ∧ Hid (OwnI 3 wr w.heap.size wr.heap.size s5 cs) ∧ Hid (Cur wr k) ∧ Hid (Frm k (k + 1) w wr))
  case atStart =>
    refine ⟨0, [], Nat.zero_le _, rfl, Lib.hid rfl, Lib.hid List.nodup_nil, Lib.hid (by simp), ?_, Hc.out.below (below_alloc w _), Frm.of_below (below_alloc w _) _ _⟩
    exact OwnF.ints ((OwnF.made0 w 3 (iv [])).mono (Nat.le_refl _) (by simp))
  case round =>
    obtain ⟨i, cs, hi, rfl, hcl, hnd, hrg, ho, hcu, hf⟩ := hrel
    obtain ⟨wx, rfl⟩ : ∃ x : World, x = wr := ⟨_, rfl⟩
    have hsr := hf.out.size
    obtain ⟨p5, k5, rfl, hk5, hk55⟩ := ho.out.shape
    have hofn := ho.out.fn
    rw [hcl.out] at hofn hk5 ⊢
    unfold maxLen at hk55
    have Ho := Lib.hid ho.out
    have Hofn := Lib.hid hofn
    have Hcl := Lib.hid hcl.out
    have Hnd := Lib.hid hnd.out
    have Hrg := Lib.hid hrg.out
    have Hcu := Lib.hid hcu.out
    have Hf := Lib.hid hf.out
    clear hcl hnd hrg ho hcu hf hofn
    by_cases hlt : i < n
    · have hlt2 : (i : Int) < (n : Int) := by omega
      have Hb1 := Lib.hid (show i + 1 ≤ maxLen by unfold maxLen; omega)
      have Hb2 := Lib.hid (show (i + 1) * 8 ≤ 140737488355328 by omega)
      go_wp2_with fail
      refine (l1Below_any k 19 _ Hcu.out (by omega) (by omega)).mono ?_
      rintro e w1 ⟨x0, rfl, hx0, hc1, hf1⟩
      have hs1 := hf1.size
      have Ho1 := Lib.hid (Ho.out.frm hf1 (Or.inr (by omega)))
      have Hofn1 := Lib.hid (Hofn.out.frm hf1 (Or.inr (by omega)))
      have Hc1 := Lib.hid hc1
      have Hf1 := Lib.hid (Hf.out.trans hf1)
      clear hc1 hf1
      rw [Hcl.out] at Ho1
      go_wp2_with fail
      go_loopg [6] 4 (fun g s6 wr => ∃ x : Int, s6 = .int .i64 x ∧ -9 ≤ x ∧ x ≤ 9 ∧ Hid (∃ j, j < g ∧ cycN j x ∉ cs) ∧ Hid (Qt w1 wr))
      case atStart => exact ⟨(x0 : Int) - 9, by go_num, by omega, by omega, Lib.hid (cyc_free ⟨by omega, by omega⟩ (by rw [Hcl.out]; omega)), Lib.hid (Qt.refl _)⟩
      case round =>
        obtain ⟨x, rfl, hx1, hx2, hfr, hq⟩ := hrel
        obtain ⟨wy, rfl⟩ : ∃ x : World, x = wr := ⟨_, rfl⟩
        have Hfr := Lib.hid hfr.out
        have Hq := Lib.hid hq.out
        obtain ⟨bb, hbb⟩ : ∃ bb, bb = decide (x ∈ cs) := ⟨_, rfl⟩
        have Hbb := Lib.hid hbb
        clear hfr hq hbb
        go_wp2_with fail
        refine (l1Has_any _ cs x _ (Ho1.out.ints.qt Hq.out)).mono ?_
        rintro e w2 ⟨rfl, hq2⟩
        rw [← Hbb.out]
        have Hq2 := Lib.hid (Hq.out.trans hq2)
        clear hq2
        cases bb with
        | true =>
          have hin : x ∈ cs := of_decide_eq_true Hbb.out.symm
          obtain ⟨j, hj, hjn⟩ := Hfr.out
          have hj0 : ∃ i, j = i + 1 := by
            cases j with
            | zero => exact absurd hin hjn
            | succ i => exact ⟨i, rfl⟩
          obtain ⟨j', rfl⟩ := hj0
          have hcr := cyc_rng x
          have Hc := Lib.hid (show ∃ j, j < gk - 1 ∧ cycN j (cyc x) ∉ cs from ⟨j', by omega, hjn⟩)
          have hcy : cyc x = (x + 10) % 19 - 9 := rfl
          have hx10 : 0 ≤ x + 10 := by omega
          clear hin hjn
          go_wp2_with fail
          go_roundg (gk - 1)
          case measure => omega
          case rel =>
            exact ⟨cyc x, by rw [hcy], hcr.1, hcr.2, Hc, Hq2⟩
        | false =>
          have Hnin := Lib.hid (show x ∉ cs from of_decide_eq_false Hbb.out.symm)
          clear Hbb
          have Hofn2 := Lib.hid (Hofn1.out.below (Hq2.out.below _))
          have Hsq := Lib.hid Hq2.out.size
          have hsq1 : w.heap.size ≤ w2.heap.size := by rw [Hsq.out]; omega
          have hsq2 : wx.heap.size ≤ w2.heap.size := by rw [Hsq.out]; omega
          go_wp2_with (at_builtin; go_must (refine wpList_append_F rfl (.tmp 22) (.tmp 24) 22 rfl 3 (.int .i64 0) 8 Try.underlying22 info_int rfl w.heap.size wx.heap.size _ i (iv cs) rfl (Hofn2.out.below (below_alloc w2 _)) (by rw [size_alloc]; omega) (by rw [size_alloc]; omega) _ 1 _ rfl (rd_one _ _ _ rfl) (fun j _ => rfl) Hb1.out Hb2.out ?_; intro v3 w3 ho3 hg3))
          go_roundg (n - (i + 1))
          case measure => omega
          case rel =>
            have hbx : Below w.heap.size w2 w3 := ((below_alloc w2 _).mono (by omega)).trans (grownBy_below hg3 Hofn2.out.blocks (Nat.le_refl _) (by rw [size_alloc]; omega))
            have hb1 : Below w.heap.size w1 w3 := (Hq2.out.below _).trans hbx
            refine ⟨i + 1, cs ++ [x], by omega, rfl, Lib.hid (by rw [List.length_append, Hcl.out]; rfl), Lib.hid ?_, Lib.hid ?_, Lib.hid ?_, Lib.hid (Hc1.out.keepB hb1 hk), Lib.hid (Hf1.out.thenB hb1 (Nat.le_refl _))⟩
            · rw [List.nodup_append]
              exact ⟨Hnd.out, by simp, fun a ha b hb e => by
                rw [List.mem_singleton] at hb
                exact Hnin.out (by rw [← hb, ← e]; exact ha)⟩
            · intro z hz
              rcases List.mem_append.1 hz with hz | hz
              · exact Hrg.out z hz
              · rw [List.mem_singleton] at hz; omega
            · exact OwnI.snoc1 (by rw [Hcl.out]; exact ho3)
    · obtain rfl : i = n := by omega
      have hlt2 : ¬ (i : Int) < (i : Int) := by omega
      go_wp2_with fail
      go_ret
      first | exact ⟨_, rfl, cs, by rw [Hcl.out] at Ho; exact Ho.out, Hcl.out, Hnd.out, Hrg.out, Hcu.out, Hf.out⟩ | exact ⟨_, cs, rfl, by rw [Hcl.out] at Ho; exact Ho.out, Hcl.out, Hnd.out, Hrg.out, Hcu.out, Hf.out⟩

theorem below_of_drew' {w w' : World} (h : Below w.drew.heap.size w.drew w') : Below w.heap.size w w' := ⟨h.os, h.tape, h.output, h.size, h.block⟩
theorem own_tk {T : TypeId} {w w0 : World} {hi n : Nat} {v : Value} {xs : List Int} (h : OwnI T w w0.drew.heap.size hi v xs) (hl : xs.length = n) : OwnF w w0.heap.size hi T v n (iv xs) := by
  subst hl
  exact h.fn
theorem rise_own {T : TypeId} {w : World} {lo hi t l n : Nat} {v : Value} {zs : List Int} {y : Int} {F : Nat → Value} (h : OwnF w lo hi T v (t + 1 + l) (fun j => if j < t + 1 then F j else iv (zs.drop t) (j - (t + 1)))) (ht : (zs.take t).length = t) (hl : (zs.drop t).length = l) (hn : t + 1 + l = n)
    (hF : F = fun j => if j < t then iv (zs.take t) j else .int .i64 y := by rfl) : ∃ g k, v = .slice (some ⟨g, 0, none⟩) n k ∧ OwnI T w lo hi (.slice (some ⟨g, 0, none⟩) n k) (zs.take t ++ y :: zs.drop t) := by
  subst hF
  have hlen : (zs.take t ++ y :: zs.drop t).length = t + 1 + l := by rw [List.length_append, List.length_cons, ht, hl]; omega
  have ho : OwnI T w lo hi v (zs.take t ++ y :: zs.drop t) := by
    refine OwnF.ints ?_
    rw [hlen]
    refine h.congr fun j hj => ?_
    have e : ∀ a b : Value, a = b → a = b := fun _ _ h => h
    unfold iv
    by_cases h1 : j < t + 1
    · rw [if_pos h1]
      dsimp only
      by_cases h2 : j < t
      · rw [if_pos h2]
        simp only [List.getD_eq_getElem?_getD]
        rw [List.getElem?_append_left (by rw [ht]; exact h2)]
      · rw [if_neg h2]
        have h3 : j = t := by omega
        simp only [List.getD_eq_getElem?_getD]
        rw [List.getElem?_append_right (by rw [ht]; omega), ht, h3, Nat.sub_self]
        rfl
    · rw [if_neg h1]
      simp only [List.getD_eq_getElem?_getD]
      rw [List.getElem?_append_right (by rw [ht]; omega), ht, show j - t = (j - (t + 1)) + 1 by omega, List.getElem?_cons_succ]
  obtain ⟨p, cap, rfl, _, _, hx⟩ := ho.fn.shape
  obtain ⟨g, rfl, _⟩ := hx (by omega)
  rw [hlen, hn] at ho
  rw [hlen, hn]
  exact ⟨g, cap, rfl, ho⟩
theorem rise_perm {zs ys : List Int} {i t : Nat} {y : Int} (h : zs.Perm (ys.take i)) (hi : i < ys.length) (hy : y = ys.getD i 0) : (zs.take t ++ y :: zs.drop t).Perm (ys.take (i + 1)) := by
  have e : ys.take (i + 1) = ys.take i ++ [y] := by rw [hy, getD_lt hi, List.take_append_getElem]
  rw [e]
  refine List.perm_middle.trans ?_
  rw [List.take_append_drop]
  refine (List.Perm.cons y h).trans ?_
  exact (List.perm_append_singleton y _).symm
theorem own_tk2 {T : TypeId} {w w0 : World} {o : Obj} {hi n : Nat} {v : Value} {xs : List Int} (h : OwnI T w (w0.alloc o).drew.heap.size hi v xs) (hl : xs.length = n) : OwnF w w0.heap.size hi T v n (iv xs) := by
  subst hl
  exact h.fn.mono (by show w0.heap.size ≤ (w0.alloc o).heap.size; rw [size_alloc]; omega) (Nat.le_refl _)
theorem le_alloc2 {w W : World} {B : Nat} (o : Obj) (h : B ≤ w.heap.size) (hb : Below w.heap.size w W) : B ≤ (W.alloc o).heap.size := by
  rw [size_alloc]; have := hb.size; omega
theorem keep1 {wr W W' : World} {a : Addr} {v : Value} (hb : Below W.heap.size W W') (h : W.cell? a = some v ∧ Below wr.heap.size wr W) : W'.cell? a = some v ∧ Below wr.heap.size wr W' :=
  ⟨cell_below hb h.1, below_trans h.2 hb⟩
theorem keep1B {wr W W' : World} {a : Addr} {v : Value} {B : Nat} (hb : Below B W W') (ha : a.block < B) (hw : wr.heap.size ≤ B) (h : W.cell? a = some v ∧ Below wr.heap.size wr W) : W'.cell? a = some v ∧ Below wr.heap.size wr W' :=
  ⟨by rw [hb.cell ha]; exact h.1, h.2.trans (hb.mono hw)⟩
theorem ints_drop3 {w : World} {b n cap c : Nat} {xs : List Int} (h : Ints w (.slice (some ⟨b, 0, none⟩) n cap) xs) (hl : xs.length = n) (hc : c ≤ n) (h1 : n ≤ cap) (h2 : cap ≤ 2 ^ 63 - 1) : Ints w (.slice (if cap = c then some ⟨b, 0, none⟩ else some ⟨b, c, none⟩) (n - c) (cap - c)) (xs.drop c) := by
  by_cases e : cap = c
  · have e2 : n - c = 0 := by omega
    have e3 : xs.drop c = [] := List.drop_eq_nil_iff.2 (by omega)
    rw [if_pos e, e2, e3]
    exact ⟨_, _, rfl, ⟨Nat.zero_le _, by unfold maxLen; omega⟩, fun h => absurd h (Nat.lt_irrefl _)⟩
  · rw [if_neg e]
    unfold Ints at h ⊢
    rw [hl] at h
    have := Rd.part h c (n - c) (cap - c) (by omega) (by omega) (by unfold maxLen; omega)
    rw [Nat.zero_add] at this
    rw [List.length_drop, hl]
    exact this.congr fun j hj => by simp [iv, List.getD_eq_getElem?_getD]
theorem ints_takeP2' {w : World} {p : Option Addr} {n t cap : Nat} {xs : List Int} (h : Ints w (.slice p n cap) xs) (hl : xs.length = n) (ht : t ≤ n) : Ints w (.slice p t cap) (xs.take t) := by
  subst hl
  exact h.take t ht
theorem ints_drop2 {w : World} {b n cap c : Nat} {xs : List Int} (h : Ints w (.slice (some ⟨b, 0, none⟩) n cap) xs) (hl : xs.length = n) (hc : c ≤ n) (h1 : n ≤ cap) (h2 : cap ≤ 2 ^ 63 - 1) : Ints w (.slice (some ⟨b, c, none⟩) (n - c) (cap - c)) (xs.drop c) := by
  unfold Ints at h ⊢
  rw [hl] at h
  have := Rd.part h c (n - c) (cap - c) (by omega) (by omega) (by unfold maxLen; omega)
  rw [Nat.zero_add] at this
  rw [List.length_drop, hl]
  exact this.congr fun j hj => by simp [iv, List.getD_eq_getElem?_getD]

set_option maxRecDepth 100000 in
set_option maxHeartbeats 4000000 in
/-- the same numbers, ascending -/
theorem dRise_any (v : Value) (ys : List Int) (w : World) (h : Ints w v ys) (h4 : ys.length ≤ 4) :
    Calls Try.prog 30 #[v] w fun e w' => ∃ (u : Value) (zs : List Int), e = .returned u ∧ OwnI 3 w' w.heap.size w'.heap.size u zs ∧ zs.Perm ys ∧ Below w.heap.size w w' := by
  have Hh := Lib.hid h
  obtain ⟨pv, cv, rfl, ⟨hv1, hv2⟩, hvc⟩ := h
  unfold maxLen at hv2
  have Hvc := Lib.hid hvc
  clear hvc
  go_enter Try.func30, Try.ntmps30
  go_wp2_with fail
  go_loopg [3, 4] ys.length (fun g s3 s4 wr => ∃ (i : Nat) (zs : List Int) (g0 k3 : Nat), i ≤ ys.length ∧ g = ys.length - i ∧ s4 = .int .i64 (i : Int) ∧ s3 = .slice (some ⟨g0, 0, none⟩) i k3 ∧ Hid (zs.Perm (ys.take i)) ∧ Hid (OwnI 3 wr w.heap.size wr.heap.size (.slice (some ⟨g0, 0, none⟩) i k3) zs) ∧ Hid (Below w.heap.size w wr))
  case atStart =>
    refine ⟨0, [], w.heap.size, 0, Nat.zero_le _, rfl, rfl, rfl, Lib.hid (by simp), ?_, Lib.hid (below_alloc w _)⟩
    exact OwnF.ints ((OwnF.made0 w 3 (iv [])).mono (Nat.le_refl _) (by simp))
  case round =>
    obtain ⟨i, zs, g0, k3, hi, rfl, rfl, rfl, hpm, ho, hb⟩ := hrel
    obtain ⟨wx, rfl⟩ : ∃ x : World, x = wr := ⟨_, rfl⟩
    have hsr := hb.out.size
    have hm : i = zs.length := by rw [hpm.out.length_eq, List.length_take]; omega
    have Hm := Lib.hid hm
    obtain ⟨_, _, e3, hk3, hk33⟩ := ho.out.shape
    injection e3 with e31 e32 e33
    subst e33
    rw [← hm] at hk3
    unfold maxLen at hk33
    have Ho := Lib.hid ho.out
    have Hpm := Lib.hid hpm.out
    have Hb := Lib.hid hb.out
    clear ho hpm hb hm e31 e32
    by_cases hlt : i < ys.length
    · have hlt2 : (i : Int) < (ys.length : Int) := by omega
      obtain ⟨bv, ov, rfl, hc⟩ := Hvc.out (by omega)
      obtain ⟨y, hy⟩ : ∃ y, y = ys.getD i 0 := ⟨_, rfl⟩
      have c1 := cell_below Hb.out (hc i hlt)
      unfold iv at c1
      rw [← hy] at c1
      have Hy := Lib.hid hy
      clear hc hy
      go_wp2_with fail
      go_loopg [5] (i + 1) (fun g s5 wr => ∃ t : Nat, t ≤ i ∧ g = t + 1 ∧ s5 = .int .i64 (t : Int) ∧ Qt wx wr)
      case atStart => exact ⟨i, Nat.le_refl _, rfl, rfl, Qt.refl _⟩
      case round =>
        obtain ⟨t, ht, rfl, rfl, hq⟩ := hrel
        obtain ⟨wy, rfl⟩ : ∃ x : World, x = wr := ⟨_, rfl⟩
        have Hq := Lib.hid hq
        have d1 := hq.cell c1
        clear hq
        have hti : (t : Int) ≤ (i : Int) := by omega
        by_cases ht0 : t = 0
        · subst ht0
          go_wp2_with fail
          go_quiet (fail)
          have Hq1 := Lib.hid (Hq.out.drewN nq)
          generalize wy.drewN nq = wz at *
          have d2 := Hq1.out.cell c1
          clear d1 c1
          have HO := Lib.hid (Ho.out.below (Hq1.out.below _))
          have hsz := Hq1.out.size
          have hw0 : w.heap.size ≤ wz.heap.size := by omega
          have Hsz := Lib.hid hsz
          have hbz : Below wz.heap.size wz wz.drew := (Below.refl _ _).drew
          have hbz2 : Below wz.heap.size wz (wz.alloc (.cells #[.int .i64 y] 3)).drew := (below_alloc wz _).drew
          have hrd2 := Lib.hid (show Rd (wz.alloc (.cells #[.int .i64 y] 3)).drew (.slice (some ⟨wz.heap.size, 0, none⟩) 1 1) 1 (fun _ => .int .i64 y) from rd_one wz _ _ rfl)
          have hbv : bv < wz.heap.size := World.block_lt_of_cell? _ _ d2
          clear hsz
          have hI1 := Lib.hid (ints_takeP2' (t := 0) HO.out.ints Hm.out.symm (Nat.zero_le _))
          have HR2 := Lib.hid (show Rd wz (.slice (some ⟨g0, 0, none⟩) i k3) i (iv (zs.drop 0)) from by
            have := HO.out.ints
            unfold Ints at this
            rwa [← Hm.out] at this)
          have Htk3 := Lib.hid (show (zs.take 0).length ≤ 1000000 by simp)
          have Htk := Lib.hid (show (zs.take 0).length = 0 by simp)
          have HL2 := Lib.hid (show (zs.drop 0).length = i by rw [List.length_drop, ← Hm.out]; rfl)
          have Hm1 := Lib.hid (show 0 + 1 ≤ maxLen by unfold maxLen; omega)
          have Hm2 := Lib.hid (show (0 + 1) * 8 ≤ 140737488355328 by omega)
          have Hm3 := Lib.hid (show 0 + 1 + i ≤ maxLen by unfold maxLen; omega)
          have Hm4 := Lib.hid (show (0 + 1 + i) * 8 ≤ 140737488355328 by omega)
          have hcp : (0 : Int) ≤ (k3 : Int) := by omega
          go_wp2_with fail
          go_region_held3 (fun w' => w'.cell? ⟨bv, ov + i, none⟩ = some (.int .i64 y) ∧ Below wz.heap.size wz w')
            (first | with_reducible assumption | exact ⟨d2, (Below.refl _ _).drew⟩ | exact ⟨cell_below hbz2 d2, hbz2⟩ | exact keep1 hb4 (by assumption) | exact keep1 (below_alloc _ _) (by assumption) | exact keep1B hb5 hbv (Nat.le_refl _) (by assumption) | exact keep1B hb6 hbv (Nat.le_refl _) (by assumption))
            (first
              | (go_at_call 45; refine (l1Ints_any _ (zs.take 0) _ (hI1.out.below hbz) Htk3.out).mono ?_; rintro e w4 ⟨u4, rfl, ho4, hb4⟩; have hofn4 := own_tk ho4 Htk.out; have hz4 : Below wz.heap.size wz w4 := below_of_drew' hb4)
              | (go_at_call 45; refine (l1Ints_any _ (zs.take 0) _ (hI1.out.below hbz2) Htk3.out).mono ?_; rintro e w4 ⟨u4, rfl, ho4, hb4⟩; have hofn4 := own_tk2 ho4 Htk.out; have hz4 := hbz2.trans (hb4.mono hbz2.size); have hrd := hrd2.out.below hb4)
              | (refine step_append_F rfl (.tmp 34) (.tmp 39) 22 rfl 3 (.int .i64 0) 8 Try.underlying22 info_int rfl wz.heap.size _ _ 0 _ rfl (hofn4.below (below_alloc _ _)) (le_alloc2 _ (Nat.le_refl _) hz4) (le_alloc2 _ (Nat.le_refl _) (Below.refl _ _)) _ 1 _ rfl (rd_one _ _ _ rfl) (fun j _ => rfl) Hm1.out Hm2.out ?_; intro v5 w5 ho5 hg5; have hb5 := grownBy_below2 hg5 (hofn4.below (below_alloc _ _)) (Nat.le_refl _) (le_alloc2 _ (Nat.le_refl _) hz4); have hB5 := (hz4.trans ((below_alloc _ _).mono hz4.size)).trans hb5; have hs5 := hB5.size)
              | (refine step_append_F rfl (.tmp 34) (.tmp 39) 22 rfl 3 (.int .i64 0) 8 Try.underlying22 info_int rfl wz.heap.size _ _ 0 _ rfl hofn4 hz4.size (Nat.le_refl _) _ 1 _ rfl hrd (fun j _ => rfl) Hm1.out Hm2.out ?_; intro v5 w5 ho5 hg5; have hb5 := grownBy_below2 hg5 hofn4 (Nat.le_refl _) hz4.size; have hB5 := hz4.trans hb5; have hs5 := hB5.size)
              | (refine step_append_F rfl (.tmp 40) (.tmp 43) 22 rfl 3 (.int .i64 0) 8 Try.underlying22 info_int rfl wz.heap.size _ _ (0 + 1) _ rfl ho5 hs5 (Nat.le_refl _) _ i (iv (zs.drop 0)) rfl (HR2.out.below hB5) (fun j _ => rfl) Hm3.out Hm4.out ?_; intro v6 w6 ho6 hg6; have hb6 := grownBy_below2 hg6 ho5 (Nat.le_refl _) hs5; have hB6 := hB5.trans hb6))
          all_goals (
            obtain ⟨g6, k6, rfl, ho7⟩ := rise_own (n := i + 1) ho6 Htk.out HL2.out (by omega)
            have Ho7 := Lib.hid (ho7.mono hw0 (Nat.le_refl _))
            have HB7 := Lib.hid ((Hb.out.trans ((Hq1.out.below _).mono hsr)).trans (hB6.mono hw0))
            clear ho6 hg6 ho5 hg5 ho7 hb6 hB6 hb5 hB5 hz4 hb4 hofn4 ho4
            go_wp2_with fail
            go_roundg (ys.length - (i + 1))
            case measure => omega
            case rel => exact ⟨i + 1, zs.take 0 ++ y :: zs.drop 0, g6, k6, by omega, rfl, by go_num, rfl, Lib.hid (rise_perm Hpm.out hlt Hy.out), Ho7.out, HB7.out⟩)
        · obtain ⟨s, rfl⟩ : ∃ s, t = s + 1 := ⟨t - 1, by omega⟩
          have hofn := Ho.out.fn
          rw [← Hm.out] at hofn
          obtain ⟨z, hz⟩ : ∃ z, z = zs.getD s 0 := ⟨_, rfl⟩
          have c2 := Hq.out.cell (hofn.cell (show s < i by omega))
          unfold iv at c2
          rw [← hz] at c2
          have Hz := Lib.hid hz
          clear hofn hz
          have hs1 : ((s + 1 : Nat) : Int) - 1 = (s : Int) := by omega
          have hsi : (s : Int) < (i : Int) := by omega
          have hs0 : (0 : Int) < ((s + 1 : Nat) : Int) := by omega
          by_cases hzy : y < z
          · go_wp2_with fail
            go_quiet (fail)
            have Hq1 := Lib.hid (Hq.out.drewN nq)
            go_wp2_with fail
            go_roundg (s + 1)
            case measure => omega
            case rel => exact ⟨s, by omega, rfl, by go_num, Hq1.out⟩
          · go_wp2_with fail
            go_quiet (fail)
            have Hq1 := Lib.hid (Hq.out.drewN nq)
            generalize wy.drewN nq = wz at *
            have d2 := Hq1.out.cell c1
            obtain ⟨t, ht2⟩ : ∃ t, t = s + 1 := ⟨_, rfl⟩
            have ht3 : (s : Int) + 1 = (t : Int) := by omega
            rw [← ht2] at ht
            rw [ht3]
            clear ht3
            clear d1 c1 hs1 hsi hs0 c2 ht2 Hz
            have HO := Lib.hid (Ho.out.below (Hq1.out.below _))
            have hsz := Hq1.out.size
            have hw0 : w.heap.size ≤ wz.heap.size := by omega
            have Hsz := Lib.hid hsz
            have hbz : Below wz.heap.size wz wz.drew := (Below.refl _ _).drew
            have hbz2 : Below wz.heap.size wz (wz.alloc (.cells #[.int .i64 y] 3)).drew := (below_alloc wz _).drew
            have hrd2 := Lib.hid (show Rd (wz.alloc (.cells #[.int .i64 y] 3)).drew (.slice (some ⟨wz.heap.size, 0, none⟩) 1 1) 1 (fun _ => .int .i64 y) from rd_one wz _ _ rfl)
            have hbv : bv < wz.heap.size := World.block_lt_of_cell? _ _ d2
            clear hsz
            by_cases hkt : k3 = t
            · obtain rfl : t = i := by omega
              obtain rfl : k3 = t := hkt
              have hI1 := Lib.hid (ints_takeP2' HO.out.ints Hm.out.symm ht)
              have hI2 := Lib.hid (show Ints wz (.slice (some ⟨g0, 0, none⟩) 0 0) (zs.drop k3) from by
                rw [List.drop_eq_nil_iff.2 (Nat.le_of_eq Hm.out.symm)]
                exact ⟨_, _, rfl, ⟨Nat.le_refl _, Nat.zero_le _⟩, fun h => absurd h (Nat.lt_irrefl _)⟩)
              have Htk3 := Lib.hid (show (zs.take k3).length ≤ 1000000 by rw [List.length_take]; omega)
              have Htk := Lib.hid (show (zs.take k3).length = k3 by rw [List.length_take, ← Hm.out]; omega)
              have HR2 := Lib.hid (show Rd wz (.slice (some ⟨g0, 0, none⟩) 0 0) 0 (iv (zs.drop k3)) from ⟨_, _, rfl, ⟨Nat.le_refl _, Nat.zero_le _⟩, fun h => absurd h (Nat.lt_irrefl _)⟩)
              have HL2 := Lib.hid (show (zs.drop k3).length = 0 by rw [List.length_drop, ← Hm.out]; omega)
              have HN : Hid (k3 + 1 + 0 = k3 + 1) := Lib.hid rfl
              have Hm1 := Lib.hid (show k3 + 1 ≤ maxLen by unfold maxLen; omega)
              have Hm2 := Lib.hid (show (k3 + 1) * 8 ≤ 140737488355328 by omega)
              have Hm3 := Lib.hid (show k3 + 1 + 0 ≤ maxLen by unfold maxLen; omega)
              have Hm4 := Lib.hid (show (k3 + 1 + 0) * 8 ≤ 140737488355328 by omega)
              go_wp2_with fail
              go_region_held3 (fun w' => w'.cell? ⟨bv, ov + k3, none⟩ = some (.int .i64 y) ∧ Below wz.heap.size wz w')
                (first | with_reducible assumption | exact ⟨d2, (Below.refl _ _).drew⟩ | exact ⟨cell_below hbz2 d2, hbz2⟩ | exact keep1 hb4 (by assumption) | exact keep1 (below_alloc _ _) (by assumption) | exact keep1B hb5 hbv (Nat.le_refl _) (by assumption) | exact keep1B hb6 hbv (Nat.le_refl _) (by assumption))
                (first
                  | (go_at_call 45; refine (l1Ints_any _ (zs.take k3) _ (hI1.out.below hbz) Htk3.out).mono ?_; rintro e w4 ⟨u4, rfl, ho4, hb4⟩; have hofn4 := own_tk ho4 Htk.out; have hz4 : Below wz.heap.size wz w4 := below_of_drew' hb4)
                  | (go_at_call 45; refine (l1Ints_any _ (zs.take k3) _ (hI1.out.below hbz2) Htk3.out).mono ?_; rintro e w4 ⟨u4, rfl, ho4, hb4⟩; have hofn4 := own_tk2 ho4 Htk.out; have hz4 := hbz2.trans (hb4.mono hbz2.size); have hrd := hrd2.out.below hb4)
                  | (refine step_append_F rfl (.tmp 34) (.tmp 39) 22 rfl 3 (.int .i64 0) 8 Try.underlying22 info_int rfl wz.heap.size _ _ k3 _ rfl (hofn4.below (below_alloc _ _)) (le_alloc2 _ (Nat.le_refl _) hz4) (le_alloc2 _ (Nat.le_refl _) (Below.refl _ _)) _ 1 _ rfl (rd_one _ _ _ rfl) (fun j _ => rfl) Hm1.out Hm2.out ?_; intro v5 w5 ho5 hg5; have hb5 := grownBy_below2 hg5 (hofn4.below (below_alloc _ _)) (Nat.le_refl _) (le_alloc2 _ (Nat.le_refl _) hz4); have hB5 := (hz4.trans ((below_alloc _ _).mono hz4.size)).trans hb5; have hs5 := hB5.size)
                  | (refine step_append_F rfl (.tmp 34) (.tmp 39) 22 rfl 3 (.int .i64 0) 8 Try.underlying22 info_int rfl wz.heap.size _ _ k3 _ rfl hofn4 hz4.size (Nat.le_refl _) _ 1 _ rfl hrd (fun j _ => rfl) Hm1.out Hm2.out ?_; intro v5 w5 ho5 hg5; have hb5 := grownBy_below2 hg5 hofn4 (Nat.le_refl _) hz4.size; have hB5 := hz4.trans hb5; have hs5 := hB5.size)
                  | (refine step_append_F rfl (.tmp 40) (.tmp 43) 22 rfl 3 (.int .i64 0) 8 Try.underlying22 info_int rfl wz.heap.size _ _ (k3 + 1) _ rfl ho5 hs5 (Nat.le_refl _) _ 0 (iv (zs.drop k3)) rfl (HR2.out.below hB5) (fun j _ => rfl) Hm3.out Hm4.out ?_; intro v6 w6 ho6 hg6; have hb6 := grownBy_below2 hg6 ho5 (Nat.le_refl _) hs5; have hB6 := hB5.trans hb6))
              all_goals (
                obtain ⟨g6, k6, rfl, ho7⟩ := rise_own (n := k3 + 1) ho6 Htk.out HL2.out (by omega)
                have Ho7 := Lib.hid (ho7.mono hw0 (Nat.le_refl _))
                have HB7 := Lib.hid ((Hb.out.trans ((Hq1.out.below _).mono hsr)).trans (hB6.mono hw0))
                clear ho6 hg6 ho5 hg5 ho7 hb6 hB6 hb5 hB5 hz4 hb4 hofn4 ho4
                go_wp2_with fail
                go_roundg (ys.length - (k3 + 1))
                case measure => omega
                case rel => exact ⟨k3 + 1, zs.take k3 ++ y :: zs.drop k3, g6, k6, by omega, rfl, by go_num, rfl, Lib.hid (rise_perm Hpm.out hlt Hy.out), Ho7.out, HB7.out⟩)
            · have hI1 := Lib.hid (ints_takeP2' HO.out.ints Hm.out.symm ht)
              have hI2 := Lib.hid (ints_drop2 HO.out.ints Hm.out.symm ht hk3 hk33)
              have Htk3 := Lib.hid (show (zs.take t).length ≤ 1000000 by rw [List.length_take]; omega)
              have Htk := Lib.hid (show (zs.take t).length = t by rw [List.length_take, ← Hm.out]; omega)
              have HR2 := Lib.hid (show Rd wz (.slice (some ⟨g0, t, none⟩) (i - t) (k3 - t)) (i - t) (iv (zs.drop t)) from by
                have := hI2.out
                unfold Ints at this
                rwa [List.length_drop, ← Hm.out] at this)
              have HL2 := Lib.hid (show (zs.drop t).length = i - t by rw [List.length_drop, ← Hm.out])
              have HN : Hid (t + 1 + (i - t) = i + 1) := Lib.hid (by omega)
              have Hm1 := Lib.hid (show t + 1 ≤ maxLen by unfold maxLen; omega)
              have Hm2 := Lib.hid (show (t + 1) * 8 ≤ 140737488355328 by omega)
              have Hm3 := Lib.hid (show t + 1 + (i - t) ≤ maxLen by unfold maxLen; omega)
              have Hm4 := Lib.hid (show (t + 1 + (i - t)) * 8 ≤ 140737488355328 by omega)
              have hcp : (t : Int) ≤ (k3 : Int) := by omega
              go_wp2_with fail
              go_region_held3 (fun w' => w'.cell? ⟨bv, ov + i, none⟩ = some (.int .i64 y) ∧ Below wz.heap.size wz w')
                (first | with_reducible assumption | exact ⟨d2, (Below.refl _ _).drew⟩ | exact ⟨cell_below hbz2 d2, hbz2⟩ | exact keep1 hb4 (by assumption) | exact keep1 (below_alloc _ _) (by assumption) | exact keep1B hb5 hbv (Nat.le_refl _) (by assumption) | exact keep1B hb6 hbv (Nat.le_refl _) (by assumption))
                (first
                  | (go_at_call 45; refine (l1Ints_any _ (zs.take t) _ (hI1.out.below hbz) Htk3.out).mono ?_; rintro e w4 ⟨u4, rfl, ho4, hb4⟩; have hofn4 := own_tk ho4 Htk.out; have hz4 : Below wz.heap.size wz w4 := below_of_drew' hb4)
                  | (go_at_call 45; refine (l1Ints_any _ (zs.take t) _ (hI1.out.below hbz2) Htk3.out).mono ?_; rintro e w4 ⟨u4, rfl, ho4, hb4⟩; have hofn4 := own_tk2 ho4 Htk.out; have hz4 := hbz2.trans (hb4.mono hbz2.size); have hrd := hrd2.out.below hb4)
                  | (refine step_append_F rfl (.tmp 34) (.tmp 39) 22 rfl 3 (.int .i64 0) 8 Try.underlying22 info_int rfl wz.heap.size _ _ t _ rfl (hofn4.below (below_alloc _ _)) (le_alloc2 _ (Nat.le_refl _) hz4) (le_alloc2 _ (Nat.le_refl _) (Below.refl _ _)) _ 1 _ rfl (rd_one _ _ _ rfl) (fun j _ => rfl) Hm1.out Hm2.out ?_; intro v5 w5 ho5 hg5; have hb5 := grownBy_below2 hg5 (hofn4.below (below_alloc _ _)) (Nat.le_refl _) (le_alloc2 _ (Nat.le_refl _) hz4); have hB5 := (hz4.trans ((below_alloc _ _).mono hz4.size)).trans hb5; have hs5 := hB5.size)
                  | (refine step_append_F rfl (.tmp 34) (.tmp 39) 22 rfl 3 (.int .i64 0) 8 Try.underlying22 info_int rfl wz.heap.size _ _ t _ rfl hofn4 hz4.size (Nat.le_refl _) _ 1 _ rfl hrd (fun j _ => rfl) Hm1.out Hm2.out ?_; intro v5 w5 ho5 hg5; have hb5 := grownBy_below2 hg5 hofn4 (Nat.le_refl _) hz4.size; have hB5 := hz4.trans hb5; have hs5 := hB5.size)
                  | (refine step_append_F rfl (.tmp 40) (.tmp 43) 22 rfl 3 (.int .i64 0) 8 Try.underlying22 info_int rfl wz.heap.size _ _ (t + 1) _ rfl ho5 hs5 (Nat.le_refl _) _ (i - t) (iv (zs.drop t)) rfl (HR2.out.below hB5) (fun j _ => rfl) Hm3.out Hm4.out ?_; intro v6 w6 ho6 hg6; have hb6 := grownBy_below2 hg6 ho5 (Nat.le_refl _) hs5; have hB6 := hB5.trans hb6))
              all_goals (
                obtain ⟨g6, k6, rfl, ho7⟩ := rise_own (n := i + 1) ho6 Htk.out HL2.out (by omega)
                have Ho7 := Lib.hid (ho7.mono hw0 (Nat.le_refl _))
                have HB7 := Lib.hid ((Hb.out.trans ((Hq1.out.below _).mono hsr)).trans (hB6.mono hw0))
                clear ho6 hg6 ho5 hg5 ho7 hb6 hB6 hb5 hB5 hz4 hb4 hofn4 ho4
                go_wp2_with fail
                go_roundg (ys.length - (i + 1))
                case measure => omega
                case rel => exact ⟨i + 1, zs.take t ++ y :: zs.drop t, g6, k6, by omega, rfl, by go_num, rfl, Lib.hid (rise_perm Hpm.out hlt Hy.out), Ho7.out, HB7.out⟩)
    · obtain rfl : i = ys.length := by omega
      have hlt2 : ¬ (ys.length : Int) < (ys.length : Int) := by omega
      go_wp2_with fail
      go_ret
      have hpf := Hpm.out
      rw [List.take_length] at hpf
      first | exact ⟨_, rfl, zs, Ho.out, hpf, Hb.out⟩ | exact ⟨_, zs, rfl, Ho.out, hpf, Hb.out⟩

end Go.Proofs.Ytfpjenmehoemcaa

namespace Go.Proofs.Ytfpjenmehoemcaa
set_option linter.all false
open Go.RowKit Go.Maps Go.WideMaps

/-- seven numbers as a key -/
def kls (e : List Int) : List Lit := e.map fun n => Lit.int .i64 n
def kv (e : List Int) : Value := .agg (e.map fun n => Value.int .i64 n).toArray
def kl (e : List Int) : Lit := .string (keyBytes (kls e))
/-- seven numbers, each from 0 to d -/
def K7 (d : Nat) (e : List Int) : Prop := e.length = 7 ∧ ∀ x ∈ e, 0 ≤ x ∧ x ≤ (d : Int)

theorem und56 : Try.prog.underlying 56 = some (.array 7 3) := by kernel_rfl
theorem und41 : Try.prog.underlying 41 = some (.map 56 3) := by kernel_rfl
theorem undI : Try.prog.underlying 3 = some (.int .i64) := by kernel_rfl
theorem arr7 : ArrKey Try.prog 56 3 7 := ⟨und56, by kernel_rfl, by kernel_rfl, by kernel_rfl⟩
theorem types_pos : ∃ m, Try.prog.types.size = m + 1 := ⟨Try.prog.types.size - 1, by have : 0 < Try.prog.types.size := of_decide_eq_true (by kernel_rfl); omega⟩
theorem klaw : Keyed Try.prog 56 := Keyed.of_law arr7.law
theorem zeroI (w : World) : (zeroValue 3).run Try.prog w = .ok (.int .i64 0) w := by kernel_rfl

theorem wf_of {d : Nat} {x : Int} (hd : d ≤ 1000000) (h : 0 ≤ x ∧ x ≤ (d : Int)) : (Lit.int .i64 x).wf = true := WalkArith.wf_i64 (by omega)
theorem keyOf_kv {e : List Int} {d : Nat} (h : K7 d e) (hd : d ≤ 1000000) : keyOf Try.prog 56 (kv e) = some (kl e) := by
  obtain ⟨hl, hr⟩ := h
  match e, hl with
  | [a, b, c, x, y, z, u], _ =>
    have wa := wf_of hd (hr a (by simp))
    have wb := wf_of hd (hr b (by simp))
    have wc := wf_of hd (hr c (by simp))
    have wx := wf_of hd (hr x (by simp))
    have wy := wf_of hd (hr y (by simp))
    have wz := wf_of hd (hr z (by simp))
    have wu := wf_of hd (hr u (by simp))
    have hkt := arr7.keyType types_pos
    obtain ⟨m, hm⟩ := types_pos
    unfold keyOf kv kl kls
    simp only [und56]
    rw [if_pos (by simp [hkt, Value.formed, und56, arr7.size]), hm]
    unfold Program.keyLits
    simp only [und56, Value.cells]
    rw [if_pos (by rw [arr7.size]; rfl), show List.range 7 = [0, 1, 2, 3, 4, 5, 6] from rfl]
    simp [arr7.one, Program.keyLits, undI, wa, wb, wc, wx, wy, wz, wu]
theorem kl_inj {e e' : List Int} {d d' : Nat} (h : K7 d e) (hd : d ≤ 1000000) (h' : K7 d' e') (hd' : d' ≤ 1000000) (hk : kl e = kl e') : e = e' := by
  have a := keyOf_kv h hd
  have b := keyOf_kv h' hd'
  rw [← hk] at b
  have := klaw.inj a b
  unfold kv at this
  injection this with this
  have := congrArg Array.toList this
  simp only [List.toList_toArray] at this
  exact (List.map_inj_right (fun x y hxy => by injection hxy)).1 this

end Go.Proofs.Ytfpjenmehoemcaa

namespace Go.Proofs.Ytfpjenmehoemcaa
set_option linter.all false
open Go.RowKit Go.Maps Go.WideMaps

abbrev DU := DataW Unit
def coef : DU → Int
  | .lit (.int _ c) => c
  | _ => 0
def SmL (h : Lit → Int) : List (Lit × DU) → Int
  | [] => 0
  | p :: l => coef p.2 * h p.1 + SmL h l
def SmD (D : DU) (h : Lit → Int) : Int := match D with
  | .map es => SmL h es
  | _ => 0
theorem SmL_perm (h : Lit → Int) {l l' : List (Lit × DU)} (hp : l.Perm l') : SmL h l = SmL h l' := by
  induction hp with
  | nil => rfl
  | cons x _ ih => simp only [SmL, ih]
  | swap x y l => simp only [SmL]; omega
  | trans _ _ a b => exact a.trans b
theorem SmL_split (h : Lit → Int) (f : Lit × DU → Bool) : ∀ l : List (Lit × DU), SmL h l = SmL h (l.filter f) + SmL h (l.filter fun p => !f p)
  | [] => rfl
  | p :: l => by
    have ih := SmL_split h f l
    cases hf : f p <;> simp [SmL, List.filter_cons, hf, ih] <;> omega
theorem find_one {l : List (Lit × DU)} {k : Lit} (hd : l.Pairwise fun p q => p.1 ≠ q.1) (hk : WideAt.IsKeyLit k) (h : Lit → Int) :
    SmL h (l.filter fun p => p.1.sameKey k) = coef ((DataW.map l).atKey k (.lit (.int .i64 0))) * h k := by
  induction l with
  | nil => simp [SmL, DataW.atKey, coef]
  | cons p l ih =>
    rw [List.pairwise_cons] at hd
    cases hs : p.1.sameKey k with
    | true =>
      have e := WideAt.sameKey_eq hs
      have hn : l.filter (fun p => p.1.sameKey k) = [] := by
        rw [List.filter_eq_nil_iff]
        intro q hq hqs
        exact hd.1 q hq (by rw [e, WideAt.sameKey_eq hqs])
      rw [List.filter_cons, if_pos hs, hn]
      simp [SmL, DataW.atKey, List.find?_cons, e, WideAt.sameKey_self hk]
    | false =>
      rw [List.filter_cons, if_neg (by rw [hs]; decide), ih hd.2]
      simp [DataW.atKey, List.find?_cons, hs]
theorem SmD_del {D : DU} (hD : Tidy D) {k : Lit} (hk : WideAt.IsKeyLit k) (h : Lit → Int) : SmD D h = SmD (D.del k) h + coef (D.atKey k (.lit (.int .i64 0))) * h k := by
  obtain ⟨es, rfl, hd⟩ := hD
  have := SmL_split h (fun p => p.1.sameKey k) es
  rw [find_one hd hk] at this
  show SmL h es = SmL h (es.filter fun p => !p.1.sameKey k) + _
  omega
theorem SmD_put {D : DU} (hD : Tidy D) {k : Lit} (h : Lit → Int) (d : DU) : SmD (D.put k d) h = SmD (D.del k) h + coef d * h k := by
  obtain ⟨es, rfl, hd⟩ := hD
  show SmL h (DataW.insert (k, d) (es.filter fun p => !p.1.sameKey k)) = SmL h (es.filter fun p => !p.1.sameKey k) + _
  rw [SmL_perm h (WideShapes.insert_perm _ _)]
  exact Int.add_comm _ _
theorem del_put {D : DU} (hD : Tidy D) {k : Lit} (hk : WideAt.IsKeyLit k) (h : Lit → Int) (d : DU) : SmD ((D.put k d).del k) h = SmD (D.del k) h := by
  have a := SmD_del (hD.put hk d) hk h
  rw [SmD_put hD h d, atKey_put_same hD.isMap hk] at a
  omega

/-! ### what is left of a map while it is ranged over -/
def SmK (D : DU) (left : Lit → Bool) (h : Lit → Int) : Int := match D with
  | .map es => SmL h (es.filter fun p => left p.1)
  | _ => 0
theorem SmK_all {D : DU} (hD : Tidy D) (hk : ∀ l, has D l = true → WideAt.IsKeyLit l) (hm : ∀ es, D = .map es → ∀ p ∈ es, WideAt.IsKeyLit p.1) (h : Lit → Int) : SmK D (has D) h = SmD D h := by
  obtain ⟨es, rfl, hd⟩ := hD
  show SmL h (es.filter fun p => has (.map es) p.1) = SmL h es
  rw [List.filter_eq_self.2]
  intro p hp
  exact List.any_eq_true.2 ⟨p, hp, WideAt.sameKey_self (hm es rfl p hp)⟩
theorem SmK_none {D : DU} {left : Lit → Bool} (hl : ∀ l, left l = false) (h : Lit → Int) : SmK D left h = 0 := by
  cases D <;> try rfl
  rename_i es
  show SmL h (es.filter fun p => left p.1) = 0
  rw [List.filter_eq_nil_iff.2 (fun p _ => by rw [hl]; decide)]
  rfl
theorem SmK_step {D : DU} (hD : Tidy D) {left : Lit → Bool} {k : Lit} (hk : WideAt.IsKeyLit k) (hl : left k = true) (h : Lit → Int) :
    SmK D left h = coef (D.atKey k (.lit (.int .i64 0))) * h k + SmK D (fun z => left z && !z.sameKey k) h := by
  obtain ⟨es, rfl, hd⟩ := hD
  show SmL h (es.filter fun p => left p.1) = _ + SmL h (es.filter fun p => left p.1 && !p.1.sameKey k)
  rw [SmL_split h (fun p => p.1.sameKey k) (es.filter fun p => left p.1), List.filter_filter, List.filter_filter, ← find_one hd hk]
  congr 1
  · congr 1
    apply List.filter_congr
    intro p _
    cases hs : p.1.sameKey k with
    | true => rw [WideAt.sameKey_eq hs, hl]; rfl
    | false => simp
  · congr 1
    apply List.filter_congr
    intro p _
    rw [Bool.and_comm]

end Go.Proofs.Ytfpjenmehoemcaa

namespace Go.Proofs.Ytfpjenmehoemcaa
set_option linter.all false
open Go.RowKit Go.Maps Go.WideMaps

abbrev Pl := List (List Int × Int)
/-- the sum over the entries -/
def Ev (P : Pl) (g : List Int → Int) : Int := match P with
  | [] => 0
  | p :: l => p.2 * g p.1 + Ev l g
theorem Ev_append (P Q : Pl) (g : List Int → Int) : Ev (P ++ Q) g = Ev P g + Ev Q g := by
  induction P with
  | nil => simp [Ev]
  | cons p l ih => simp only [List.cons_append, Ev, ih]; omega
def M64 : Int := 18446744073709551616
/-- alike but for multiples of 2^64 -/
def Cg (a b : Int) : Prop := ∃ m, a = b + M64 * m
theorem Cg.refl (a : Int) : Cg a a := ⟨0, by simp⟩
theorem Cg.of (a b : Int) (h : a = b) : Cg a b := h ▸ Cg.refl a
theorem Cg.symm {a b : Int} (h : Cg a b) : Cg b a := by
  obtain ⟨m, rfl⟩ := h
  exact ⟨-m, by rw [Int.mul_neg]; omega⟩
theorem Cg.trans {a b c : Int} (h : Cg a b) (h' : Cg b c) : Cg a c := by
  obtain ⟨m, rfl⟩ := h
  obtain ⟨m', rfl⟩ := h'
  exact ⟨m' + m, by rw [Int.mul_add]; omega⟩
theorem Cg.add {a b c e : Int} (h : Cg a b) (h' : Cg c e) : Cg (a + c) (b + e) := by
  obtain ⟨m, rfl⟩ := h
  obtain ⟨m', rfl⟩ := h'
  exact ⟨m + m', by rw [Int.mul_add]; omega⟩
theorem Cg.mul {a b c e : Int} (h : Cg a b) (h' : Cg c e) : Cg (a * c) (b * e) := by
  obtain ⟨m, rfl⟩ := h
  obtain ⟨m', rfl⟩ := h'
  refine ⟨m * e + b * m' + M64 * m * m', ?_⟩
  simp only [Int.add_mul, Int.mul_add, Int.mul_assoc, Int.mul_left_comm, Int.mul_comm]
  omega
theorem Cg.neg {a b : Int} (h : Cg a b) : Cg (-a) (-b) := by
  obtain ⟨m, rfl⟩ := h
  exact ⟨-m, by rw [Int.mul_neg]; omega⟩

open Classical in
noncomputable def unkl (l : Lit) : List Int := if h : ∃ e, l = kl e ∧ K7 1000000 e then h.choose else []
theorem K7.mono {d d' : Nat} {e : List Int} (h : K7 d e) (hd : d ≤ d') : K7 d' e := ⟨h.1, fun x hx => by have := h.2 x hx; omega⟩
theorem unkl_kl {e : List Int} {d : Nat} (h : K7 d e) (hd : d ≤ 1000000) : unkl (kl e) = e := by
  have hx : ∃ e', kl e = kl e' ∧ K7 1000000 e' := ⟨e, rfl, h.mono hd⟩
  unfold unkl
  rw [dif_pos hx]
  exact (kl_inj (h.mono hd) (Nat.le_refl _) hx.choose_spec.2 (Nat.le_refl _) hx.choose_spec.1).symm
/-- a map's datum adds up as a list does; its keys are from 0 to d -/
structure PolM (d : Nat) (D : DU) (P : Pl) : Prop where
  tidy : Tidy D
  keys : ∀ l, has D l = true → ∃ e, l = kl e ∧ K7 d e
  sum : ∀ g : List Int → Int, Cg (SmD D fun l => g (unkl l)) (Ev P g)
theorem PolM.empty (d : Nat) : PolM d (.map []) [] := ⟨tidy_empty, fun l h => by simp [has] at h, fun g => Cg.refl _⟩
theorem PolM.mono {d d' : Nat} {D : DU} {P : Pl} (h : PolM d D P) (hd : d ≤ d') : PolM d' D P :=
  ⟨h.tidy, fun l hl => by obtain ⟨e, h1, h2⟩ := h.keys l hl; exact ⟨e, h1, h2.mono hd⟩, h.sum⟩
theorem kl_lit (e : List Int) : WideAt.IsKeyLit (kl e) := trivial
/-- a number added at a key -/
def addD (D : DU) (k : Lit) (s : Int) : DU := if s = 0 then (D.put k (.lit (.int .i64 s))).del k else D.put k (.lit (.int .i64 s))
theorem PolM.add {d : Nat} {D : DU} {P : Pl} (h : PolM d D P) (hd : d ≤ 1000000) {e : List Int} (he : K7 d e) {c0 c s : Int}
    (hat : D.atKey (kl e) (.lit (.int .i64 0)) = .lit (.int .i64 c0)) (hs : Cg s (c0 + c)) : PolM d (addD D (kl e) s) (P ++ [(e, c)]) := by
  have ht := h.tidy.put (kl_lit e) (.lit (.int .i64 s))
  have hput : ∀ l, has (D.put (kl e) (.lit (.int .i64 s))) l = true → ∃ e', l = kl e' ∧ K7 d e' := fun l hl => by
    by_cases hk : l = kl e
    · exact ⟨e, hk, he⟩
    · rw [has_put_other hk] at hl
      exact h.keys l hl
  have hsum : ∀ g : List Int → Int, Cg (SmD (addD D (kl e) s) fun l => g (unkl l)) (Ev (P ++ [(e, c)]) g) := fun g => by
    have a := SmD_del h.tidy (kl_lit e) (fun l => g (unkl l))
    have b := SmD_put h.tidy (k := kl e) (fun l => g (unkl l)) (.lit (.int .i64 s))
    have b2 := del_put h.tidy (kl_lit e) (fun l => g (unkl l)) (.lit (.int .i64 s))
    have e1 : (SmD (addD D (kl e) s) fun l => g (unkl l)) = (SmD (D.del (kl e)) fun l => g (unkl l)) + s * g e := by
      unfold addD
      split
      · rename_i h0
        rw [b2, h0]; simp
      · rw [b]; simp only [coef, unkl_kl he hd]
    rw [e1, Ev_append]
    rw [hat] at a
    simp only [coef, unkl_kl he hd] at a
    have hsm := h.sum g
    rw [a] at hsm
    have h1 : Cg (s * g e) (c0 * g e + c * g e) := by rw [← Int.add_mul]; exact hs.mul (Cg.refl _)
    have h2 := (Cg.refl (SmD (D.del (kl e)) fun l => g (unkl l))).add h1
    have h3 := hsm.add (Cg.refl (c * g e))
    refine h2.trans ?_
    rw [← Int.add_assoc]
    simpa [Ev] using h3
  unfold addD at hsum ⊢
  split at hsum
  · rename_i h0
    rw [if_pos h0]
    refine ⟨ht.del _, fun l hl => ?_, hsum⟩
    by_cases hk : l = kl e
    · exact ⟨e, hk, he⟩
    · rw [has_del_other hk] at hl
      exact hput l hl
  · rename_i h0
    rw [if_neg h0]
    exact ⟨ht, hput, hsum⟩

end Go.Proofs.Ytfpjenmehoemcaa

namespace Go.Proofs.Ytfpjenmehoemcaa
set_option linter.all false
open Go.RowKit Go.Maps Go.WideMaps Go.WideElems Go.MapKept Go.ChangeMaps Go.ChangeShapes

section
variable {H : Type} {P : Program} {w : World} {t k e : TypeId} {R : Value → Option (DataW H × List MemPlace)} {b : Nat} {es : Array MapEntry} {clock : Nat}
theorem entry_es (K : KeyLaw P k) (ht : P.underlying t = some (.map k e)) {z : Value} (hz : ∀ u : World, (zeroValue e).run P u = .ok z u) (hb : w.heap[b]? = some (.map es clock)) (F : Fit P k R es clock)
    {key : Value} {kl : Lit} (hkey : keyOf P k key = some kl) {v0 : Value} {st : Nat} {es1 : Array MapEntry} {clock1 : Nat}
    (hrun : (Instr.mapEntry t (.map (some b)) key).run P w = .ok (.tuple #[v0, goInt st]) (setBlock w b (.map es1 clock1))) :
    (es1 = es ∧ ∃ e0 ∈ es.toList, e0.key = key ∧ v0 = e0.val) ∨ (es1 = es.push ⟨key, z, clock⟩ ∧ v0 = z ∧ ∀ x ∈ es.toList, x.key ≠ key) := by
  have hs : ∀ {es' : Array MapEntry} {c' : Nat}, setBlock w b (.map es1 clock1) = setBlock w b (.map es' c') → es1 = es' := fun h => by
    have h1 := heap_setBlock_same hb (.map es1 clock1)
    rw [h, heap_setBlock_same hb] at h1
    injection h1 with h1
    injection h1 with h1 _
    exact h1.symm
  rcases K.find w hkey es.toList F.keys with ⟨h1, h2⟩ | ⟨j, e0, h1, h2, h3⟩
  · have e1 : (Instr.mapEntry t (.map (some b)) key).run P w = .ok (.tuple #[z, goInt clock]) (setBlock w b (.map (es.push ⟨key, z, clock⟩) (clock + 1))) := by
      simp [Instr.mapEntry, run_underlying ht, MapKept.run_getObj_map hb, K.check w false hkey, h1, hz, MapKept.run_setObj_map _ hb, Result.andThen, setBlock]
    rw [e1] at hrun
    injection hrun with hv hw
    injection hv with hv
    have : z = v0 := by
      have := congrArg (fun a => a[0]?) hv
      simpa using this
    exact .inr ⟨hs hw.symm, this.symm, h2⟩
  · have hj : es[j]? = some e0 := by simpa using h2
    have e1 : (Instr.mapEntry t (.map (some b)) key).run P w = .ok (.tuple #[e0.val, goInt e0.born]) (setBlock w b (.map (es.modify j fun e => { e with key := key }) clock)) := by
      simp [Instr.mapEntry, run_underlying ht, MapKept.run_getObj_map hb, K.check w false hkey, h1, hj, h3, K.stays w hkey, MapKept.run_setObj_map _ hb, Result.andThen, setBlock]
    have hsame : es.modify j (fun e => { e with key := key }) = es := by
      apply Array.ext'
      rw [Array.toList_modify, modify_eq_set _ _ _ _ h2]
      have : ({ e0 with key := key } : MapEntry) = e0 := by rw [← h3]
      rw [this]
      exact set_self _ _ _ h2
    rw [e1, hsame] at hrun
    injection hrun with hv hw
    injection hv with hv
    have : e0.val = v0 := by
      have := congrArg (fun a => a[0]?) hv
      simpa using this
    exact .inl ⟨hs hw.symm, e0, List.mem_of_getElem? h2, h3, this.symm⟩
/-- a look-up finds what stands at the one entry of its key -/
theorem look_at (K : KeyLaw P k) (ht : P.underlying t = some (.map k e)) {u : World} (hb : u.heap[b]? = some (.map es clock)) (hks : ∀ x ∈ es.toList, ∃ l, keyOf P k x.key = some l)
    {key : Value} {kl : Lit} (hkey : keyOf P k key = some kl) {v0 : Value} (hv : ∀ x ∈ es.toList, x.key = key → x.val = v0) (hex : ∃ x ∈ es.toList, x.key = key) :
    (Instr.lookup t (.map (some b)) key false).run P u = .ok v0 u := by
  rcases K.find u hkey es.toList hks with ⟨h1, h2⟩ | ⟨j, e0, h1, h2, h3⟩
  · obtain ⟨x, hx, hxk⟩ := hex
    exact absurd hxk (h2 x hx)
  · have e1 := hv e0 (List.mem_of_getElem? h2) h3
    simp [Instr.lookup, run_underlying ht, MapKept.run_getObj_map hb, K.check u _ hkey, h1, e1, Result.andThen]
theorem entry_look (K : KeyLaw P k) (ht : P.underlying t = some (.map k e)) {z : Value} (hz : ∀ u : World, (zeroValue e).run P u = .ok z u) (hb : w.heap[b]? = some (.map es clock)) (F : Fit P k R es clock)
    {key : Value} {kl : Lit} (hkey : keyOf P k key = some kl) {v0 : Value} {st : Nat} {es1 : Array MapEntry} {clock1 : Nat}
    (hrun : (Instr.mapEntry t (.map (some b)) key).run P w = .ok (.tuple #[v0, goInt st]) (setBlock w b (.map es1 clock1))) :
    (Instr.lookup t (.map (some b)) key false).run P (setBlock w b (.map es1 clock1)) = .ok v0 (setBlock w b (.map es1 clock1)) ∧ (Instr.lookup t (.map (some b)) key false).run P w = .ok v0 w := by
  have hne : es.toList.Pairwise (fun x y => x.key ≠ y.key) := ((stamped_iff es clock).1 F.stamped).2.2
  rcases entry_es K ht hz hb F hkey hrun with ⟨rfl, e0, he, hk, rfl⟩ | ⟨rfl, rfl, h2⟩
  · have hall : ∀ x ∈ es1.toList, x.key = key → x.val = e0.val := fun x hx hxk => by rw [entry_eq_of_key hne hx he (hxk.trans hk.symm)]
    exact ⟨look_at K ht (heap_setBlock_same hb _) F.keys hkey hall ⟨e0, he, hk⟩, look_at K ht hb F.keys hkey hall ⟨e0, he, hk⟩⟩
  · refine ⟨look_at K ht (heap_setBlock_same hb _) (fun x hx => ?_) hkey (fun x hx hxk => ?_) ⟨⟨key, v0, clock⟩, by simp, rfl⟩, ?_⟩
    · simp only [Array.toList_push, List.mem_append, List.mem_singleton] at hx
      rcases hx with hx | rfl
      · exact F.keys x hx
      · exact ⟨kl, hkey⟩
    · simp only [Array.toList_push, List.mem_append, List.mem_singleton] at hx
      rcases hx with hx | rfl
      · exact absurd hxk (h2 x hx)
      · rfl
    · rcases K.find w hkey es.toList F.keys with ⟨h1, _⟩ | ⟨j, e0, _, h3, h4⟩
      · simp [Instr.lookup, run_underlying ht, MapKept.run_getObj_map hb, K.check w _ hkey, h1, hz, Result.andThen]
      · exact absurd h4 (h2 e0 (List.mem_of_getElem? h3))
end

end Go.Proofs.Ytfpjenmehoemcaa

namespace Go.Proofs.Ytfpjenmehoemcaa
set_option linter.all false
open Go.RowKit Go.Maps Go.WideMaps Go.WideElems Go.MapKept Go.ChangeMaps Go.ChangeShapes

abbrev OwnMp (w : World) (b n : Nat) (D : DU) : Prop := w.ownsMap Try.prog 56 (plainElem (H := Unit) Try.prog 3) b n D

theorem blk7 {w : World} {b : Nat} {x0 x1 x2 x3 x4 x5 x6 : Value} {T : TypeId} (h : w.heap[b]? = some (.cells #[x0, x1, x2, x3, x4, x5, x6] T (0, 0))) :
    w.cell? ⟨b, 0, none⟩ = some x0 ∧ w.cell? ⟨b, 1, none⟩ = some x1 ∧ w.cell? ⟨b, 2, none⟩ = some x2 ∧ w.cell? ⟨b, 3, none⟩ = some x3 ∧ w.cell? ⟨b, 4, none⟩ = some x4 ∧ w.cell? ⟨b, 5, none⟩ = some x5 ∧ w.cell? ⟨b, 6, none⟩ = some x6 ∧ (∀ j, w.frozen? ⟨b, j, none⟩ = false) ∧ b < w.heap.size :=
  ⟨cell_of_blk h rfl, cell_of_blk h rfl, cell_of_blk h rfl, cell_of_blk h rfl, cell_of_blk h rfl, cell_of_blk h rfl, cell_of_blk h rfl, free_of_blk h, (Array.getElem?_eq_some_iff.1 h).1⟩
/-- what the region of poly.add meets -/
theorem add_facts {u : World} {b n : Nat} {D : DU} {key : Value} {k0 : Lit} (hown : OwnMp u b n D) (hn : n < 1000000000000000) (hkey : keyOf Try.prog 56 key = some k0) :
    ∃ (c0 : Int) (st : Nat) (W1 : World), (Instr.lookup 41 (.map (some b)) key false).run Try.prog u = .ok (.int .i64 c0) u ∧
      D.atKey k0 (.lit (.int .i64 0)) = .lit (.int .i64 c0) ∧
      (Instr.mapEntry 41 (.map (some b)) key).run Try.prog u = .ok (.tuple #[.int .i64 c0, .int .i64 (st : Int)]) W1 ∧
      (Instr.lookup 41 (.map (some b)) key false).run Try.prog W1 = .ok (.int .i64 c0) W1 ∧
      u.grownBy W1 (some b) ∧ W1.heap.size = u.heap.size ∧
      ∀ s : Int, (Lit.int .i64 s).wf = true → ∃ W2, (Instr.entryStore 41 (.map (some b)) (.int .i64 (st : Int)) (.int .i64 s)).run Try.prog W1 = .ok () W2 ∧
        OwnMp W2 b (n + 1) (D.put k0 (.lit (.int .i64 s))) ∧ u.grownBy W2 (some b) ∧ W2.heap.size = u.heap.size := by
  have hown' := hown
  obtain ⟨c0, hl0, hat, hw0⟩ := hown.lookup_int klaw und41 undI (zeroI _) hkey
  obtain ⟨es, clock, hb, F, hs, hD⟩ := hown
  obtain ⟨v0, st, es1, clock1, h1, _, h3⟩ := entry_then_store arr7.law und41 zeroI hb F hkey
  have hlk := entry_look arr7.law und41 zeroI hb F hkey h1
  have hv : v0 = .int .i64 c0 := by
    have := hlk.2
    rw [hl0] at this
    injection this with this
    exact this.symm
  subst hv
  have hsz : ∀ o, (setBlock u b o).heap.size = u.heap.size := fun o => by simp [setBlock]
  have hgr : ∀ o, u.grownBy (setBlock u b o) (some b) := fun o => ⟨rfl, rfl, rfl, by rw [hsz]; exact Nat.le_refl _, fun i _ hi => heap_setBlock_other hb _ (fun e => hi (by rw [e]))⟩
  refine ⟨c0, st, _, hl0, hat, h1, hlk.1, hgr _, hsz _, fun s hs => ?_⟩
  obtain ⟨es', clock', hst, hup⟩ := h3 _ (.int .i64 s) (heap_setBlock_same hb _)
  obtain ⟨w', hrun, ho', hg'⟩ := hown'.update klaw und41 (by unfold maxLen; omega) hkey (plainElem_int undI hs)
  rw [hup] at hrun
  injection hrun with _ hrun
  have hh : setBlock (setBlock u b (.map es1 clock1)) b (.map es' clock') = setBlock u b (.map es' clock') := by
    simp [setBlock, Array.setIfInBounds_setIfInBounds]
  rw [hh] at hst
  exact ⟨_, hst, by rw [hrun]; exact ho', hgr _, hsz _⟩

theorem gb_undrew {u W : World} {r : Option Nat} (h : u.drew.grownBy W r) : u.grownBy W r := ⟨h.os, h.tape, h.output, h.size, h.block⟩
theorem cg_wrap (x : Int) : Cg (wrap64 x) x := ⟨-((x + 9223372036854775808) / 18446744073709551616), by unfold wrap64 M64; omega⟩
set_option maxRecDepth 100000 in
set_option maxHeartbeats 1000000 in
theorem add_any (b n d : Nat) (D : DU) (P : Pl) (e : List Int) (c : Int) (w : World) (hown : OwnMp w b n D) (hp : PolM d D P) (he : K7 d e) (hd : d ≤ 1000000) (hn : n < 1000000000000000) :
    Calls Try.prog 51 #[.map (some b), kv e, .int .i64 c] w fun e' w' => e' = .returned (.tuple #[]) ∧ ∃ D', OwnMp w' b (n + 1) D' ∧ PolM d D' (P ++ [(e, c)]) ∧ w.grownBy w' (some b) := by
  have hkey := keyOf_kv he hd
  obtain ⟨k0, hk0⟩ : ∃ k, k = kl e := ⟨_, rfl⟩
  have hadd := fun c0 s => PolM.add hp hd he (c0 := c0) (c := c) (s := s)
  rw [← hk0] at hkey hadd
  have Hadd := Lib.hid hadd
  clear hadd hk0
  obtain ⟨hl, hr⟩ := he
  match e, hl with
  | [a0, a1, a2, a3, a4, a5, a6], _ =>
  clear hr
  have hown1 : OwnMp (w.alloc (.cells #[.int .i64 a0, .int .i64 a1, .int .i64 a2, .int .i64 a3, .int .i64 a4, .int .i64 a5, .int .i64 a6] 56)).drew b n D := hown.alloc _
  have Hg0 := Lib.hid (World.grownBy_alloc w (.cells #[.int .i64 a0, .int .i64 a1, .int .i64 a2, .int .i64 a3, .int .i64 a4, .int .i64 a5, .int .i64 a6] 56) none)
  have hbw := hown.lt
  have hq := heap_alloc_top w (.cells #[.int .i64 a0, .int .i64 a1, .int .i64 a2, .int .i64 a3, .int .i64 a4, .int .i64 a5, .int .i64 a6] 56)
  obtain ⟨u, hu⟩ : ∃ u, u = w.alloc (.cells #[.int .i64 a0, .int .i64 a1, .int .i64 a2, .int .i64 a3, .int .i64 a4, .int .i64 a5, .int .i64 a6] 56) := ⟨_, rfl⟩
  obtain ⟨B, hB⟩ : ∃ B, B = w.heap.size := ⟨_, rfl⟩
  rw [← hu] at hown1 Hg0 hq
  have hkey' : keyOf Try.prog 56 (.agg #[.int .i64 a0, .int .i64 a1, .int .i64 a2, .int .i64 a3, .int .i64 a4, .int .i64 a5, .int .i64 a6]) = some k0 := hkey
  obtain ⟨c0, st, W1, hl0, hat, hent, hl1, hg1, hsz1, hst⟩ := add_facts hown1 hn hkey'
  obtain ⟨s, hs⟩ : ∃ s, s = wrap64 (c0 + c) := ⟨_, rfl⟩
  show Calls Try.prog 51 #[.map (some b), .agg #[.int .i64 a0, .int .i64 a1, .int .i64 a2, .int .i64 a3, .int .i64 a4, .int .i64 a5, .int .i64 a6], .int .i64 c] w _
  go_enter Try.func51, Try.ntmps51
  go_wp2_with fail
  rw [← hu, ← hB]
  rw [← hB] at hq hbw
  obtain ⟨f0, f1, f2, f3, f4, f5, f6, _, _⟩ := blk7 (w := u.drew) hq
  have hq1 : W1.heap[B]? = some (.cells #[.int .i64 a0, .int .i64 a1, .int .i64 a2, .int .i64 a3, .int .i64 a4, .int .i64 a5, .int .i64 a6] 56 (0, 0)) := (hg1.block B (Array.getElem?_eq_some_iff.1 hq).1 (by intro h; injection h with h; omega)).trans hq
  obtain ⟨g0, g1, g2, g3, g4, g5, g6, _, _⟩ := blk7 hq1
  obtain ⟨W2, hst2, ho2, hg2, hsz2⟩ := hst s (by rw [hs]; exact wrap64_wf _)
  have hq2 : W2.heap[B]? = some (.cells #[.int .i64 a0, .int .i64 a1, .int .i64 a2, .int .i64 a3, .int .i64 a4, .int .i64 a5, .int .i64 a6] 56 (0, 0)) := (hg2.block B (Array.getElem?_eq_some_iff.1 hq).1 (by intro h; injection h with h; omega)).trans hq
  obtain ⟨h0, h1, h2, h3, h4, h5, h6, _, _⟩ := blk7 hq2
  rw [hs] at hst2
  have Hown1 := Lib.hid hown1
  have Hst := Lib.hid hst
  have Hat := Lib.hid hat
  have Ho2 := Lib.hid ho2
  have Hg2 := Lib.hid hg2
  have Hs := Lib.hid hs
  have Hhu := Lib.hid hu
  have Hq2 := Lib.hid hq2
  have Htd := Lib.hid hp.tidy
  clear hown hown1 hst hat hg1 hu hq hq1 hq2 hg2 ho2 hs hp hbw hkey hB
  go_region
  have hown2 := Ho2.out
  obtain ⟨c1, hl2, hat2, _⟩ := hown2.lookup_int klaw und41 undI (zeroI _) hkey'
  have hc1 : c1 = s := by
    have hk : WideAt.IsKeyLit k0 := klaw.key hkey'
    rw [atKey_put_same Htd.out.isMap hk] at hat2
    injection hat2 with hat2
    injection hat2 with _ hat2
    exact hat2.symm
  subst hc1
  have hws : Cg c1 (c0 + c) := by rw [Hs.out]; exact cg_wrap _
  have hfin : ∀ (W : World), OwnMp W b (n + 1) (addD D k0 c1) → W2.grownBy W (some b) → ∃ D', OwnMp W b (n + 1) D' ∧ PolM d D' (P ++ [([a0, a1, a2, a3, a4, a5, a6], c)]) ∧ w.grownBy W (some b) := fun W h1 h2 =>
    ⟨_, h1, Hadd.out c0 c1 Hat.out hws, ((Hg0.out.but (some b)).trans (gb_undrew Hg2.out)).trans h2⟩
  have Hfin := Lib.hid hfin
  clear hfin hws hat2 hown2
  by_cases hz : c1 = 0
  · have hz' : (c1 == 0) = true := by simp [hz]
    have Hz := Lib.hid hz
    clear hz
    go_wp2_with (first | (at_delete; refine wpList_delete_own _ rfl _ _ 41 56 rfl 3 klaw und41 _ b (n + 1) _ rfl Ho2.out _ _ rfl hkey' ?_; intro w3 hown3 hturn3) | fail)
    go_end0
    exact ⟨rfl, Hfin.out _ (by unfold addD; rw [if_pos Hz.out]; exact hown3) hturn3.grown⟩
  · have hz' : (c1 == 0) = false := by simp [hz]
    go_wp2_with fail
    go_end0
    exact ⟨rfl, Hfin.out _ (by unfold addD; rw [if_neg hz]; exact Ho2.out) (World.grownBy.refl _ _)⟩

end Go.Proofs.Ytfpjenmehoemcaa
