/-
  The draws: different numbers, in any order or ascending.
  spec.DrawPairs: two permutations and different numbers. (Printed by gen_dpairs.py.)
  The law FnGkm, walked.
-/
import Derived.Test.YtajmoclnmphmgaaJ18
import Derived.Test.YtajmoclnmphmgaaJ6
import Derived.Test.YtajmoclnmphmgaaJ8
import Derived.Test.YtajmoclnmphmgaaJ10
import Derived.Test.YtajmoclnmphmgaaJ4
import Derived.Deep.RegionHeld3
import Derived.Test.YtajmoclnmphmgaaJ7
import Derived.OwnWalk
import Derived.Deep.RegionLaw
namespace Go.Proofs.Ytajmoclnmphmgaa
set_option linter.all false
open Go.RowKit

/-- the next number from -9 to 9 -/
def cyc (x : Int) : Int := (x + 10) % 19 - 9
def cycN : Nat → Int → Int
  | 0, x => x
  | j + 1, x => cycN j (cyc x)
theorem cyc_rng (x : Int) : -9 ≤ cyc x ∧ cyc x ≤ 9 := by unfold cyc; omega
theorem cyc_free {x : Int} (hx : -9 ≤ x ∧ x ≤ 9) : ∀ {out : List Int}, out.length ≤ 3 → ∃ j, j < 4 ∧ cycN j x ∉ out := by
  intro out hl
  have d01 : cycN 0 x ≠ cycN 1 x := by simp only [cycN, cyc]; omega
  have d02 : cycN 0 x ≠ cycN 2 x := by simp only [cycN, cyc]; omega
  have d03 : cycN 0 x ≠ cycN 3 x := by simp only [cycN, cyc]; omega
  have d12 : cycN 1 x ≠ cycN 2 x := by simp only [cycN, cyc]; omega
  have d13 : cycN 1 x ≠ cycN 3 x := by simp only [cycN, cyc]; omega
  have d23 : cycN 2 x ≠ cycN 3 x := by simp only [cycN, cyc]; omega
  apply Classical.byContradiction
  intro h
  have a : ∀ j, j < 4 → cycN j x ∈ out := fun j hj => Classical.byContradiction fun e => h ⟨j, hj, e⟩
  have a0 := a 0 (by omega)
  have a1 := a 1 (by omega)
  have a2 := a 2 (by omega)
  have a3 := a 3 (by omega)
  clear a h
  generalize cycN 0 x = c0 at *
  generalize cycN 1 x = c1 at *
  generalize cycN 2 x = c2 at *
  generalize cycN 3 x = c3 at *
  match out, hl with
  | [], _ => cases a0
  | [a], _ => simp at a0 a1; omega
  | [a, b], _ => simp at a0 a1 a2; omega
  | [a, b, c], _ => simp at a0 a1 a2 a3; omega

set_option maxRecDepth 100000 in
set_option maxHeartbeats 4000000 in
/-- n different numbers from -9 to 9 -/
theorem dApart_any (k n : Nat) (w : World) (h : Cur w k) (h4 : n ≤ 4) :
    Calls Try.prog 45 #[.pointer (some ⟨k, 0, none⟩), .int .i64 (n : Int)] w fun e w' =>
      ∃ (u : Value) (ys : List Int), e = .returned u ∧ OwnI 3 w' w.heap.size w'.heap.size u ys ∧ ys.length = n ∧ ys.Nodup ∧ (∀ x ∈ ys, -9 ≤ x ∧ x ≤ 9) ∧ Cur w' k ∧ Frm k (k + 1) w w' := by
  have Hc := Lib.hid h
  have hk := h.lt
  clear h
  go_enter Try.func45, Try.ntmps45
  go_wp2_with fail
  go_loopg [5] n (fun g s5 wr => ∃ (i : Nat) (cs : List Int), i ≤ n ∧ g = n - i ∧ Hid (cs.length = i) ∧ Hid (cs.Nodup) ∧ Hid (∀ x ∈ cs, -9 ≤ x ∧ x ≤ 9) ∧ Hid (OwnI 3 wr w.heap.size wr.heap.size s5 cs) ∧ Hid (Cur wr k) ∧ Hid (Frm k (k + 1) w wr))
  case atStart =>
    refine ⟨0, [], Nat.zero_le _, rfl, Lib.hid rfl, Lib.hid List.nodup_nil, Lib.hid (by simp), ?_, Hc.out.below (below_alloc w _), Frm.of_below (below_alloc w _) _ _⟩
    exact OwnF.ints ((OwnF.made0 w 3 (iv [])).mono (Nat.le_refl _) (by simp))
  case round =>
    obtain ⟨i, cs, hi, rfl, hcl, hnd, hrg, ho, hcu, hf⟩ := hrel
    obtain ⟨wx, rfl⟩ : ∃ x : World, x = wr := ⟨_, rfl⟩
    have hsr := hf.out.size
    obtain ⟨p5, k5, rfl, hk5, hk55⟩ := ho.out.shape
    have hofn := ho.out.fn
    rw [hcl.out] at hofn hk5 ⊢
    unfold maxLen at hk55
    have Ho := Lib.hid ho.out
    have Hofn := Lib.hid hofn
    have Hcl := Lib.hid hcl.out
    have Hnd := Lib.hid hnd.out
    have Hrg := Lib.hid hrg.out
    have Hcu := Lib.hid hcu.out
    have Hf := Lib.hid hf.out
    clear hcl hnd hrg ho hcu hf hofn
    by_cases hlt : i < n
    · have hlt2 : (i : Int) < (n : Int) := by omega
      have Hb1 := Lib.hid (show i + 1 ≤ maxLen by unfold maxLen; omega)
      have Hb2 := Lib.hid (show (i + 1) * 8 ≤ 140737488355328 by omega)
      go_wp2_with fail
      refine (l1Below_any k 19 _ Hcu.out (by omega) (by omega)).mono ?_
      rintro e w1 ⟨x0, rfl, hx0, hc1, hf1⟩
      have hs1 := hf1.size
      have Ho1 := Lib.hid (Ho.out.frm hf1 (Or.inr (by omega)))
      have Hofn1 := Lib.hid (Hofn.out.frm hf1 (Or.inr (by omega)))
      have Hc1 := Lib.hid hc1
      have Hf1 := Lib.hid (Hf.out.trans hf1)
      clear hc1 hf1
      rw [Hcl.out] at Ho1
      go_wp2_with fail
      go_loopg [6] 4 (fun g s6 wr => ∃ x : Int, s6 = .int .i64 x ∧ -9 ≤ x ∧ x ≤ 9 ∧ Hid (∃ j, j < g ∧ cycN j x ∉ cs) ∧ Hid (Qt w1 wr))
      case atStart => exact ⟨(x0 : Int) - 9, by go_num, by omega, by omega, Lib.hid (cyc_free ⟨by omega, by omega⟩ (by rw [Hcl.out]; omega)), Lib.hid (Qt.refl _)⟩
      case round =>
        obtain ⟨x, rfl, hx1, hx2, hfr, hq⟩ := hrel
        obtain ⟨wy, rfl⟩ : ∃ x : World, x = wr := ⟨_, rfl⟩
        have Hfr := Lib.hid hfr.out
        have Hq := Lib.hid hq.out
        obtain ⟨bb, hbb⟩ : ∃ bb, bb = decide (x ∈ cs) := ⟨_, rfl⟩
        have Hbb := Lib.hid hbb
        clear hfr hq hbb
        go_wp2_with fail
        refine (l1Has_any _ cs x _ (Ho1.out.ints.qt Hq.out)).mono ?_
        rintro e w2 ⟨rfl, hq2⟩
        rw [← Hbb.out]
        have Hq2 := Lib.hid (Hq.out.trans hq2)
        clear hq2
        cases bb with
        | true =>
          have hin : x ∈ cs := of_decide_eq_true Hbb.out.symm
          obtain ⟨j, hj, hjn⟩ := Hfr.out
          have hj0 : ∃ i, j = i + 1 := by
            cases j with
            | zero => exact absurd hin hjn
            | succ i => exact ⟨i, rfl⟩
          obtain ⟨j', rfl⟩ := hj0
          have hcr := cyc_rng x
          have Hc := Lib.hid (show ∃ j, j < gk - 1 ∧ cycN j (cyc x) ∉ cs from ⟨j', by omega, hjn⟩)
          have hcy : cyc x = (x + 10) % 19 - 9 := rfl
          have hx10 : 0 ≤ x + 10 := by omega
          clear hin hjn
          go_wp2_with fail
          go_roundg (gk - 1)
          case measure => omega
          case rel =>
            exact ⟨cyc x, by rw [hcy], hcr.1, hcr.2, Hc, Hq2⟩
        | false =>
          have Hnin := Lib.hid (show x ∉ cs from of_decide_eq_false Hbb.out.symm)
          clear Hbb
          have Hofn2 := Lib.hid (Hofn1.out.below (Hq2.out.below _))
          have Hsq := Lib.hid Hq2.out.size
          have hsq1 : w.heap.size ≤ w2.heap.size := by rw [Hsq.out]; omega
          have hsq2 : wx.heap.size ≤ w2.heap.size := by rw [Hsq.out]; omega
          go_wp2_with (at_builtin; go_must (refine wpList_append_F rfl (.tmp 22) (.tmp 24) 22 rfl 3 (.int .i64 0) 8 Try.underlying22 info_int rfl w.heap.size wx.heap.size _ i (iv cs) rfl (Hofn2.out.below (below_alloc w2 _)) (by rw [size_alloc]; omega) (by rw [size_alloc]; omega) _ 1 _ rfl (rd_one _ _ _ rfl) (fun j _ => rfl) Hb1.out Hb2.out ?_; intro v3 w3 ho3 hg3))
          go_roundg (n - (i + 1))
          case measure => omega
          case rel =>
            have hbx : Below w.heap.size w2 w3 := ((below_alloc w2 _).mono (by omega)).trans (grownBy_below hg3 Hofn2.out.blocks (Nat.le_refl _) (by rw [size_alloc]; omega))
            have hb1 : Below w.heap.size w1 w3 := (Hq2.out.below _).trans hbx
            refine ⟨i + 1, cs ++ [x], by omega, rfl, Lib.hid (by rw [List.length_append, Hcl.out]; rfl), Lib.hid ?_, Lib.hid ?_, Lib.hid ?_, Lib.hid (Hc1.out.keepB hb1 hk), Lib.hid (Hf1.out.thenB hb1 (Nat.le_refl _))⟩
            · rw [List.nodup_append]
              exact ⟨Hnd.out, by simp, fun a ha b hb e => by
                rw [List.mem_singleton] at hb
                exact Hnin.out (by rw [← hb, ← e]; exact ha)⟩
            · intro z hz
              rcases List.mem_append.1 hz with hz | hz
              · exact Hrg.out z hz
              · rw [List.mem_singleton] at hz; omega
            · exact OwnI.snoc1 (by rw [Hcl.out]; exact ho3)
    · obtain rfl : i = n := by omega
      have hlt2 : ¬ (i : Int) < (i : Int) := by omega
      go_wp2_with fail
      go_ret
      first | exact ⟨_, rfl, cs, by rw [Hcl.out] at Ho; exact Ho.out, Hcl.out, Hnd.out, Hrg.out, Hcu.out, Hf.out⟩ | exact ⟨_, cs, rfl, by rw [Hcl.out] at Ho; exact Ho.out, Hcl.out, Hnd.out, Hrg.out, Hcu.out, Hf.out⟩

theorem below_of_drew' {w w' : World} (h : Below w.drew.heap.size w.drew w') : Below w.heap.size w w' := ⟨h.os, h.tape, h.output, h.size, h.block⟩
theorem own_tk {T : TypeId} {w w0 : World} {hi n : Nat} {v : Value} {xs : List Int} (h : OwnI T w w0.drew.heap.size hi v xs) (hl : xs.length = n) : OwnF w w0.heap.size hi T v n (iv xs) := by
  subst hl
  exact h.fn
theorem rise_own {T : TypeId} {w : World} {lo hi t l n : Nat} {v : Value} {zs : List Int} {y : Int} {F : Nat → Value} (h : OwnF w lo hi T v (t + 1 + l) (fun j => if j < t + 1 then F j else iv (zs.drop t) (j - (t + 1)))) (ht : (zs.take t).length = t) (hl : (zs.drop t).length = l) (hn : t + 1 + l = n)
    (hF : F = fun j => if j < t then iv (zs.take t) j else .int .i64 y := by rfl) : ∃ g k, v = .slice (some ⟨g, 0, none⟩) n k ∧ OwnI T w lo hi (.slice (some ⟨g, 0, none⟩) n k) (zs.take t ++ y :: zs.drop t) := by
  subst hF
  have hlen : (zs.take t ++ y :: zs.drop t).length = t + 1 + l := by rw [List.length_append, List.length_cons, ht, hl]; omega
  have ho : OwnI T w lo hi v (zs.take t ++ y :: zs.drop t) := by
    refine OwnF.ints ?_
    rw [hlen]
    refine h.congr fun j hj => ?_
    have e : ∀ a b : Value, a = b → a = b := fun _ _ h => h
    unfold iv
    by_cases h1 : j < t + 1
    · rw [if_pos h1]
      dsimp only
      by_cases h2 : j < t
      · rw [if_pos h2]
        simp only [List.getD_eq_getElem?_getD]
        rw [List.getElem?_append_left (by rw [ht]; exact h2)]
      · rw [if_neg h2]
        have h3 : j = t := by omega
        simp only [List.getD_eq_getElem?_getD]
        rw [List.getElem?_append_right (by rw [ht]; omega), ht, h3, Nat.sub_self]
        rfl
    · rw [if_neg h1]
      simp only [List.getD_eq_getElem?_getD]
      rw [List.getElem?_append_right (by rw [ht]; omega), ht, show j - t = (j - (t + 1)) + 1 by omega, List.getElem?_cons_succ]
  obtain ⟨p, cap, rfl, _, _, hx⟩ := ho.fn.shape
  obtain ⟨g, rfl, _⟩ := hx (by omega)
  rw [hlen, hn] at ho
  rw [hlen, hn]
  exact ⟨g, cap, rfl, ho⟩
theorem rise_perm {zs ys : List Int} {i t : Nat} {y : Int} (h : zs.Perm (ys.take i)) (hi : i < ys.length) (hy : y = ys.getD i 0) : (zs.take t ++ y :: zs.drop t).Perm (ys.take (i + 1)) := by
  have e : ys.take (i + 1) = ys.take i ++ [y] := by rw [hy, getD_lt hi, List.take_append_getElem]
  rw [e]
  refine List.perm_middle.trans ?_
  rw [List.take_append_drop]
  refine (List.Perm.cons y h).trans ?_
  exact (List.perm_append_singleton y _).symm
theorem own_tk2 {T : TypeId} {w w0 : World} {o : Obj} {hi n : Nat} {v : Value} {xs : List Int} (h : OwnI T w (w0.alloc o).drew.heap.size hi v xs) (hl : xs.length = n) : OwnF w w0.heap.size hi T v n (iv xs) := by
  subst hl
  exact h.fn.mono (by show w0.heap.size ≤ (w0.alloc o).heap.size; rw [size_alloc]; omega) (Nat.le_refl _)
theorem le_alloc2 {w W : World} {B : Nat} (o : Obj) (h : B ≤ w.heap.size) (hb : Below w.heap.size w W) : B ≤ (W.alloc o).heap.size := by
  rw [size_alloc]; have := hb.size; omega
theorem keep1 {wr W W' : World} {a : Addr} {v : Value} (hb : Below W.heap.size W W') (h : W.cell? a = some v ∧ Below wr.heap.size wr W) : W'.cell? a = some v ∧ Below wr.heap.size wr W' :=
  ⟨cell_below hb h.1, below_trans h.2 hb⟩
theorem keep1B {wr W W' : World} {a : Addr} {v : Value} {B : Nat} (hb : Below B W W') (ha : a.block < B) (hw : wr.heap.size ≤ B) (h : W.cell? a = some v ∧ Below wr.heap.size wr W) : W'.cell? a = some v ∧ Below wr.heap.size wr W' :=
  ⟨by rw [hb.cell ha]; exact h.1, h.2.trans (hb.mono hw)⟩
theorem ints_drop3 {w : World} {b n cap c : Nat} {xs : List Int} (h : Ints w (.slice (some ⟨b, 0, none⟩) n cap) xs) (hl : xs.length = n) (hc : c ≤ n) (h1 : n ≤ cap) (h2 : cap ≤ 2 ^ 63 - 1) : Ints w (.slice (if cap = c then some ⟨b, 0, none⟩ else some ⟨b, c, none⟩) (n - c) (cap - c)) (xs.drop c) := by
  by_cases e : cap = c
  · have e2 : n - c = 0 := by omega
    have e3 : xs.drop c = [] := List.drop_eq_nil_iff.2 (by omega)
    rw [if_pos e, e2, e3]
    exact ⟨_, _, rfl, ⟨Nat.zero_le _, by unfold maxLen; omega⟩, fun h => absurd h (Nat.lt_irrefl _)⟩
  · rw [if_neg e]
    unfold Ints at h ⊢
    rw [hl] at h
    have := Rd.part h c (n - c) (cap - c) (by omega) (by omega) (by unfold maxLen; omega)
    rw [Nat.zero_add] at this
    rw [List.length_drop, hl]
    exact this.congr fun j hj => by simp [iv, List.getD_eq_getElem?_getD]
theorem ints_takeP2' {w : World} {p : Option Addr} {n t cap : Nat} {xs : List Int} (h : Ints w (.slice p n cap) xs) (hl : xs.length = n) (ht : t ≤ n) : Ints w (.slice p t cap) (xs.take t) := by
  subst hl
  exact h.take t ht
theorem ints_drop2 {w : World} {b n cap c : Nat} {xs : List Int} (h : Ints w (.slice (some ⟨b, 0, none⟩) n cap) xs) (hl : xs.length = n) (hc : c ≤ n) (h1 : n ≤ cap) (h2 : cap ≤ 2 ^ 63 - 1) : Ints w (.slice (some ⟨b, c, none⟩) (n - c) (cap - c)) (xs.drop c) := by
  unfold Ints at h ⊢
  rw [hl] at h
  have := Rd.part h c (n - c) (cap - c) (by omega) (by omega) (by unfold maxLen; omega)
  rw [Nat.zero_add] at this
  rw [List.length_drop, hl]
  exact this.congr fun j hj => by simp [iv, List.getD_eq_getElem?_getD]

set_option maxRecDepth 100000 in
set_option maxHeartbeats 4000000 in
/-- the same numbers, ascending -/
theorem dRise_any (v : Value) (ys : List Int) (w : World) (h : Ints w v ys) (h4 : ys.length ≤ 4) :
    Calls Try.prog 47 #[v] w fun e w' => ∃ (u : Value) (zs : List Int), e = .returned u ∧ OwnI 3 w' w.heap.size w'.heap.size u zs ∧ zs.Perm ys ∧ Below w.heap.size w w' := by
  have Hh := Lib.hid h
  obtain ⟨pv, cv, rfl, ⟨hv1, hv2⟩, hvc⟩ := h
  unfold maxLen at hv2
  have Hvc := Lib.hid hvc
  clear hvc
  go_enter Try.func47, Try.ntmps47
  go_wp2_with fail
  go_loopg [3, 4] ys.length (fun g s3 s4 wr => ∃ (i : Nat) (zs : List Int) (g0 k3 : Nat), i ≤ ys.length ∧ g = ys.length - i ∧ s4 = .int .i64 (i : Int) ∧ s3 = .slice (some ⟨g0, 0, none⟩) i k3 ∧ Hid (zs.Perm (ys.take i)) ∧ Hid (OwnI 3 wr w.heap.size wr.heap.size (.slice (some ⟨g0, 0, none⟩) i k3) zs) ∧ Hid (Below w.heap.size w wr))
  case atStart =>
    refine ⟨0, [], w.heap.size, 0, Nat.zero_le _, rfl, rfl, rfl, Lib.hid (by simp), ?_, Lib.hid (below_alloc w _)⟩
    exact OwnF.ints ((OwnF.made0 w 3 (iv [])).mono (Nat.le_refl _) (by simp))
  case round =>
    obtain ⟨i, zs, g0, k3, hi, rfl, rfl, rfl, hpm, ho, hb⟩ := hrel
    obtain ⟨wx, rfl⟩ : ∃ x : World, x = wr := ⟨_, rfl⟩
    have hsr := hb.out.size
    have hm : i = zs.length := by rw [hpm.out.length_eq, List.length_take]; omega
    have Hm := Lib.hid hm
    obtain ⟨_, _, e3, hk3, hk33⟩ := ho.out.shape
    injection e3 with e31 e32 e33
    subst e33
    rw [← hm] at hk3
    unfold maxLen at hk33
    have Ho := Lib.hid ho.out
    have Hpm := Lib.hid hpm.out
    have Hb := Lib.hid hb.out
    clear ho hpm hb hm e31 e32
    by_cases hlt : i < ys.length
    · have hlt2 : (i : Int) < (ys.length : Int) := by omega
      obtain ⟨bv, ov, rfl, hc⟩ := Hvc.out (by omega)
      obtain ⟨y, hy⟩ : ∃ y, y = ys.getD i 0 := ⟨_, rfl⟩
      have c1 := cell_below Hb.out (hc i hlt)
      unfold iv at c1
      rw [← hy] at c1
      have Hy := Lib.hid hy
      clear hc hy
      go_wp2_with fail
      go_loopg [5] (i + 1) (fun g s5 wr => ∃ t : Nat, t ≤ i ∧ g = t + 1 ∧ s5 = .int .i64 (t : Int) ∧ Qt wx wr)
      case atStart => exact ⟨i, Nat.le_refl _, rfl, rfl, Qt.refl _⟩
      case round =>
        obtain ⟨t, ht, rfl, rfl, hq⟩ := hrel
        obtain ⟨wy, rfl⟩ : ∃ x : World, x = wr := ⟨_, rfl⟩
        have Hq := Lib.hid hq
        have d1 := hq.cell c1
        clear hq
        have hti : (t : Int) ≤ (i : Int) := by omega
        by_cases ht0 : t = 0
        · subst ht0
          go_wp2_with fail
          go_quiet (fail)
          have Hq1 := Lib.hid (Hq.out.drewN nq)
          generalize wy.drewN nq = wz at *
          have d2 := Hq1.out.cell c1
          clear d1 c1
          have HO := Lib.hid (Ho.out.below (Hq1.out.below _))
          have hsz := Hq1.out.size
          have hw0 : w.heap.size ≤ wz.heap.size := by omega
          have Hsz := Lib.hid hsz
          have hbz : Below wz.heap.size wz wz.drew := (Below.refl _ _).drew
          have hbz2 : Below wz.heap.size wz (wz.alloc (.cells #[.int .i64 y] 3)).drew := (below_alloc wz _).drew
          have hrd2 := Lib.hid (show Rd (wz.alloc (.cells #[.int .i64 y] 3)).drew (.slice (some ⟨wz.heap.size, 0, none⟩) 1 1) 1 (fun _ => .int .i64 y) from rd_one wz _ _ rfl)
          have hbv : bv < wz.heap.size := World.block_lt_of_cell? _ _ d2
          clear hsz
          have hI1 := Lib.hid (ints_takeP2' (t := 0) HO.out.ints Hm.out.symm (Nat.zero_le _))
          have HR2 := Lib.hid (show Rd wz (.slice (some ⟨g0, 0, none⟩) i k3) i (iv (zs.drop 0)) from by
            have := HO.out.ints
            unfold Ints at this
            rwa [← Hm.out] at this)
          have Htk3 := Lib.hid (show (zs.take 0).length ≤ 1000000 by simp)
          have Htk := Lib.hid (show (zs.take 0).length = 0 by simp)
          have HL2 := Lib.hid (show (zs.drop 0).length = i by rw [List.length_drop, ← Hm.out]; rfl)
          have Hm1 := Lib.hid (show 0 + 1 ≤ maxLen by unfold maxLen; omega)
          have Hm2 := Lib.hid (show (0 + 1) * 8 ≤ 140737488355328 by omega)
          have Hm3 := Lib.hid (show 0 + 1 + i ≤ maxLen by unfold maxLen; omega)
          have Hm4 := Lib.hid (show (0 + 1 + i) * 8 ≤ 140737488355328 by omega)
          have hcp : (0 : Int) ≤ (k3 : Int) := by omega
          go_wp2_with fail
          go_region_held3 (fun w' => w'.cell? ⟨bv, ov + i, none⟩ = some (.int .i64 y) ∧ Below wz.heap.size wz w')
            (first | with_reducible assumption | exact ⟨d2, (Below.refl _ _).drew⟩ | exact ⟨cell_below hbz2 d2, hbz2⟩ | exact keep1 hb4 (by assumption) | exact keep1 (below_alloc _ _) (by assumption) | exact keep1B hb5 hbv (Nat.le_refl _) (by assumption) | exact keep1B hb6 hbv (Nat.le_refl _) (by assumption))
            (first
              | (go_at_call 63; refine (l1Ints_any _ (zs.take 0) _ (hI1.out.below hbz) Htk3.out).mono ?_; rintro e w4 ⟨u4, rfl, ho4, hb4⟩; have hofn4 := own_tk ho4 Htk.out; have hz4 : Below wz.heap.size wz w4 := below_of_drew' hb4)
              | (go_at_call 63; refine (l1Ints_any _ (zs.take 0) _ (hI1.out.below hbz2) Htk3.out).mono ?_; rintro e w4 ⟨u4, rfl, ho4, hb4⟩; have hofn4 := own_tk2 ho4 Htk.out; have hz4 := hbz2.trans (hb4.mono hbz2.size); have hrd := hrd2.out.below hb4)
              | (refine step_append_F rfl (.tmp 34) (.tmp 39) 22 rfl 3 (.int .i64 0) 8 Try.underlying22 info_int rfl wz.heap.size _ _ 0 _ rfl (hofn4.below (below_alloc _ _)) (le_alloc2 _ (Nat.le_refl _) hz4) (le_alloc2 _ (Nat.le_refl _) (Below.refl _ _)) _ 1 _ rfl (rd_one _ _ _ rfl) (fun j _ => rfl) Hm1.out Hm2.out ?_; intro v5 w5 ho5 hg5; have hb5 := grownBy_below2 hg5 (hofn4.below (below_alloc _ _)) (Nat.le_refl _) (le_alloc2 _ (Nat.le_refl _) hz4); have hB5 := (hz4.trans ((below_alloc _ _).mono hz4.size)).trans hb5; have hs5 := hB5.size)
              | (refine step_append_F rfl (.tmp 34) (.tmp 39) 22 rfl 3 (.int .i64 0) 8 Try.underlying22 info_int rfl wz.heap.size _ _ 0 _ rfl hofn4 hz4.size (Nat.le_refl _) _ 1 _ rfl hrd (fun j _ => rfl) Hm1.out Hm2.out ?_; intro v5 w5 ho5 hg5; have hb5 := grownBy_below2 hg5 hofn4 (Nat.le_refl _) hz4.size; have hB5 := hz4.trans hb5; have hs5 := hB5.size)
              | (refine step_append_F rfl (.tmp 40) (.tmp 43) 22 rfl 3 (.int .i64 0) 8 Try.underlying22 info_int rfl wz.heap.size _ _ (0 + 1) _ rfl ho5 hs5 (Nat.le_refl _) _ i (iv (zs.drop 0)) rfl (HR2.out.below hB5) (fun j _ => rfl) Hm3.out Hm4.out ?_; intro v6 w6 ho6 hg6; have hb6 := grownBy_below2 hg6 ho5 (Nat.le_refl _) hs5; have hB6 := hB5.trans hb6))
          all_goals (
            obtain ⟨g6, k6, rfl, ho7⟩ := rise_own (n := i + 1) ho6 Htk.out HL2.out (by omega)
            have Ho7 := Lib.hid (ho7.mono hw0 (Nat.le_refl _))
            have HB7 := Lib.hid ((Hb.out.trans ((Hq1.out.below _).mono hsr)).trans (hB6.mono hw0))
            clear ho6 hg6 ho5 hg5 ho7 hb6 hB6 hb5 hB5 hz4 hb4 hofn4 ho4
            go_wp2_with fail
            go_roundg (ys.length - (i + 1))
            case measure => omega
            case rel => exact ⟨i + 1, zs.take 0 ++ y :: zs.drop 0, g6, k6, by omega, rfl, by go_num, rfl, Lib.hid (rise_perm Hpm.out hlt Hy.out), Ho7.out, HB7.out⟩)
        · obtain ⟨s, rfl⟩ : ∃ s, t = s + 1 := ⟨t - 1, by omega⟩
          have hofn := Ho.out.fn
          rw [← Hm.out] at hofn
          obtain ⟨z, hz⟩ : ∃ z, z = zs.getD s 0 := ⟨_, rfl⟩
          have c2 := Hq.out.cell (hofn.cell (show s < i by omega))
          unfold iv at c2
          rw [← hz] at c2
          have Hz := Lib.hid hz
          clear hofn hz
          have hs1 : ((s + 1 : Nat) : Int) - 1 = (s : Int) := by omega
          have hsi : (s : Int) < (i : Int) := by omega
          have hs0 : (0 : Int) < ((s + 1 : Nat) : Int) := by omega
          by_cases hzy : y < z
          · go_wp2_with fail
            go_quiet (fail)
            have Hq1 := Lib.hid (Hq.out.drewN nq)
            go_wp2_with fail
            go_roundg (s + 1)
            case measure => omega
            case rel => exact ⟨s, by omega, rfl, by go_num, Hq1.out⟩
          · go_wp2_with fail
            go_quiet (fail)
            have Hq1 := Lib.hid (Hq.out.drewN nq)
            generalize wy.drewN nq = wz at *
            have d2 := Hq1.out.cell c1
            obtain ⟨t, ht2⟩ : ∃ t, t = s + 1 := ⟨_, rfl⟩
            have ht3 : (s : Int) + 1 = (t : Int) := by omega
            rw [← ht2] at ht
            rw [ht3]
            clear ht3
            clear d1 c1 hs1 hsi hs0 c2 ht2 Hz
            have HO := Lib.hid (Ho.out.below (Hq1.out.below _))
            have hsz := Hq1.out.size
            have hw0 : w.heap.size ≤ wz.heap.size := by omega
            have Hsz := Lib.hid hsz
            have hbz : Below wz.heap.size wz wz.drew := (Below.refl _ _).drew
            have hbz2 : Below wz.heap.size wz (wz.alloc (.cells #[.int .i64 y] 3)).drew := (below_alloc wz _).drew
            have hrd2 := Lib.hid (show Rd (wz.alloc (.cells #[.int .i64 y] 3)).drew (.slice (some ⟨wz.heap.size, 0, none⟩) 1 1) 1 (fun _ => .int .i64 y) from rd_one wz _ _ rfl)
            have hbv : bv < wz.heap.size := World.block_lt_of_cell? _ _ d2
            clear hsz
            by_cases hkt : k3 = t
            · obtain rfl : t = i := by omega
              obtain rfl : k3 = t := hkt
              have hI1 := Lib.hid (ints_takeP2' HO.out.ints Hm.out.symm ht)
              have hI2 := Lib.hid (show Ints wz (.slice (some ⟨g0, 0, none⟩) 0 0) (zs.drop k3) from by
                rw [List.drop_eq_nil_iff.2 (Nat.le_of_eq Hm.out.symm)]
                exact ⟨_, _, rfl, ⟨Nat.le_refl _, Nat.zero_le _⟩, fun h => absurd h (Nat.lt_irrefl _)⟩)
              have Htk3 := Lib.hid (show (zs.take k3).length ≤ 1000000 by rw [List.length_take]; omega)
              have Htk := Lib.hid (show (zs.take k3).length = k3 by rw [List.length_take, ← Hm.out]; omega)
              have HR2 := Lib.hid (show Rd wz (.slice (some ⟨g0, 0, none⟩) 0 0) 0 (iv (zs.drop k3)) from ⟨_, _, rfl, ⟨Nat.le_refl _, Nat.zero_le _⟩, fun h => absurd h (Nat.lt_irrefl _)⟩)
              have HL2 := Lib.hid (show (zs.drop k3).length = 0 by rw [List.length_drop, ← Hm.out]; omega)
              have HN : Hid (k3 + 1 + 0 = k3 + 1) := Lib.hid rfl
              have Hm1 := Lib.hid (show k3 + 1 ≤ maxLen by unfold maxLen; omega)
              have Hm2 := Lib.hid (show (k3 + 1) * 8 ≤ 140737488355328 by omega)
              have Hm3 := Lib.hid (show k3 + 1 + 0 ≤ maxLen by unfold maxLen; omega)
              have Hm4 := Lib.hid (show (k3 + 1 + 0) * 8 ≤ 140737488355328 by omega)
              go_wp2_with fail
              go_region_held3 (fun w' => w'.cell? ⟨bv, ov + k3, none⟩ = some (.int .i64 y) ∧ Below wz.heap.size wz w')
                (first | with_reducible assumption | exact ⟨d2, (Below.refl _ _).drew⟩ | exact ⟨cell_below hbz2 d2, hbz2⟩ | exact keep1 hb4 (by assumption) | exact keep1 (below_alloc _ _) (by assumption) | exact keep1B hb5 hbv (Nat.le_refl _) (by assumption) | exact keep1B hb6 hbv (Nat.le_refl _) (by assumption))
                (first
                  | (go_at_call 63; refine (l1Ints_any _ (zs.take k3) _ (hI1.out.below hbz) Htk3.out).mono ?_; rintro e w4 ⟨u4, rfl, ho4, hb4⟩; have hofn4 := own_tk ho4 Htk.out; have hz4 : Below wz.heap.size wz w4 := below_of_drew' hb4)
                  | (go_at_call 63; refine (l1Ints_any _ (zs.take k3) _ (hI1.out.below hbz2) Htk3.out).mono ?_; rintro e w4 ⟨u4, rfl, ho4, hb4⟩; have hofn4 := own_tk2 ho4 Htk.out; have hz4 := hbz2.trans (hb4.mono hbz2.size); have hrd := hrd2.out.below hb4)
                  | (refine step_append_F rfl (.tmp 34) (.tmp 39) 22 rfl 3 (.int .i64 0) 8 Try.underlying22 info_int rfl wz.heap.size _ _ k3 _ rfl (hofn4.below (below_alloc _ _)) (le_alloc2 _ (Nat.le_refl _) hz4) (le_alloc2 _ (Nat.le_refl _) (Below.refl _ _)) _ 1 _ rfl (rd_one _ _ _ rfl) (fun j _ => rfl) Hm1.out Hm2.out ?_; intro v5 w5 ho5 hg5; have hb5 := grownBy_below2 hg5 (hofn4.below (below_alloc _ _)) (Nat.le_refl _) (le_alloc2 _ (Nat.le_refl _) hz4); have hB5 := (hz4.trans ((below_alloc _ _).mono hz4.size)).trans hb5; have hs5 := hB5.size)
                  | (refine step_append_F rfl (.tmp 34) (.tmp 39) 22 rfl 3 (.int .i64 0) 8 Try.underlying22 info_int rfl wz.heap.size _ _ k3 _ rfl hofn4 hz4.size (Nat.le_refl _) _ 1 _ rfl hrd (fun j _ => rfl) Hm1.out Hm2.out ?_; intro v5 w5 ho5 hg5; have hb5 := grownBy_below2 hg5 hofn4 (Nat.le_refl _) hz4.size; have hB5 := hz4.trans hb5; have hs5 := hB5.size)
                  | (refine step_append_F rfl (.tmp 40) (.tmp 43) 22 rfl 3 (.int .i64 0) 8 Try.underlying22 info_int rfl wz.heap.size _ _ (k3 + 1) _ rfl ho5 hs5 (Nat.le_refl _) _ 0 (iv (zs.drop k3)) rfl (HR2.out.below hB5) (fun j _ => rfl) Hm3.out Hm4.out ?_; intro v6 w6 ho6 hg6; have hb6 := grownBy_below2 hg6 ho5 (Nat.le_refl _) hs5; have hB6 := hB5.trans hb6))
              all_goals (
                obtain ⟨g6, k6, rfl, ho7⟩ := rise_own (n := k3 + 1) ho6 Htk.out HL2.out (by omega)
                have Ho7 := Lib.hid (ho7.mono hw0 (Nat.le_refl _))
                have HB7 := Lib.hid ((Hb.out.trans ((Hq1.out.below _).mono hsr)).trans (hB6.mono hw0))
                clear ho6 hg6 ho5 hg5 ho7 hb6 hB6 hb5 hB5 hz4 hb4 hofn4 ho4
                go_wp2_with fail
                go_roundg (ys.length - (k3 + 1))
                case measure => omega
                case rel => exact ⟨k3 + 1, zs.take k3 ++ y :: zs.drop k3, g6, k6, by omega, rfl, by go_num, rfl, Lib.hid (rise_perm Hpm.out hlt Hy.out), Ho7.out, HB7.out⟩)
            · have hI1 := Lib.hid (ints_takeP2' HO.out.ints Hm.out.symm ht)
              have hI2 := Lib.hid (ints_drop2 HO.out.ints Hm.out.symm ht hk3 hk33)
              have Htk3 := Lib.hid (show (zs.take t).length ≤ 1000000 by rw [List.length_take]; omega)
              have Htk := Lib.hid (show (zs.take t).length = t by rw [List.length_take, ← Hm.out]; omega)
              have HR2 := Lib.hid (show Rd wz (.slice (some ⟨g0, t, none⟩) (i - t) (k3 - t)) (i - t) (iv (zs.drop t)) from by
                have := hI2.out
                unfold Ints at this
                rwa [List.length_drop, ← Hm.out] at this)
              have HL2 := Lib.hid (show (zs.drop t).length = i - t by rw [List.length_drop, ← Hm.out])
              have HN : Hid (t + 1 + (i - t) = i + 1) := Lib.hid (by omega)
              have Hm1 := Lib.hid (show t + 1 ≤ maxLen by unfold maxLen; omega)
              have Hm2 := Lib.hid (show (t + 1) * 8 ≤ 140737488355328 by omega)
              have Hm3 := Lib.hid (show t + 1 + (i - t) ≤ maxLen by unfold maxLen; omega)
              have Hm4 := Lib.hid (show (t + 1 + (i - t)) * 8 ≤ 140737488355328 by omega)
              have hcp : (t : Int) ≤ (k3 : Int) := by omega
              go_wp2_with fail
              go_region_held3 (fun w' => w'.cell? ⟨bv, ov + i, none⟩ = some (.int .i64 y) ∧ Below wz.heap.size wz w')
                (first | with_reducible assumption | exact ⟨d2, (Below.refl _ _).drew⟩ | exact ⟨cell_below hbz2 d2, hbz2⟩ | exact keep1 hb4 (by assumption) | exact keep1 (below_alloc _ _) (by assumption) | exact keep1B hb5 hbv (Nat.le_refl _) (by assumption) | exact keep1B hb6 hbv (Nat.le_refl _) (by assumption))
                (first
                  | (go_at_call 63; refine (l1Ints_any _ (zs.take t) _ (hI1.out.below hbz) Htk3.out).mono ?_; rintro e w4 ⟨u4, rfl, ho4, hb4⟩; have hofn4 := own_tk ho4 Htk.out; have hz4 : Below wz.heap.size wz w4 := below_of_drew' hb4)
                  | (go_at_call 63; refine (l1Ints_any _ (zs.take t) _ (hI1.out.below hbz2) Htk3.out).mono ?_; rintro e w4 ⟨u4, rfl, ho4, hb4⟩; have hofn4 := own_tk2 ho4 Htk.out; have hz4 := hbz2.trans (hb4.mono hbz2.size); have hrd := hrd2.out.below hb4)
                  | (refine step_append_F rfl (.tmp 34) (.tmp 39) 22 rfl 3 (.int .i64 0) 8 Try.underlying22 info_int rfl wz.heap.size _ _ t _ rfl (hofn4.below (below_alloc _ _)) (le_alloc2 _ (Nat.le_refl _) hz4) (le_alloc2 _ (Nat.le_refl _) (Below.refl _ _)) _ 1 _ rfl (rd_one _ _ _ rfl) (fun j _ => rfl) Hm1.out Hm2.out ?_; intro v5 w5 ho5 hg5; have hb5 := grownBy_below2 hg5 (hofn4.below (below_alloc _ _)) (Nat.le_refl _) (le_alloc2 _ (Nat.le_refl _) hz4); have hB5 := (hz4.trans ((below_alloc _ _).mono hz4.size)).trans hb5; have hs5 := hB5.size)
                  | (refine step_append_F rfl (.tmp 34) (.tmp 39) 22 rfl 3 (.int .i64 0) 8 Try.underlying22 info_int rfl wz.heap.size _ _ t _ rfl hofn4 hz4.size (Nat.le_refl _) _ 1 _ rfl hrd (fun j _ => rfl) Hm1.out Hm2.out ?_; intro v5 w5 ho5 hg5; have hb5 := grownBy_below2 hg5 hofn4 (Nat.le_refl _) hz4.size; have hB5 := hz4.trans hb5; have hs5 := hB5.size)
                  | (refine step_append_F rfl (.tmp 40) (.tmp 43) 22 rfl 3 (.int .i64 0) 8 Try.underlying22 info_int rfl wz.heap.size _ _ (t + 1) _ rfl ho5 hs5 (Nat.le_refl _) _ (i - t) (iv (zs.drop t)) rfl (HR2.out.below hB5) (fun j _ => rfl) Hm3.out Hm4.out ?_; intro v6 w6 ho6 hg6; have hb6 := grownBy_below2 hg6 ho5 (Nat.le_refl _) hs5; have hB6 := hB5.trans hb6))
              all_goals (
                obtain ⟨g6, k6, rfl, ho7⟩ := rise_own (n := i + 1) ho6 Htk.out HL2.out (by omega)
                have Ho7 := Lib.hid (ho7.mono hw0 (Nat.le_refl _))
                have HB7 := Lib.hid ((Hb.out.trans ((Hq1.out.below _).mono hsr)).trans (hB6.mono hw0))
                clear ho6 hg6 ho5 hg5 ho7 hb6 hB6 hb5 hB5 hz4 hb4 hofn4 ho4
                go_wp2_with fail
                go_roundg (ys.length - (i + 1))
                case measure => omega
                case rel => exact ⟨i + 1, zs.take t ++ y :: zs.drop t, g6, k6, by omega, rfl, by go_num, rfl, Lib.hid (rise_perm Hpm.out hlt Hy.out), Ho7.out, HB7.out⟩)
    · obtain rfl : i = ys.length := by omega
      have hlt2 : ¬ (ys.length : Int) < (ys.length : Int) := by omega
      go_wp2_with fail
      go_ret
      have hpf := Hpm.out
      rw [List.take_length] at hpf
      first | exact ⟨_, rfl, zs, Ho.out, hpf, Hb.out⟩ | exact ⟨_, zs, rfl, Ho.out, hpf, Hb.out⟩

end Go.Proofs.Ytajmoclnmphmgaa

namespace Go.Proofs.Ytajmoclnmphmgaa
set_option linter.all false
open Go.RowKit

set_option maxRecDepth 100000 in
set_option maxHeartbeats 8000000 in
theorem DrawPairs_any (v : Value) (l : Nat) (w : World) (h : Byts w v l) :
    Calls Try.prog 18 #[v] w fun e w' =>
      ∃ (u1 u2 u3 : Value) (xs zs ys : List Int) (n : Nat), e = .returned (.tuple #[u1, u2, u3]) ∧ Ints w' u1 xs ∧ Ints w' u2 zs ∧ Ints w' u3 ys ∧ P5 n xs ∧ P5 n zs ∧ ys.length = n ∧ ys.Nodup ∧ (∀ y ∈ ys, -9 ≤ y ∧ y ≤ 9) ∧ 1 ≤ n ∧ n ≤ 4 ∧ Below w.heap.size w w' := by
  have Hh := Lib.hid h
  obtain ⟨_, _, cap, rfl, _⟩ := h
  go_enter Try.func18, Try.ntmps18
  go_wp2_with fail
  refine (l1New_any _ l _ Hh.out).mono ?_
  rintro e w2 ⟨rfl, hc2, hb2⟩
  have HC2 := Lib.hid hc2
  have HB2 := Lib.hid hb2
  have hk2 := hc2.lt
  clear hc2 hb2
  go_wp2_with fail
  refine (l1Below_any w.heap.size 4 _ HC2.out (by omega) (by omega)).mono ?_
  rintro e w3 ⟨m, rfl, hm, hc3, hf3⟩
  have HC3 := Lib.hid hc3
  have HB3 := Lib.hid (HB2.out.trans (hf3.below (Nat.le_refl _) (by omega)))
  have hs3 := hf3.size
  clear hc3 hf3
  have hmm : 1 + (m : Int) = ((m + 1 : Nat) : Int) := by omega
  obtain ⟨n, hn⟩ : ∃ n, n = m + 1 := ⟨_, rfl⟩
  rw [← hn] at hmm
  have Hmm := Lib.hid hmm
  have hn1 : 1 ≤ n := by omega
  have hn4 : n ≤ 4 := by omega
  clear hn hmm
  go_wp2_with fail
  rw [Hmm.out]
  refine (dApart_any w.heap.size n _ HC3.out (by omega)).mono ?_
  rintro e w4 ⟨u3, ys, rfl, ho4, hl4, hd4, hr4, hc4, hf4⟩
  have HY4 := Lib.hid ho4
  have HL := Lib.hid hl4
  have HD := Lib.hid hd4
  have HR := Lib.hid hr4
  have HC4 := Lib.hid hc4
  have HB4 := Lib.hid (HB3.out.trans (hf4.below (Nat.le_refl _) (by omega)))
  have hs4 := hf4.size
  clear ho4 hl4 hd4 hr4 hc4 hf4
  go_wp2_with fail
  refine (l1Once_any w.heap.size 2 _ HC4.out (by omega) (by omega)).mono ?_
  rintro e w5 ⟨b, rfl, hc5, hf5⟩
  have HC5 := Lib.hid hc5
  have HB5 := Lib.hid (HB4.out.trans (hf5.below (Nat.le_refl _) (by omega)))
  have HY5 := Lib.hid (HY4.out.frm hf5 (Or.inr (by omega)))
  have hs5 := hf5.size
  clear hc5 hf5
  cases b with
  | false =>
    go_wp2_with fail
    refine (dPerm_any w.heap.size n _ HC5.out (by omega) (by omega)).mono ?_
    rintro e w6 ⟨u1, xs, rfl, ho1, hp1, hl1, hc6, hf6⟩
    have HX6 := Lib.hid ho1
    have HP1 := Lib.hid (show P5 n xs from ⟨hp1, hl1, by omega⟩)
    have HC6 := Lib.hid hc6
    have HB6 := Lib.hid (HB5.out.trans (hf6.below (Nat.le_refl _) (by omega)))
    have HY6 := Lib.hid (HY5.out.frm hf6 (Or.inr (by omega)))
    have hs6 := hf6.size
    clear ho1 hp1 hl1 hc6 hf6
    go_wp2_with fail
    refine (dPerm_any w.heap.size n _ HC6.out (by omega) (by omega)).mono ?_
    rintro e w7 ⟨u2, zs, rfl, ho2, hp2, hl2, hc7, hf7⟩
    have HZ7 := Lib.hid ho2
    have HP2 := Lib.hid (show P5 n zs from ⟨hp2, hl2, by omega⟩)
    have HB7 := Lib.hid (HB6.out.trans (hf7.below (Nat.le_refl _) (by omega)))
    have HY7 := Lib.hid (HY6.out.frm hf7 (Or.inr (by omega)))
    have HX7 := Lib.hid (HX6.out.frm hf7 (Or.inr (by omega)))
    clear ho2 hp2 hl2 hc7 hf7
    go_wp2_with fail
    go_ret3
    exact ⟨_, _, _, xs, zs, ys, n, rfl, HX7.out.ints, HZ7.out.ints, HY7.out.ints, HP1.out, HP2.out, HL.out, HD.out, HR.out, hn1, hn4, HB7.out⟩
  | true =>
    go_wp2_with fail
    refine (dRise_any _ ys _ HY5.out.ints (by rw [HL.out]; exact hn4)).mono ?_
    rintro e w5b ⟨u4, yr, rfl, ho5, hpm5, hb5⟩
    have HYr := Lib.hid ho5
    have HPm := Lib.hid hpm5
    have HC5b := Lib.hid (HC5.out.below hb5)
    have HB5b := Lib.hid (HB5.out.trans (hb5.mono (by omega)))
    have hs5b := hb5.size
    clear ho5 hpm5 hb5
    go_wp2_with fail
    refine (dPerm_any w.heap.size n _ HC5b.out (by omega) (by omega)).mono ?_
    rintro e w6 ⟨u1, xs, rfl, ho1, hp1, hl1, hc6, hf6⟩
    have HX6 := Lib.hid ho1
    have HP1 := Lib.hid (show P5 n xs from ⟨hp1, hl1, by omega⟩)
    have HC6 := Lib.hid hc6
    have HB6 := Lib.hid (HB5b.out.trans (hf6.below (Nat.le_refl _) (by omega)))
    have HY6 := Lib.hid (HYr.out.frm hf6 (Or.inr (by omega)))
    have hs6 := hf6.size
    clear ho1 hp1 hl1 hc6 hf6
    go_wp2_with fail
    refine (dPerm_any w.heap.size n _ HC6.out (by omega) (by omega)).mono ?_
    rintro e w7 ⟨u2, zs, rfl, ho2, hp2, hl2, hc7, hf7⟩
    have HZ7 := Lib.hid ho2
    have HP2 := Lib.hid (show P5 n zs from ⟨hp2, hl2, by omega⟩)
    have HB7 := Lib.hid (HB6.out.trans (hf7.below (Nat.le_refl _) (by omega)))
    have HY7 := Lib.hid (HY6.out.frm hf7 (Or.inr (by omega)))
    have HX7 := Lib.hid (HX6.out.frm hf7 (Or.inr (by omega)))
    clear ho2 hp2 hl2 hc7 hf7
    go_wp2_with fail
    go_ret3
    exact ⟨_, _, _, xs, zs, yr, n, rfl, HX7.out.ints, HZ7.out.ints, HY7.out.ints, HP1.out, HP2.out, (HPm.out.length_eq.trans HL.out), (HPm.out.nodup_iff.2 HD.out), (fun y hy => HR.out y (HPm.out.mem_iff.1 hy)), hn1, hn4, HB7.out⟩

end Go.Proofs.Ytajmoclnmphmgaa

namespace Go.Proofs.Ytajmoclnmphmgaa
set_option linter.all false
open Go.RowKit

theorem yOk_of {n : Nat} {ys : List Int} (h1 : 1 ≤ n) (h4 : n ≤ 4) (hl : ys.length = n) (h9 : ∀ y ∈ ys, -9 ≤ y ∧ y ≤ 9) (hn : ys.Nodup) : YOk n ys := by
  refine ⟨h1, h4, hl, h9, fun i j hi hj hne he => ?_⟩
  rw [getD_lt (by omega), getD_lt (by omega)] at he
  have hp := List.pairwise_iff_getElem.1 hn
  rcases Nat.lt_or_gt_of_ne hne with h | h
  · exact hp i j (by omega) (by omega) h he
  · exact hp j i (by omega) (by omega) h he.symm
theorem mulT_take {n : Nat} {ys u v : List Int} {i : Nat} (h : i < fact n) : (mulT n ys u v).take (i + 1) = (mulT n ys u v).take i ++ [(tabL u ys).getD i 0 * (tabL v ys).getD i 0] := by
  have hl : i < (mulT n ys u v).length := by rw [mulT_length]; exact h
  rw [← mulT_getD h, getD_lt hl, List.take_append_getElem]
theorem gkm_true {n : Nat} (v u : Value) (vs ys : List Int) (w : World) (hv : Ints w v vs) (hy : Ints w u ys) (h : GkIs n vs ys true) :
    Calls Try.prog 20 #[.int .i64 (n : Int), v, u] w fun e w' => e = .returned (.bool true) ∧ Below w.heap.size w w' := by
  have h0 := implIsGkm_any n v u vs ys w hv hy
  rw [← h.eps] at h0
  exact h0

set_option maxRecDepth 100000 in
set_option maxHeartbeats 16000000 in
theorem lawFnGkm (p : Option Addr) (l cap : Nat) (w : World) (hl : l ≤ maxLen) (h : Byts w (.slice p l cap) l) :
    Calls Try.prog 5 #[.slice p l cap] w fun e w' => e = .returned (.bool true) ∧ Below w.heap.size w w' := by
  have Hl := Lib.hid hl
  have Hh := Lib.hid h
  clear hl h
  go_enter Try.func5, Try.ntmps5
  go_wp2_with fail
  refine (big_any p l cap _ Hl.out).mono ?_
  rintro e w' ⟨rfl, rfl⟩
  by_cases hb : 1048576 < l
  · have e1 : decide (1048576 < l) = true := by simp [hb]
    rw [e1]
    go_wp2_with fail
    go_ret
    exact ⟨rfl, Below.refl _ _⟩
  have e1 : decide (1048576 < l) = false := by simp [hb]
  rw [e1]
  clear e1 hb
  go_wp2_with fail
  refine (DrawPairs_any _ l _ Hh.out).mono ?_
  rintro e w1 ⟨u1, u2, u3, us, vs, ys, n, rfl, hi1, hi2, hi3, hu5, hv5, hyl, hyn, hy9, hn1, hn4, hb1⟩
  have HU := Lib.hid hi1
  have HV := Lib.hid hi2
  have HY := Lib.hid hi3
  have Hu := Lib.hid hu5
  have Hv := Lib.hid hv5
  have YO := yOk_of hn1 hn4 hyl hy9 hyn
  have HYO := Lib.hid YO
  have HB1 := Lib.hid hb1
  obtain ⟨au, cu, rfl, ⟨hu1, hu2⟩, hux⟩ := hi1
  obtain ⟨av, cv, rfl, ⟨hv1, hv2⟩, hvx⟩ := hi2
  obtain ⟨ay, cy, rfl, ⟨hy1, hy2⟩, hyx⟩ := hi3
  unfold maxLen at hu2 hv2 hy2
  rw [hu5.len] at HU hu1 ⊢
  rw [hv5.len] at HV hv1 ⊢
  rw [hyl] at HY hy1 ⊢
  obtain ⟨F, hF⟩ : ∃ F, F = fact n := ⟨_, rfl⟩
  have hf := fact4 hn1 (show n ≤ 5 by omega)
  rw [← hF] at hf
  have HF := Lib.hid hF
  clear hux hvx hyx hu5 hv5 hyl hyn hy9 hb1 YO hF
  go_wp2_with fail
  refine (implTable_any n us ys _ _ w1 Hu.out hn1 hn4 HYO.out.len HYO.out.nine HU.out HY.out).mono ?_
  rintro e w2 ⟨ua, rfl, hoa, hb2⟩
  have hla : (tabL us ys).length = F := by rw [tabL_length, Hu.out.len, HF.out]
  have hia := hoa.ints
  obtain ⟨pa, ka, rfl, hka, hkam⟩ := hoa.shape
  unfold maxLen at hkam
  rw [hla] at hka hia ⊢
  have HA2 := Lib.hid hia
  have HB2 := Lib.hid hb2
  clear hoa hia hb2 hla
  go_wp2_with fail
  refine (implTable_any n vs ys _ _ w2 Hv.out hn1 hn4 HYO.out.len HYO.out.nine (HV.out.below HB2.out) (HY.out.below HB2.out)).mono ?_
  rintro e w3 ⟨ub, rfl, hob, hb3⟩
  have hlb : (tabL vs ys).length = F := by rw [tabL_length, Hv.out.len, HF.out]
  have hib := hob.ints
  obtain ⟨pb, kb, rfl, hkb, hkbm⟩ := hob.shape
  unfold maxLen at hkbm
  rw [hlb] at hkb hib ⊢
  have HA3 := Lib.hid (HA2.out.below hb3)
  have HBB3 := Lib.hid hib
  have HB3 := Lib.hid (below_trans HB2.out hb3)
  have hFF : ((F : Int) != (F : Int)) = false := by simp
  clear hob hib hb3 hlb HA2
  go_wp2_with fail
  refine (gkm_true _ _ (tabL us ys) ys w3 HA3.out (HY.out.below HB3.out) (gk_tab HYO.out Hu.out)).mono ?_
  rintro e w4 ⟨rfl, hb4⟩
  have HB4 := Lib.hid (below_trans HB3.out hb4)
  have HA4 := Lib.hid (HA3.out.below hb4)
  have HBB4 := Lib.hid (HBB3.out.below hb4)
  clear hb4 HA3 HBB3
  obtain ⟨ba, oa, rfl, hca⟩ : ∃ b off, pa = some ⟨b, off, none⟩ ∧ ∀ j, j < F → w4.cell? ⟨b, off + j, none⟩ = some (iv (tabL us ys) j) := by
    obtain ⟨p', k', e, _, hx⟩ := HA4.out
    have hla : (tabL us ys).length = F := by rw [tabL_length, Hu.out.len, HF.out]
    rw [hla] at hx e
    injection e with e1 e2 e3
    obtain ⟨b, off, hp, hc⟩ := hx (by omega)
    exact ⟨b, off, by rw [e1, hp], hc⟩
  obtain ⟨bb, ob, rfl, hcb⟩ : ∃ b off, pb = some ⟨b, off, none⟩ ∧ ∀ j, j < F → w4.cell? ⟨b, off + j, none⟩ = some (iv (tabL vs ys) j) := by
    obtain ⟨p', k', e, _, hx⟩ := HBB4.out
    have hla : (tabL vs ys).length = F := by rw [tabL_length, Hv.out.len, HF.out]
    rw [hla] at hx e
    injection e with e1 e2 e3
    obtain ⟨b, off, hp, hc⟩ := hx (by omega)
    exact ⟨b, off, by rw [e1, hp], hc⟩
  have Hca := Lib.hid hca
  have Hcb := Lib.hid hcb
  clear hca hcb
  obtain ⟨B4, hB4⟩ : ∃ B, B = w4.heap.size := ⟨_, rfl⟩
  have HB4e := Lib.hid hB4
  clear hB4
  go_wp2_with fail
  go_loopg [10, 11] F (fun g s10 s11 wr => ∃ j : Nat, j ≤ F ∧ g = F - j ∧ s11 = .int .i64 (j : Int) ∧ Hid (Below B4 w4 wr) ∧ Hid (B4 ≤ wr.heap.size) ∧ Hid (OwnI 3 wr B4 wr.heap.size s10 ((mulT n ys us vs).take j)))
  case atStart =>
    refine ⟨0, Nat.zero_le _, rfl, rfl, Lib.hid ?_, Lib.hid ?_, Lib.hid ?_⟩
    · rw [HB4e.out]; exact below_alloc w4 _
    · rw [size_alloc, HB4e.out]; exact Nat.le_succ _
    · have := OwnF.ints (xs := []) (OwnF.made0 w4 3 (iv []))
      rw [← HB4e.out] at this ⊢
      exact this.mono (Nat.le_refl _) (by rw [size_alloc, ← HB4e.out]; exact Nat.le_refl _)
  case round =>
    obtain ⟨j, hj, rfl, rfl, hb, hs, ho⟩ := hrel
    obtain ⟨wx, rfl⟩ : ∃ x : World, x = wr := ⟨_, rfl⟩
    have Hb := Lib.hid hb.out
    have Hs := Lib.hid hs.out
    have hofn := ho.out.fn
    have hjl : ((mulT n ys us vs).take j).length = j := by rw [List.length_take, mulT_length, ← HF.out]; omega
    obtain ⟨pc, kc, rfl, hkc, hkcm⟩ := ho.out.shape
    unfold maxLen at hkcm
    rw [hjl] at hofn hkc ⊢
    have Ho := Lib.hid hofn
    have Hjl := Lib.hid hjl
    have Hoi := Lib.hid ho.out
    clear hb hs ho hofn hjl
    have hbx : Below w4.heap.size w4 wx := by rw [← HB4e.out]; exact Hb.out
    by_cases hjF : j < F
    · have hjFi : (j : Int) < (F : Int) := by omega
      obtain ⟨a, haa⟩ : ∃ a, a = (tabL us ys).getD j 0 := ⟨_, rfl⟩
      obtain ⟨b, hbb⟩ : ∃ b, b = (tabL vs ys).getD j 0 := ⟨_, rfl⟩
      have ca : wx.cell? ⟨ba, oa + j, none⟩ = some (.int .i64 a) := by rw [cell_below hbx (Hca.out j hjF), haa]; rfl
      have cb : wx.cell? ⟨bb, ob + j, none⟩ = some (.int .i64 b) := by rw [cell_below hbx (Hcb.out j hjF), hbb]; rfl
      obtain ⟨M, hM⟩ : ∃ M, M = a * b := ⟨_, rfl⟩
      have hMb : M.natAbs ≤ 1000000 * 1000000 := by rw [hM, haa, hbb]; exact abs_mul2 (tab_bound HYO.out Hu.out (by rw [← HF.out]; exact hjF)) (tab_bound HYO.out Hv.out (by rw [← HF.out]; exact hjF))
      have Hb1 := Lib.hid (show j + 1 ≤ maxLen by unfold maxLen; omega)
      have Hb2 := Lib.hid (show (j + 1) * 8 ≤ 140737488355328 by omega)
      have HM := Lib.hid (show M = (tabL us ys).getD j 0 * (tabL vs ys).getD j 0 by rw [hM, haa, hbb])
      have ca2 : ∀ o, (wx.alloc o).cell? ⟨ba, oa + j, none⟩ = some (.int .i64 a) := fun o => cell_below (below_alloc wx o) ca
      have cb2 : ∀ o, (wx.alloc o).cell? ⟨bb, ob + j, none⟩ = some (.int .i64 b) := fun o => cell_below (below_alloc wx o) cb
      have hwM : IntKind.i64.wrap (a * b) = M := by rw [← hM, IntKind.wrap_i64]; omega
      have hd1 : Below wx.heap.size wx wx.drew := (Below.refl _ _).drew
      have Hd1 := Lib.hid hd1
      clear haa hbb hM hMb hbx hd1
      go_wp2_with fail
      go_region_law (refine step_append_F rfl (.tmp 66) (.tmp 76) 22 rfl 3 (.int .i64 0) 8 Try.underlying22 info_int rfl B4 wx.heap.size _ j (iv ((mulT n ys us vs).take j)) rfl ((Ho.out.below (below_alloc wx _)).below (Below.refl _ _).drew) (by show B4 ≤ (wx.alloc _).heap.size; rw [size_alloc]; have := Hs.out; omega) (by show wx.heap.size ≤ (wx.alloc _).heap.size; rw [size_alloc]; exact Nat.le_succ _) _ 1 _ rfl (rd_one _ _ _ rfl) (fun j _ => rfl) Hb1.out Hb2.out ?_; intro v2 w2' ho2 hg2; have Ho2 := Lib.hid ho2; have Hg2 := Lib.hid hg2; clear ho2 hg2)
      all_goals go_wp2_with fail
      all_goals go_roundg (F - (j + 1))
      all_goals try omega
      all_goals
        have hal : Below wx.heap.size wx (wx.alloc (.cells #[.int .i64 M] 3)).drew := (below_alloc wx _).drew
        have hgb : Below B4 (wx.alloc (.cells #[.int .i64 M] 3)).drew w2' := grownBy_below Hg2.out Ho.out.blocks (Nat.le_refl _) (by show B4 ≤ (wx.alloc _).heap.size; rw [size_alloc]; have := Hs.out; omega)
        have hall : Below B4 wx w2' := (hal.mono Hs.out).trans hgb
        refine ⟨j + 1, by omega, rfl, by go_num, Lib.hid (Hb.out.trans hall), Lib.hid (Nat.le_trans Hs.out hall.size), Lib.hid ?_⟩
        rw [mulT_take (by rw [← HF.out]; exact hjF), ← HM.out]
        exact OwnI.snoc1 (by rw [Hjl.out]; exact Ho2.out)
    · have hjFi : ¬ (j : Int) < (F : Int) := by omega
      have hjE : j = F := by omega
      have hbx2 := Lib.hid hbx
      have hmt : (mulT n ys us vs).take j = mulT n ys us vs := List.take_of_length_le (by rw [mulT_length, ← HF.out, hjE]; exact Nat.le_refl _)
      have HC := Lib.hid (show Ints wx (.slice pc j kc) (mulT n ys us vs) by have := Hoi.out.ints; rw [hmt, ← hmt, Hjl.out] at this; rw [hmt] at this; exact this)
      have HB5 := Lib.hid (below_trans HB4.out hbx)
      have HA5 := Lib.hid (HA4.out.below hbx)
      clear hbx hmt
      have HYx := Lib.hid (HY.out.below HB5.out)
      have hx1 := implExpand_any n _ _ (tabL us ys) ys wx HA5.out HYx.out true (gk_tab HYO.out Hu.out)
      rw [show (if true = true then expE (n : Int).toNat (tabL us ys) ys (ordL (n : Int).toNat) else ([], false)) = expE n (tabL us ys) ys (ordL n) from rfl, expE_self HYO.out Hu.out] at hx1
      have Hx1 := Lib.hid hx1
      obtain ⟨c0, _, _, hE⟩ := expE_prod HYO.out Hu.out Hv.out
      obtain ⟨L, hL⟩ : ∃ L, L = sumC n c0 := ⟨_, rfl⟩
      rw [← hL] at hE
      have HE := Lib.hid hE
      clear hL hE hx1
      subst hjE
      go_wp2_with fail
      refine Hx1.out.mono ?_
      rintro e w6 ⟨ul, rfl, hol, hb6⟩
      have hrl := hol.rd
      obtain ⟨pl, kl, rfl, _, _⟩ := hol.shape
      have HRL := Lib.hid hrl
      have HB6 := Lib.hid (below_trans HB5.out hb6)
      have HC6 := Lib.hid (HC.out.below hb6)
      clear hol hrl hb6 Hx1
      go_wp2_with fail
      refine (implTrim_yes _ us w6 (HU.out.below HB6.out) Hu.out.ok).mono ?_
      rintro e w7 ⟨ut, rfl, hot, hb7⟩
      have hit := hot.ints
      obtain ⟨pt, kt, rfl, _, _⟩ := hot.shape
      have HIT := Lib.hid hit
      have HB7 := Lib.hid (below_trans HB6.out hb7)
      have HC7 := Lib.hid (HC6.out.below hb7)
      have HRL7 := Lib.hid (HRL.out.below hb7)
      obtain ⟨nt, hnt⟩ : ∃ nt, nt = (trimL us).length := ⟨_, rfl⟩
      rw [← hnt] at HIT ⊢
      clear hot hit hb7 hnt
      go_wp2_with fail
      have hal := below_alloc w7 (.cells #[.slice pt nt kt, .int .i64 1] 41)
      have hrd2 : RdCl (w7.alloc (.cells #[.slice pt nt kt, .int .i64 1] 41)) (.slice (some ⟨w7.heap.size, 0, none⟩) 1 1) [(trimL us, 1)] := by
        refine ⟨fun _ => .slice pt nt kt, ⟨some ⟨w7.heap.size, 0, none⟩, 1, rfl, ⟨Nat.le_refl _, by unfold maxLen; omega⟩, fun _ => ⟨w7.heap.size, rfl, fun i hi j hj => ?_⟩⟩, fun i hi => ?_⟩
        · have hi0 : i = 0 := by simpa using hi
          subst hi0
          have hj2 : j = 0 ∨ j = 1 := by omega
          rcases hj2 with rfl | rfl
          · exact cell_of_blk (heap_alloc_top w7 _) (j := 0) rfl
          · exact cell_of_blk (heap_alloc_top w7 _) (j := 1) rfl
        · have hi0 : i = 0 := by simpa using hi
          subst hi0
          exact HIT.out.below hal
      refine (classes_same _ _ [(trimL us, 1)] _ (HRL7.out.below hal) hrd2).mono ?_
      rintro e w8 ⟨rfl, hq8⟩
      have HB8 := Lib.hid (below_trans HB7.out (hal.trans (hq8.below _)))
      have HC8 := Lib.hid (HC7.out.below (hal.trans (hq8.below _)))
      clear hal hrd2 hq8
      go_wp2_with fail
      refine (gkm_true _ _ (mulT n ys us vs) ys w8 HC8.out (HY.out.below HB8.out) (gk_mul HYO.out Hu.out Hv.out)).mono ?_
      rintro e w9 ⟨rfl, hb9⟩
      have HB9 := Lib.hid (below_trans HB8.out hb9)
      have HC9 := Lib.hid (HC8.out.below hb9)
      clear hb9
      have hq := implEqui_any _ _ _ us vs ys w9 (HU.out.below HB9.out) (HV.out.below HB9.out) (HY.out.below HB9.out)
      have hok : eqOk us vs ys = true := by
        unfold eqOk
        rw [Hu.out.ok, Hv.out.ok, Hu.out.len, Hv.out.len, HYO.out.ap]; simp
      rw [eqL_yes hok, Hu.out.len, HE.out] at hq
      have Hq := Lib.hid hq
      clear hq hok
      go_wp2_with fail
      refine Hq.out.mono ?_
      rintro e w10 ⟨up, rfl, hop, hb10⟩
      have hrp := hop.rd
      obtain ⟨pp, kp, rfl, _, _⟩ := hop.shape
      have HRP := Lib.hid hrp
      have HB10 := Lib.hid (below_trans HB9.out hb10)
      have HC10 := Lib.hid (HC9.out.below hb10)
      clear hop hrp hb10 Hq
      have hx2 := implExpand_any n _ _ (mulT n ys us vs) ys w10 HC10.out (HY.out.below HB10.out) true (gk_mul HYO.out Hu.out Hv.out)
      rw [show (if true = true then expE (n : Int).toNat (mulT n ys us vs) ys (ordL (n : Int).toNat) else ([], false)) = expE n (mulT n ys us vs) ys (ordL n) from rfl, HE.out] at hx2
      have Hx2 := Lib.hid hx2
      clear hx2
      go_wp2_with fail
      refine Hx2.out.mono ?_
      rintro e w11 ⟨uq, rfl, hoq, hb11⟩
      have hrq := hoq.rd
      obtain ⟨pq, kq, rfl, _, _⟩ := hoq.shape
      have HRQ := Lib.hid hrq
      have HB11 := Lib.hid (below_trans HB10.out hb11)
      have HRP11 := Lib.hid (HRP.out.below hb11)
      clear hoq hrq hb11 Hx2
      go_wp2_with fail
      refine (classes_same _ _ L _ HRP11.out HRQ.out).mono ?_
      rintro e w12 ⟨rfl, hq12⟩
      have HB12 := Lib.hid (below_trans HB11.out (hq12.below _))
      clear hq12
      go_wp2_with fail
      go_ret
      exact ⟨rfl, below_trans HB1.out HB12.out⟩

end Go.Proofs.Ytajmoclnmphmgaa
